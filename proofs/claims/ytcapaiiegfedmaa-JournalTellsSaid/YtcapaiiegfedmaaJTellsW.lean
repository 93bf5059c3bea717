/- The walk of flittinglaw32.JournalTells. -/
import Derived.Test.YtcapaiiegfedmaaJReadsW
namespace Go.Proofs.Ytcapaiiegfedmaa
open Go.RowKit Go.Shelf
theorem keep_cell {w w' : World} {p : Addr} {v : Value} (hb : Below w.heap.size w w') (h : w.cell? p = some v) : w'.cell? p = some v := (hb.cell (World.block_lt_of_cell? w p h)).trans h
set_option maxRecDepth 100000 in
set_option maxHeartbeats 3200000 in
theorem journalTells_walk (A : Option Addr) (c : Nat) (rs : List (Int × Int)) (w : World) (hx : Slc w A (recsV rs)) (hc : rs.length ≤ c) (hbig : rs.length ≤ maxLen) :
    Calls Try.prog 12 #[.slice A rs.length c] w fun e w' => e = .returned (.bool true) ∧ Below w.heap.size w w' := by
  have K1 := Lib.hid (fun W => jawake_walk W)
  have HX := Lib.hid hx
  clear hx
  by_cases hn : rs.length ≤ 60
  · have hng : decide ((60 : Int) < (rs.length : Int)) = false := by simp; omega
    have T1 := Lib.hid (fun A c W (h : Slc W A (recsV rs)) => tell_walk A c rs W h (by omega))
    go_enter Try.func12, Try.ntmps12
    go_wp2_with fail
    go_loopw [3, 4, 5, 6, 7] (fun v a b d i wr => ∃ k : Nat, k ≤ rs.length ∧ i = .int .i64 k ∧ a = .int .i64 (startsR (rs.take k) : Nat) ∧ b = .int .i64 (tellR (rs.take k)).1 ∧ d = .int .i64 ((tellR (rs.take k)).2 : Nat) ∧
        (∃ A c, v = .slice A k c ∧ wr.ownsRow w.heap.size 55 2 (.slice A k c) k (recsV (rs.take k))) ∧ Below w.heap.size w wr)
      (fun _ _ _ _ i _ => rs.length - (intOf i).toNat)
    case atStart => exact ⟨0, Nat.zero_le _, rfl, rfl, rfl, rfl, ⟨none, 0, rfl, World.ownsRow_nil _ _ _ _⟩, Below.refl _ _⟩
    case round =>
      obtain ⟨k, hk, rfl, rfl, rfl, rfl, ⟨A1, c1, rfl, hown⟩, hbr⟩ := hrel
      have hrs := hbr.size
      by_cases hlt : k < rs.length
      · obtain ⟨b, o, rfl, hlb, hc0, hc1⟩ := (HX.out.keep hbr).rec hlt
        have hT := take_one_more rs k _ (List.getElem?_eq_getElem hlt)
        have HT := Lib.hid hT
        have HS := Lib.hid (starts_snoc (rs.take k) rs[k])
        have HTL := Lib.hid (tell_snoc (rs.take k) rs[k])
        have hsl := starts_le (rs.take k)
        have htl := tell_le (rs.take k)
        rw [List.length_take] at hsl htl
        rw [← hT] at HS HTL
        have hbo : b < w.heap.size := by
          rcases HX.out with h | ⟨b', o', e, h1, _⟩
          · have := congrArg List.length h
            rw [recsV_len] at this; simp only [List.length_nil] at this; omega
          · cases e; exact h1
        have hfar : (Value.slice A1 k c1).ownBlock ≠ some b := fun h => by have := (hown.lt b h).1; omega
        clear hT HX
        generalize rs[k] = xy at *
        obtain ⟨x, y⟩ := xy
        simp only at hc0 hc1
        generalize startsR (rs.take k) = st at *
        generalize tellR (rs.take k) = tl at *
        obtain ⟨pl, di⟩ := tl
        simp only at htl
        have hi0 : (0 : Int) ≤ (k : Int) := Int.natCast_nonneg _
        have hi1 : (k : Int) < (rs.length : Int) := by omega
        go_wp2_with fail
        go_region_held3 (fun w' => w'.cell? ⟨b, o + k * 2, none⟩ = some (.int .i64 x) ∧ w'.cell? ⟨b, o + k * 2 + 1, none⟩ = some (.int .i64 y))
          (first
            | go_keep
            | (go_split_ands
               refine ⟨?_, ?_⟩
               · (rw [hgrow.cell_far _ (by simp; omega) (Ne.symm hfar)]; assumption)
               · (rw [hgrow.cell_far _ (by simp; omega) (Ne.symm hfar)]; assumption)))
          ((refine step_app1 (by rfl) _ _ _ (by rfl) elem_jrec (by rfl) ((hown.alloc _).drew) (by rfl) (cs := [.int .i64 x, .int .i64 y]) (heap_alloc_new wr _) rfl (by simp [Value.oneCell']) (by omega) (by omega) (by simp; omega) ?_; intro g' cap' w9 hown1 hgrow hb9))
        rename_i hHeld
        obtain ⟨d0, d1⟩ := hHeld
        have HOWN : Hid (w9.ownsRow w.heap.size 55 2 (.slice (some ⟨g', 0, none⟩) (k + 1) cap') (k + 1) (recsV (rs.take (k + 1)))) := by
          show w9.ownsRow _ _ _ _ _ _
          rw [HT.out, recsV_app]; exact hown1
        have HB : Hid (Below w.heap.size w w9) := (hbr.alloc hrs _).drew.trans hb9
        clear hc0 hc1 hown hown1 hgrow hb9 HT hbr
        by_cases h1 : x = 1
        · subst h1
          go_wp2_with fail
          go_roundw
          case rel => exact ⟨k + 1, by omega, by go_num, by rw [HS.out]; simp, by rw [HTL.out]; rfl, by rw [HTL.out]; rfl, ⟨_, cap', rfl, HOWN⟩, HB⟩
          case measure => simp [intOf]; omega
        by_cases h2 : x = 2
        · subst h2
          go_wp2_with fail
          go_roundw
          case rel => exact ⟨k + 1, by omega, by go_num, by rw [HS.out]; simp, by rw [HTL.out]; rfl, by rw [HTL.out]; rfl, ⟨_, cap', rfl, HOWN⟩, HB⟩
          case measure => simp [intOf]; omega
        by_cases h3 : x = 3
        · subst h3
          go_wp2_with fail
          go_roundw
          case rel => exact ⟨k + 1, by omega, by go_num, by rw [HS.out]; simp, by rw [HTL.out]; rfl, by rw [HTL.out]; simp, ⟨_, cap', rfl, HOWN⟩, HB⟩
          case measure => simp [intOf]; omega
        have e1 : (x == 1) = false := by simpa using h1
        have e2 : (x == 2) = false := by simpa using h2
        have e3 : (x == 3) = false := by simpa using h3
        have HH1 := Lib.hid h1
        have HH2 := Lib.hid h2
        have HH3 := Lib.hid h3
        clear h1 h2 h3
        go_wp2_with fail
        go_roundw
        case rel => exact ⟨k + 1, by omega, by go_num, by rw [HS.out, if_neg HH1.out]; simp, by rw [HTL.out, if_neg HH2.out, if_neg HH3.out], by rw [HTL.out, if_neg HH2.out, if_neg HH3.out], ⟨_, cap', rfl, HOWN⟩, HB⟩
        case measure => simp [intOf]; omega
      · have hk' : k = rs.length := by omega
        subst hk'
        rw [List.take_length] at hown
        simp only [List.take_length]
        obtain ⟨A2, c2, he, hcap, hs⟩ := own_form hown
        cases he
        clear hown hlt
        have hsl := starts_le rs
        have htl := tell_le rs
        have hEN : endedR rs = if h : 0 < rs.length then ((rs[rs.length - 1]).1 == 4) else false := by
          split
          · next h => exact ended_get rs h
          · next h =>
            have : rs = [] := List.length_eq_zero_iff.1 (by omega)
            rw [this]; rfl
        by_cases h0 : 0 < rs.length
        · rw [dif_pos h0] at hEN
          obtain ⟨b, o, rfl, hlb, hc0, hc1⟩ := (HX.out.keep hbr).rec (k := rs.length - 1) (by omega)
          have HN := Lib.hid hEN
          clear hEN
          generalize hlast : (rs[rs.length - 1]'(by omega)).1 = x at *
          clear hlast
          clear hc1
          generalize rs.length = n at *
          obtain ⟨m, rfl⟩ : ∃ m, n = m + 1 := ⟨n - 1, by omega⟩
          rw [Nat.add_sub_cancel] at hc0
          have hi0 : (0 : Int) ≤ (m : Int) := Int.natCast_nonneg _
          have hi1 : (m : Int) < (m : Int) + 1 := by omega
          have hwm : IntKind.i64.wrap (m : Int) = (m : Int) := by rw [IntKind.wrap_i64]; omega
          clear hng
          have hlw := World.block_lt_of_cell? wr _ hc0
          go_wp2_with fail
          refine (T1.out _ _ _ hs).mono ?_
          rintro e w1 ⟨rfl, hb1⟩
          have hc0' := keep_cell hb1 hc0
          have HB : Hid (Below w.heap.size w w1) := hbr.trans (hb1.mono hbr.size)
          clear hb1 hc0 hs hlw hlb
          rw [HN.out]
          generalize startsR rs = st at *
          generalize tellR rs = tl at *
          obtain ⟨pl, di⟩ := tl
          have hlw := World.block_lt_of_cell? w1 _ hc0'
          generalize he4 : (x == 4) = en at *
          go_wp2_with fail
          obtain ⟨W2, hW2⟩ : ∃ W2, w1.alloc (.cells #[.int .i64 st, .int .i64 pl, .int .i64 di, .bool en] 86) = W2 := ⟨_, rfl⟩
          have q : W2.heap[w1.heap.size]? = some (.cells #[.int .i64 st, .int .i64 pl, .int .i64 di, .bool en] 86 (0, 0)) := by rw [← hW2]; exact World.alloc_heap_new _ _
          have q0 : W2.cell? ⟨w1.heap.size, 0, none⟩ = some (.int .i64 st) := by simp [World.cell?, q]
          have q1 : W2.cell? ⟨w1.heap.size, 1, none⟩ = some (.int .i64 pl) := by simp [World.cell?, q]
          have q2 : W2.cell? ⟨w1.heap.size, 2, none⟩ = some (.int .i64 di) := by simp [World.cell?, q]
          have q3 : W2.cell? ⟨w1.heap.size, 3, none⟩ = some (.bool en) := by simp [World.cell?, q]
          have q4 : W2.cell? ⟨b, o + m * 2, none⟩ = some (.int .i64 x) := by rw [← hW2]; exact keep_cell ((Below.refl _ _).alloc (Nat.le_refl _) _) hc0'
          have HB2 : Hid (Below w.heap.size w W2) := by rw [← hW2]; exact HB.out.alloc HB.out.size _
          rw [hW2]
          clear hW2 q hc0' HB hlw
          go_region_held3 (fun w' => w'.cell? ⟨w1.heap.size, 0, none⟩ = some (.int .i64 st) ∧ w'.cell? ⟨w1.heap.size, 1, none⟩ = some (.int .i64 pl) ∧ w'.cell? ⟨w1.heap.size, 2, none⟩ = some (.int .i64 di) ∧ w'.cell? ⟨w1.heap.size, 3, none⟩ = some (.bool en) ∧ w'.cell? ⟨b, o + m * 2, none⟩ = some (.int .i64 x))
            (first
              | go_keep
              | (go_split_ands
                 exact ⟨keep_cell hb1 (by assumption), keep_cell hb1 (by assumption), keep_cell hb1 (by assumption), keep_cell hb1 (by assumption), keep_cell hb1 (by assumption)⟩))
            ((go_at_call 45; refine (K1.out _).mono ?_; rintro e w3 ⟨rfl, hb1⟩))
          go_wp2_with fail
          go_ret
          exact ⟨rfl, (below_draw HB2.out).trans (hb1.mono HB2.out.size)⟩
        · rw [dif_neg h0] at hEN
          have HN := Lib.hid hEN
          clear hEN
          generalize rs.length = n at *
          obtain rfl : n = 0 := by omega
          clear hng
          go_wp2_with fail
          refine (T1.out _ _ _ hs).mono ?_
          rintro e w1 ⟨rfl, hb1⟩
          have HB : Hid (Below w.heap.size w w1) := hbr.trans (hb1.mono hbr.size)
          clear hb1 hs
          rw [HN.out]
          generalize startsR rs = st at *
          generalize tellR rs = tl at *
          obtain ⟨pl, di⟩ := tl
          go_wp2_with fail
          obtain ⟨W2, hW2⟩ : ∃ W2, w1.alloc (.cells #[.int .i64 st, .int .i64 pl, .int .i64 di, .bool false] 86) = W2 := ⟨_, rfl⟩
          have q : W2.heap[w1.heap.size]? = some (.cells #[.int .i64 st, .int .i64 pl, .int .i64 di, .bool false] 86 (0, 0)) := by rw [← hW2]; exact World.alloc_heap_new _ _
          have q0 : W2.cell? ⟨w1.heap.size, 0, none⟩ = some (.int .i64 st) := by simp [World.cell?, q]
          have q1 : W2.cell? ⟨w1.heap.size, 1, none⟩ = some (.int .i64 pl) := by simp [World.cell?, q]
          have q2 : W2.cell? ⟨w1.heap.size, 2, none⟩ = some (.int .i64 di) := by simp [World.cell?, q]
          have q3 : W2.cell? ⟨w1.heap.size, 3, none⟩ = some (.bool false) := by simp [World.cell?, q]
          have HB2 : Hid (Below w.heap.size w W2) := by rw [← hW2]; exact HB.out.alloc HB.out.size _
          rw [hW2]
          clear hW2 q HB
          refine wp_region_noPanic ?_
          refine wp_region_held_drew (S := (fun w' => w'.cell? ⟨w1.heap.size, 0, none⟩ = some (.int .i64 st) ∧ w'.cell? ⟨w1.heap.size, 1, none⟩ = some (.int .i64 pl) ∧ w'.cell? ⟨w1.heap.size, 2, none⟩ = some (.int .i64 di) ∧ w'.cell? ⟨w1.heap.size, 3, none⟩ = some (.bool false))) (by kernel_rfl) ⟨q0, q1, q2, q3⟩ (fun hHeld => ?_)
          refine wpAnyH_ready (rs := [0]) (by kernel_rfl) (by simp) ?_
          refine AllReadyH.cons (o := { dst := some 62, op := Op.call { callee := Callee.value (Operand.func 45), args := #[], argTypes := #[] }, type := 4, pos := "law.go:83", after := #[], guard := none }) rfl (fun K hK => ?_) AllReadyH.nil
          go_simp
          refine (K1.out _).mono ?_
          rintro e w3 ⟨rfl, hb1⟩
          go_wp2_with fail
          refine hK.out _ _ ⟨keep_cell hb1 q0, keep_cell hb1 q1, keep_cell hb1 q2, keep_cell hb1 q3⟩ (fun hHeld2 => ?_)
          clear hK K
          try simp only [Act.put, List.setIfInBounds_toArray, List.set_cons_zero, List.set_cons_succ]
          refine wpAnyH_take (i := 1) (oi := { dst := some 63, op := Op.move (Operand.tmp 62), type := 4, pos := "law.go:83", after := #[{ on := 0, ground := Ground.data }, { on := 0, ground := Ground.chain }], guard := none }) rfl (by kernel_rfl) (by kernel_rfl) (by kernel_rfl) (fun _ _ _ h => h) (Or.inl ⟨by rfl, (by intro w hSw; (try dsimp only at hSw); go_split_ands; go_simp; try with_reducible rfl)⟩) (by assumption) ?_
          simp only [Act.put, List.setIfInBounds_toArray, List.set_cons_zero, List.set_cons_succ]
          refine wpAnyH_take (i := 2) (oi := { dst := some 64, op := Op.fieldAddr 86 (Operand.tmp 8) 0, type := 0, pos := "law.go:83", after := #[{ on := 1, ground := Ground.guard }], guard := some (1, true) }) rfl (by kernel_rfl) (by kernel_rfl) (by kernel_rfl) (fun _ _ _ h => h) (Or.inl ⟨by rfl, (by intro w hSw; (try dsimp only at hSw); go_split_ands; go_simp; try with_reducible rfl)⟩) (by assumption) ?_
          simp only [Act.put, List.setIfInBounds_toArray, List.set_cons_zero, List.set_cons_succ]
          refine wpAnyH_take (i := 3) (oi := { dst := some 65, op := Op.load 3 (Operand.tmp 64), type := 3, pos := "law.go:83", after := #[{ on := 2, ground := Ground.data }, { on := 1, ground := Ground.guard }], guard := some (1, true) }) rfl (by kernel_rfl) (by kernel_rfl) (by kernel_rfl) (fun _ _ _ h => h) (Or.inl ⟨by rfl, (by intro w hSw; (try dsimp only at hSw); go_split_ands; go_simp; try with_reducible rfl)⟩) (by assumption) ?_
          simp only [Act.put, List.setIfInBounds_toArray, List.set_cons_zero, List.set_cons_succ]
          refine wpAnyH_take (i := 4) (oi := { dst := some 66, op := Op.move (Operand.tmp 4), type := 3, pos := "law.go:83", after := #[{ on := 1, ground := Ground.guard }], guard := some (1, true) }) rfl (by kernel_rfl) (by kernel_rfl) (by kernel_rfl) (fun _ _ _ h => h) (Or.inl ⟨by rfl, (by intro w hSw; (try dsimp only at hSw); go_split_ands; go_simp; try with_reducible rfl)⟩) (by assumption) ?_
          simp only [Act.put, List.setIfInBounds_toArray, List.set_cons_zero, List.set_cons_succ]
          refine wpAnyH_take (i := 5) (oi := { dst := some 67, op := Op.binOp BinOp.eql 3 (Operand.tmp 65) (Operand.tmp 66) 3, type := 4, pos := "law.go:83", after := #[{ on := 3, ground := Ground.data }, { on := 4, ground := Ground.data }, { on := 1, ground := Ground.guard }], guard := some (1, true) }) rfl (by kernel_rfl) (by kernel_rfl) (by kernel_rfl) (fun _ _ _ h => h) (Or.inl ⟨by rfl, (by intro w hSw; (try dsimp only at hSw); go_split_ands; go_simp; try with_reducible rfl)⟩) (by assumption) ?_
          simp only [Act.put, List.setIfInBounds_toArray, List.set_cons_zero, List.set_cons_succ]
          refine wpAnyH_take (i := 6) (oi := { dst := some 68, op := Op.pick (Operand.tmp 63) (Operand.tmp 67) (Operand.const (Value.bool false)), type := 4, pos := "law.go:83", after := #[{ on := 1, ground := Ground.data }, { on := 5, ground := Ground.data }], guard := none }) rfl (by kernel_rfl) (by kernel_rfl) (by kernel_rfl) (fun _ _ _ h => h) (Or.inl ⟨by rfl, (by intro w hSw; (try dsimp only at hSw); go_split_ands; go_simp; try with_reducible rfl)⟩) (by assumption) ?_
          simp only [Act.put, List.setIfInBounds_toArray, List.set_cons_zero, List.set_cons_succ]
          refine wpAnyH_take (i := 7) (oi := { dst := some 69, op := Op.move (Operand.tmp 68), type := 4, pos := "law.go:83", after := #[{ on := 6, ground := Ground.data }, { on := 1, ground := Ground.chain }], guard := none }) rfl (by kernel_rfl) (by kernel_rfl) (by kernel_rfl) (fun _ _ _ h => h) (Or.inl ⟨by rfl, (by intro w hSw; (try dsimp only at hSw); go_split_ands; go_simp; try with_reducible rfl)⟩) (by assumption) ?_
          simp only [Act.put, List.setIfInBounds_toArray, List.set_cons_zero, List.set_cons_succ]
          refine wpAnyH_take (i := 8) (oi := { dst := some 70, op := Op.fieldAddr 86 (Operand.tmp 8) 1, type := 0, pos := "law.go:83", after := #[{ on := 7, ground := Ground.guard }], guard := some (7, true) }) rfl (by kernel_rfl) (by kernel_rfl) (by kernel_rfl) (fun _ _ _ h => h) (Or.inl ⟨by rfl, (by intro w hSw; (try dsimp only at hSw); go_split_ands; go_simp; try with_reducible rfl)⟩) (by assumption) ?_
          simp only [Act.put, List.setIfInBounds_toArray, List.set_cons_zero, List.set_cons_succ]
          refine wpAnyH_take (i := 9) (oi := { dst := some 71, op := Op.load 3 (Operand.tmp 70), type := 3, pos := "law.go:83", after := #[{ on := 8, ground := Ground.data }, { on := 7, ground := Ground.guard }], guard := some (7, true) }) rfl (by kernel_rfl) (by kernel_rfl) (by kernel_rfl) (fun _ _ _ h => h) (Or.inl ⟨by rfl, (by intro w hSw; (try dsimp only at hSw); go_split_ands; go_simp; try with_reducible rfl)⟩) (by assumption) ?_
          simp only [Act.put, List.setIfInBounds_toArray, List.set_cons_zero, List.set_cons_succ]
          refine wpAnyH_take (i := 10) (oi := { dst := some 72, op := Op.move (Operand.tmp 5), type := 3, pos := "law.go:83", after := #[{ on := 7, ground := Ground.guard }], guard := some (7, true) }) rfl (by kernel_rfl) (by kernel_rfl) (by kernel_rfl) (fun _ _ _ h => h) (Or.inl ⟨by rfl, (by intro w hSw; (try dsimp only at hSw); go_split_ands; go_simp; try with_reducible rfl)⟩) (by assumption) ?_
          simp only [Act.put, List.setIfInBounds_toArray, List.set_cons_zero, List.set_cons_succ]
          refine wpAnyH_take (i := 11) (oi := { dst := some 73, op := Op.binOp BinOp.eql 3 (Operand.tmp 71) (Operand.tmp 72) 3, type := 4, pos := "law.go:83", after := #[{ on := 9, ground := Ground.data }, { on := 10, ground := Ground.data }, { on := 7, ground := Ground.guard }], guard := some (7, true) }) rfl (by kernel_rfl) (by kernel_rfl) (by kernel_rfl) (fun _ _ _ h => h) (Or.inl ⟨by rfl, (by intro w hSw; (try dsimp only at hSw); go_split_ands; go_simp; try with_reducible rfl)⟩) (by assumption) ?_
          simp only [Act.put, List.setIfInBounds_toArray, List.set_cons_zero, List.set_cons_succ]
          refine wpAnyH_take (i := 12) (oi := { dst := some 74, op := Op.pick (Operand.tmp 69) (Operand.tmp 73) (Operand.const (Value.bool false)), type := 4, pos := "law.go:83", after := #[{ on := 7, ground := Ground.data }, { on := 11, ground := Ground.data }], guard := none }) rfl (by kernel_rfl) (by kernel_rfl) (by kernel_rfl) (fun _ _ _ h => h) (Or.inl ⟨by rfl, (by intro w hSw; (try dsimp only at hSw); go_split_ands; go_simp; try with_reducible rfl)⟩) (by assumption) ?_
          simp only [Act.put, List.setIfInBounds_toArray, List.set_cons_zero, List.set_cons_succ]
          refine wpAnyH_take (i := 13) (oi := { dst := some 75, op := Op.move (Operand.tmp 74), type := 4, pos := "law.go:83", after := #[{ on := 12, ground := Ground.data }, { on := 7, ground := Ground.chain }], guard := none }) rfl (by kernel_rfl) (by kernel_rfl) (by kernel_rfl) (fun _ _ _ h => h) (Or.inl ⟨by rfl, (by intro w hSw; (try dsimp only at hSw); go_split_ands; go_simp; try with_reducible rfl)⟩) (by assumption) ?_
          simp only [Act.put, List.setIfInBounds_toArray, List.set_cons_zero, List.set_cons_succ]
          refine wpAnyH_take (i := 14) (oi := { dst := some 76, op := Op.fieldAddr 86 (Operand.tmp 8) 2, type := 0, pos := "law.go:83", after := #[{ on := 13, ground := Ground.guard }], guard := some (13, true) }) rfl (by kernel_rfl) (by kernel_rfl) (by kernel_rfl) (fun _ _ _ h => h) (Or.inl ⟨by rfl, (by intro w hSw; (try dsimp only at hSw); go_split_ands; go_simp; try with_reducible rfl)⟩) (by assumption) ?_
          simp only [Act.put, List.setIfInBounds_toArray, List.set_cons_zero, List.set_cons_succ]
          refine wpAnyH_take (i := 15) (oi := { dst := some 77, op := Op.load 3 (Operand.tmp 76), type := 3, pos := "law.go:83", after := #[{ on := 14, ground := Ground.data }, { on := 13, ground := Ground.guard }], guard := some (13, true) }) rfl (by kernel_rfl) (by kernel_rfl) (by kernel_rfl) (fun _ _ _ h => h) (Or.inl ⟨by rfl, (by intro w hSw; (try dsimp only at hSw); go_split_ands; go_simp; try with_reducible rfl)⟩) (by assumption) ?_
          simp only [Act.put, List.setIfInBounds_toArray, List.set_cons_zero, List.set_cons_succ]
          refine wpAnyH_take (i := 16) (oi := { dst := some 78, op := Op.move (Operand.tmp 6), type := 3, pos := "law.go:83", after := #[{ on := 13, ground := Ground.guard }], guard := some (13, true) }) rfl (by kernel_rfl) (by kernel_rfl) (by kernel_rfl) (fun _ _ _ h => h) (Or.inl ⟨by rfl, (by intro w hSw; (try dsimp only at hSw); go_split_ands; go_simp; try with_reducible rfl)⟩) (by assumption) ?_
          simp only [Act.put, List.setIfInBounds_toArray, List.set_cons_zero, List.set_cons_succ]
          refine wpAnyH_take (i := 17) (oi := { dst := some 79, op := Op.binOp BinOp.eql 3 (Operand.tmp 77) (Operand.tmp 78) 3, type := 4, pos := "law.go:83", after := #[{ on := 15, ground := Ground.data }, { on := 16, ground := Ground.data }, { on := 13, ground := Ground.guard }], guard := some (13, true) }) rfl (by kernel_rfl) (by kernel_rfl) (by kernel_rfl) (fun _ _ _ h => h) (Or.inl ⟨by rfl, (by intro w hSw; (try dsimp only at hSw); go_split_ands; go_simp; try with_reducible rfl)⟩) (by assumption) ?_
          simp only [Act.put, List.setIfInBounds_toArray, List.set_cons_zero, List.set_cons_succ]
          refine wpAnyH_take (i := 18) (oi := { dst := some 80, op := Op.pick (Operand.tmp 75) (Operand.tmp 79) (Operand.const (Value.bool false)), type := 4, pos := "law.go:83", after := #[{ on := 13, ground := Ground.data }, { on := 17, ground := Ground.data }], guard := none }) rfl (by kernel_rfl) (by kernel_rfl) (by kernel_rfl) (fun _ _ _ h => h) (Or.inl ⟨by rfl, (by intro w hSw; (try dsimp only at hSw); go_split_ands; go_simp; try with_reducible rfl)⟩) (by assumption) ?_
          simp only [Act.put, List.setIfInBounds_toArray, List.set_cons_zero, List.set_cons_succ]
          refine wpAnyH_take (i := 19) (oi := { dst := some 81, op := Op.move (Operand.tmp 80), type := 4, pos := "law.go:83", after := #[{ on := 18, ground := Ground.data }, { on := 13, ground := Ground.chain }], guard := none }) rfl (by kernel_rfl) (by kernel_rfl) (by kernel_rfl) (fun _ _ _ h => h) (Or.inl ⟨by rfl, (by intro w hSw; (try dsimp only at hSw); go_split_ands; go_simp; try with_reducible rfl)⟩) (by assumption) ?_
          simp only [Act.put, List.setIfInBounds_toArray, List.set_cons_zero, List.set_cons_succ]
          refine wpAnyH_take (i := 20) (oi := { dst := some 82, op := Op.fieldAddr 86 (Operand.tmp 8) 3, type := 0, pos := "law.go:83", after := #[{ on := 19, ground := Ground.guard }], guard := some (19, true) }) rfl (by kernel_rfl) (by kernel_rfl) (by kernel_rfl) (fun _ _ _ h => h) (Or.inl ⟨by rfl, (by intro w hSw; (try dsimp only at hSw); go_split_ands; go_simp; try with_reducible rfl)⟩) (by assumption) ?_
          simp only [Act.put, List.setIfInBounds_toArray, List.set_cons_zero, List.set_cons_succ]
          refine wpAnyH_take (i := 21) (oi := { dst := some 83, op := Op.load 4 (Operand.tmp 82), type := 4, pos := "law.go:83", after := #[{ on := 20, ground := Ground.data }, { on := 19, ground := Ground.guard }], guard := some (19, true) }) rfl (by kernel_rfl) (by kernel_rfl) (by kernel_rfl) (fun _ _ _ h => h) (Or.inl ⟨by rfl, (by intro w hSw; (try dsimp only at hSw); go_split_ands; go_simp; try with_reducible rfl)⟩) (by assumption) ?_
          simp only [Act.put, List.setIfInBounds_toArray, List.set_cons_zero, List.set_cons_succ]
          refine wpAnyH_take (i := 22) (oi := { dst := some 84, op := Op.move (Operand.tmp 0), type := 45, pos := "law.go:83", after := #[{ on := 19, ground := Ground.guard }], guard := some (19, true) }) rfl (by kernel_rfl) (by kernel_rfl) (by kernel_rfl) (fun _ _ _ h => h) (Or.inl ⟨by rfl, (by intro w hSw; (try dsimp only at hSw); go_split_ands; go_simp; try with_reducible rfl)⟩) (by assumption) ?_
          simp only [Act.put, List.setIfInBounds_toArray, List.set_cons_zero, List.set_cons_succ]
          refine wpAnyH_take (i := 23) (oi := { dst := some 85, op := Op.call { callee := Callee.builtin Builtin.len, args := #[Operand.tmp 84], argTypes := #[45] }, type := 3, pos := "law.go:83", after := #[{ on := 22, ground := Ground.data }, { on := 19, ground := Ground.guard }], guard := some (19, true) }) rfl (by kernel_rfl) (by kernel_rfl) (by kernel_rfl) (fun _ _ _ h => h) (Or.inl ⟨by rfl, (by intro w hSw; (try dsimp only at hSw); go_split_ands; go_simp; try with_reducible rfl)⟩) (by assumption) ?_
          simp only [Act.put, List.setIfInBounds_toArray, List.set_cons_zero, List.set_cons_succ]
          refine wpAnyH_take (i := 24) (oi := { dst := some 86, op := Op.binOp BinOp.gtr 3 (Operand.tmp 85) (Operand.const (Value.int IntKind.i64 0)) 3, type := 4, pos := "law.go:83", after := #[{ on := 23, ground := Ground.data }, { on := 19, ground := Ground.guard }], guard := some (19, true) }) rfl (by kernel_rfl) (by kernel_rfl) (by kernel_rfl) (fun _ _ _ h => h) (Or.inl ⟨by rfl, (by intro w hSw; (try dsimp only at hSw); go_split_ands; go_simp; try with_reducible rfl)⟩) (by assumption) ?_
          simp only [Act.put, List.setIfInBounds_toArray, List.set_cons_zero, List.set_cons_succ]
          refine wpAnyH_take (i := 25) (oi := { dst := some 87, op := Op.move (Operand.tmp 86), type := 4, pos := "law.go:83", after := #[{ on := 24, ground := Ground.data }, { on := 19, ground := Ground.chain }, { on := 19, ground := Ground.guard }], guard := some (19, true) }) rfl (by kernel_rfl) (by kernel_rfl) (by kernel_rfl) (fun _ _ _ h => h) (Or.inl ⟨by rfl, (by intro w hSw; (try dsimp only at hSw); go_split_ands; go_simp; try with_reducible rfl)⟩) (by assumption) ?_
          simp only [Act.put, List.setIfInBounds_toArray, List.set_cons_zero, List.set_cons_succ]
          refine wpAnyH_take (i := 26) (oi := { dst := some 88, op := Op.move (Operand.tmp 0), type := 45, pos := "law.go:83", after := #[{ on := 25, ground := Ground.guard }], guard := some (25, true) }) (v := undef) rfl (by kernel_rfl) (by kernel_rfl) (by kernel_rfl) (fun _ _ _ h => h) (Or.inr ⟨by rfl, rfl⟩) (by assumption) ?_
          simp only [Act.put, List.setIfInBounds_toArray, List.set_cons_zero, List.set_cons_succ]
          refine wpAnyH_take (i := 27) (oi := { dst := some 89, op := Op.move (Operand.tmp 0), type := 45, pos := "law.go:83", after := #[{ on := 25, ground := Ground.guard }], guard := some (25, true) }) (v := undef) rfl (by kernel_rfl) (by kernel_rfl) (by kernel_rfl) (fun _ _ _ h => h) (Or.inr ⟨by rfl, rfl⟩) (by assumption) ?_
          simp only [Act.put, List.setIfInBounds_toArray, List.set_cons_zero, List.set_cons_succ]
          refine wpAnyH_take (i := 28) (oi := { dst := some 90, op := Op.call { callee := Callee.builtin Builtin.len, args := #[Operand.tmp 89], argTypes := #[45] }, type := 3, pos := "law.go:83", after := #[{ on := 27, ground := Ground.data }, { on := 25, ground := Ground.guard }], guard := some (25, true) }) (v := undef) rfl (by kernel_rfl) (by kernel_rfl) (by kernel_rfl) (fun _ _ _ h => h) (Or.inr ⟨by rfl, rfl⟩) (by assumption) ?_
          simp only [Act.put, List.setIfInBounds_toArray, List.set_cons_zero, List.set_cons_succ]
          refine wpAnyH_take (i := 29) (oi := { dst := some 91, op := Op.binOp BinOp.sub 3 (Operand.tmp 90) (Operand.const (Value.int IntKind.i64 1)) 3, type := 3, pos := "law.go:83", after := #[{ on := 28, ground := Ground.data }, { on := 25, ground := Ground.guard }], guard := some (25, true) }) (v := undef) rfl (by kernel_rfl) (by kernel_rfl) (by kernel_rfl) (fun _ _ _ h => h) (Or.inr ⟨by rfl, rfl⟩) (by assumption) ?_
          simp only [Act.put, List.setIfInBounds_toArray, List.set_cons_zero, List.set_cons_succ]
          refine wpAnyH_take (i := 30) (oi := { dst := some 92, op := Op.indexAddr 45 (Operand.tmp 88) (Operand.tmp 91), type := 0, pos := "law.go:83", after := #[{ on := 26, ground := Ground.data }, { on := 29, ground := Ground.data }, { on := 25, ground := Ground.guard }], guard := some (25, true) }) (v := undef) rfl (by kernel_rfl) (by kernel_rfl) (by kernel_rfl) (fun _ _ _ h => h) (Or.inr ⟨by rfl, rfl⟩) (by assumption) ?_
          simp only [Act.put, List.setIfInBounds_toArray, List.set_cons_zero, List.set_cons_succ]
          refine wpAnyH_take (i := 31) (oi := { dst := some 93, op := Op.fieldAddr 54 (Operand.tmp 92) 0, type := 0, pos := "law.go:83", after := #[{ on := 30, ground := Ground.data }, { on := 25, ground := Ground.guard }], guard := some (25, true) }) (v := undef) rfl (by kernel_rfl) (by kernel_rfl) (by kernel_rfl) (fun _ _ _ h => h) (Or.inr ⟨by rfl, rfl⟩) (by assumption) ?_
          simp only [Act.put, List.setIfInBounds_toArray, List.set_cons_zero, List.set_cons_succ]
          refine wpAnyH_take (i := 32) (oi := { dst := some 94, op := Op.load 3 (Operand.tmp 93), type := 3, pos := "law.go:83", after := #[{ on := 31, ground := Ground.data }, { on := 25, ground := Ground.guard }], guard := some (25, true) }) (v := undef) rfl (by kernel_rfl) (by kernel_rfl) (by kernel_rfl) (fun _ _ _ h => h) (Or.inr ⟨by rfl, rfl⟩) (by assumption) ?_
          simp only [Act.put, List.setIfInBounds_toArray, List.set_cons_zero, List.set_cons_succ]
          refine wpAnyH_take (i := 33) (oi := { dst := some 95, op := Op.binOp BinOp.eql 3 (Operand.tmp 94) (Operand.const (Value.int IntKind.i64 4)) 3, type := 4, pos := "law.go:83", after := #[{ on := 32, ground := Ground.data }, { on := 25, ground := Ground.guard }], guard := some (25, true) }) (v := undef) rfl (by kernel_rfl) (by kernel_rfl) (by kernel_rfl) (fun _ _ _ h => h) (Or.inr ⟨by rfl, rfl⟩) (by assumption) ?_
          simp only [Act.put, List.setIfInBounds_toArray, List.set_cons_zero, List.set_cons_succ]
          refine wpAnyH_take (i := 34) (oi := { dst := some 96, op := Op.pick (Operand.tmp 87) (Operand.tmp 95) (Operand.const (Value.bool false)), type := 4, pos := "law.go:83", after := #[{ on := 25, ground := Ground.data }, { on := 33, ground := Ground.data }, { on := 19, ground := Ground.guard }], guard := some (19, true) }) rfl (by kernel_rfl) (by kernel_rfl) (by kernel_rfl) (fun _ _ _ h => h) (Or.inl ⟨by rfl, (by intro w hSw; (try dsimp only at hSw); go_split_ands; go_simp; try with_reducible rfl)⟩) (by assumption) ?_
          simp only [Act.put, List.setIfInBounds_toArray, List.set_cons_zero, List.set_cons_succ]
          refine wpAnyH_take (i := 35) (oi := { dst := some 97, op := Op.binOp BinOp.eql 4 (Operand.tmp 83) (Operand.tmp 96) 4, type := 4, pos := "law.go:83", after := #[{ on := 21, ground := Ground.data }, { on := 34, ground := Ground.data }, { on := 19, ground := Ground.guard }], guard := some (19, true) }) rfl (by kernel_rfl) (by kernel_rfl) (by kernel_rfl) (fun _ _ _ h => h) (Or.inl ⟨by rfl, (by intro w hSw; (try dsimp only at hSw); go_split_ands; go_simp; try with_reducible rfl)⟩) (by assumption) ?_
          simp only [Act.put, List.setIfInBounds_toArray, List.set_cons_zero, List.set_cons_succ]
          refine wpAnyH_take (i := 36) (oi := { dst := some 98, op := Op.pick (Operand.tmp 81) (Operand.tmp 97) (Operand.const (Value.bool false)), type := 4, pos := "law.go:83", after := #[{ on := 19, ground := Ground.data }, { on := 35, ground := Ground.data }], guard := none }) rfl (by kernel_rfl) (by kernel_rfl) (by kernel_rfl) (fun _ _ _ h => h) (Or.inl ⟨by rfl, (by intro w hSw; (try dsimp only at hSw); go_split_ands; go_simp; try with_reducible rfl)⟩) (by assumption) ?_
          simp only [Act.put, List.setIfInBounds_toArray, List.set_cons_zero, List.set_cons_succ]
          refine wpAnyH_take (i := 37) (oi := { dst := some 2, op := Op.assign (Operand.tmp 98), type := 4, pos := "law.go:83", after := #[{ on := 36, ground := Ground.data }, { on := 25, ground := Ground.chain }, { on := 0, ground := Ground.phase }, { on := 1, ground := Ground.phase }, { on := 2, ground := Ground.phase }, { on := 3, ground := Ground.phase }, { on := 4, ground := Ground.phase }, { on := 5, ground := Ground.phase }, { on := 6, ground := Ground.phase }, { on := 7, ground := Ground.phase }, { on := 8, ground := Ground.phase }, { on := 9, ground := Ground.phase }, { on := 10, ground := Ground.phase }, { on := 11, ground := Ground.phase }, { on := 12, ground := Ground.phase }, { on := 13, ground := Ground.phase }, { on := 14, ground := Ground.phase }, { on := 15, ground := Ground.phase }, { on := 16, ground := Ground.phase }, { on := 17, ground := Ground.phase }, { on := 18, ground := Ground.phase }, { on := 19, ground := Ground.phase }, { on := 20, ground := Ground.phase }, { on := 21, ground := Ground.phase }, { on := 22, ground := Ground.phase }, { on := 23, ground := Ground.phase }, { on := 24, ground := Ground.phase }, { on := 25, ground := Ground.phase }, { on := 26, ground := Ground.phase }, { on := 27, ground := Ground.phase }, { on := 28, ground := Ground.phase }, { on := 29, ground := Ground.phase }, { on := 30, ground := Ground.phase }, { on := 31, ground := Ground.phase }, { on := 32, ground := Ground.phase }, { on := 33, ground := Ground.phase }, { on := 34, ground := Ground.phase }, { on := 35, ground := Ground.phase }, { on := 36, ground := Ground.phase }], guard := none }) rfl (by kernel_rfl) (by kernel_rfl) (by kernel_rfl) (fun _ _ _ h => h) (Or.inl ⟨by rfl, (by intro w hSw; (try dsimp only at hSw); go_split_ands; go_simp; try with_reducible rfl)⟩) (by assumption) ?_
          simp only [Act.put, List.setIfInBounds_toArray, List.set_cons_zero, List.set_cons_succ]
          refine wpAnyH_done (by kernel_rfl) ?_ _
          refine NoPanic.normal ?_
          all_goals go_wp2_with fail
          all_goals go_ret
          all_goals exact ⟨rfl, (below_draw HB2.out).trans (hb1.mono HB2.out.size)⟩
  · have hng : decide ((60 : Int) < (rs.length : Int)) = true := by simp; omega
    go_enter Try.func12, Try.ntmps12
    go_wp2_with fail
    refine (K1.out _).mono ?_
    rintro e w3 ⟨rfl, hb⟩
    go_wp2_with fail
    go_ret
    exact ⟨rfl, hb⟩
end Go.Proofs.Ytcapaiiegfedmaa
