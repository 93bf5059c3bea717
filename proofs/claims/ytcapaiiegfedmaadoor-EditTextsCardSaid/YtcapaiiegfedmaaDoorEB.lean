/- edit.Right. -/
import Derived.Test.YtcapaiiegfedmaaDoorEA
namespace Go.Proofs.YtcapaiiegfedmaaDoor
open Go.RowKit Go.Shelf
theorem four_cells {w : World} {b : Nat} {v0 v1 v2 v3 : Value} {t : TypeId} {z : Nat × Nat} (h : w.heap[b]? = some (.cells #[v0, v1, v2, v3] t z)) :
    w.cell? ⟨b, 0, none⟩ = some v0 ∧ w.cell? ⟨b, 1, none⟩ = some v1 ∧ w.cell? ⟨b, 2, none⟩ = some v2 ∧ w.cell? ⟨b, 3, none⟩ = some v3 := by
  simp [World.cell?, h]
theorem three_cells {w : World} {b : Nat} {v0 v1 v2 : Value} {t : TypeId} {z : Nat × Nat} (h : w.heap[b]? = some (.cells #[v0, v1, v2] t z)) :
    w.cell? ⟨b, 0, none⟩ = some v0 ∧ w.cell? ⟨b, 1, none⟩ = some v1 ∧ w.cell? ⟨b, 2, none⟩ = some v2 := by
  simp [World.cell?, h]
theorem kept_block {w w' : World} {b : Nat} {o : Obj} (h : w.heap[b]? = some o) (hb : Below w.heap.size w w') : w'.heap[b]? = some o := (hb.block b (Array.getElem?_eq_some_iff.1 h).1).trans h
theorem kept_alloc {w : World} {b : Nat} {o : Obj} (h : w.heap[b]? = some o) (x : Obj) : (w.alloc x).heap[b]? = some o := (Below.heap_alloc _ _ _ (Array.getElem?_eq_some_iff.1 h).1).trans h
def mostE (k : Int) : Int := if nE k then 511 else 0
def flitB : Bs := [46, 102, 108, 105, 116]
def rightE (k : Int) (f t : Bs) (n : Int) : Bool := (!(wordE k).isEmpty) && pathE f (fromE k) && pathE t (toE k) && decide (0 ≤ n) && decide (n ≤ mostE k) && (decide (5 < k) || underB t flitB)
def editV (k : Int) (f t : ByteArray) (n : Int) : Value := .agg #[.int .i64 k, .string f, .string t, .int .i64 n]
set_option maxRecDepth 100000 in
set_option maxHeartbeats 4000000 in
theorem eright_walk (k : Int) (f t : ByteArray) (n : Int) (hf : f.size ≤ 100000) (ht : t.size ≤ 100000) (w : World) :
    Calls Tryd.prog 9 #[.agg #[.int .i64 k, .string f, .string t, .int .i64 n]] w fun e w' => e = .returned (.bool (rightE k (L f) (L t) n)) ∧ Below w.heap.size w w' := by
  have F1 := Lib.hid (fun W => eform_walk k W)
  unfold formV at F1
  have W1 := Lib.hid (fun W => eword_walk k W)
  have P1 := Lib.hid (fun W => epath_walk f (fromE k) hf W)
  have P2 := Lib.hid (fun W => epath_walk t (toE k) ht W)
  have U1 := Lib.hid (fun W => under_walk t ⟨#[46, 102, 108, 105, 116]⟩ ht (by decide) W)
  have HR : Hid (rightE k (L f) (L t) n = ((!(B (wordE k)).toList.isEmpty) && pathE (L f) (fromE k) && pathE (L t) (toE k) && decide (0 ≤ n) && decide (n ≤ mostE k) && (decide (5 < k) || underB (L t) (L ⟨#[46, 102, 108, 105, 116]⟩)))) := by
    show _ = _; unfold rightE; rw [L_toList, L_B]; rfl
  have HM : Hid (mostE k = if nE k then 511 else 0) := rfl
  rw [HR.out]
  clear HR
  have hq : ((B (wordE k)).toList == ([] : List UInt8)) = (B (wordE k)).toList.isEmpty := by cases (B (wordE k)).toList <;> rfl
  generalize B (wordE k) = wd at *
  generalize wd.toList.isEmpty = em at *
  generalize pathE (L f) (fromE k) = p1 at *
  generalize pathE (L t) (toE k) = p2 at *
  generalize underB (L t) (L ⟨#[46, 102, 108, 105, 116]⟩) = un at *
  generalize fromE k = fr at *
  generalize toE k = tt0 at *
  cases hnn : nE k with
  | false =>
    rw [hnn] at F1
    have HM2 : mostE k = 0 := by rw [HM.out, hnn]; rfl
    clear hnn HM
    rw [HM2]
    clear HM2
    cases em with
    | true =>
      go_enter Tryd.func9, Tryd.ntmps9
      go_wp2_with fail
      have hX := World.alloc_heap_new w (.cells #[.int .i64 k, .string f, .string t, .int .i64 n] 23)
      have hb := (Below.refl w.heap.size w).alloc (Nat.le_refl _) (.cells #[.int .i64 k, .string f, .string t, .int .i64 n] 23)
      generalize w.alloc (.cells #[.int .i64 k, .string f, .string t, .int .i64 n] 23) = w0 at *
      have HX := Lib.hid hX
      clear hX
      refine (F1.out _).mono ?_
      rintro e w1 ⟨rfl, hb1⟩
      replace HX := Lib.hid (kept_block HX.out hb1)
      replace hb := hb.trans (hb1.mono hb.size)
      clear hb1
      obtain ⟨c0, c1, c2, c3⟩ := four_cells HX.out
      have hlt := (Array.getElem?_eq_some_iff.1 HX.out).1
      go_wp2_with fail
      have HY := Lib.hid (World.alloc_heap_new w1 (.cells #[.bool fr, .bool tt0, .bool false] 44))
      replace HX := Lib.hid (kept_alloc HX.out (.cells #[.bool fr, .bool tt0, .bool false] 44))
      replace hb := hb.alloc hb.size (.cells #[.bool fr, .bool tt0, .bool false] 44)
      generalize w1.alloc (.cells #[.bool fr, .bool tt0, .bool false] 44) = w2 at *
      clear c0 c1 c2 c3 hlt
      refine (W1.out _).mono ?_
      rintro e w3 ⟨rfl, hb1⟩
      replace HX := Lib.hid (kept_block HX.out hb1)
      replace HY := Lib.hid (kept_block HY.out hb1)
      replace hb := hb.trans (hb1.mono hb.size)
      clear hb1
      obtain ⟨c0, c1, c2, c3⟩ := four_cells HX.out
      obtain ⟨d0, d1, d2⟩ := three_cells HY.out
      go_wp2_with fail
      go_ret
      exact ⟨rfl, hb⟩
    | false =>
      cases p1 with
      | false =>
        go_enter Tryd.func9, Tryd.ntmps9
        go_wp2_with fail
        have hX := World.alloc_heap_new w (.cells #[.int .i64 k, .string f, .string t, .int .i64 n] 23)
        have hb := (Below.refl w.heap.size w).alloc (Nat.le_refl _) (.cells #[.int .i64 k, .string f, .string t, .int .i64 n] 23)
        generalize w.alloc (.cells #[.int .i64 k, .string f, .string t, .int .i64 n] 23) = w0 at *
        have HX := Lib.hid hX
        clear hX
        refine (F1.out _).mono ?_
        rintro e w1 ⟨rfl, hb1⟩
        replace HX := Lib.hid (kept_block HX.out hb1)
        replace hb := hb.trans (hb1.mono hb.size)
        clear hb1
        obtain ⟨c0, c1, c2, c3⟩ := four_cells HX.out
        have hlt := (Array.getElem?_eq_some_iff.1 HX.out).1
        go_wp2_with fail
        have HY := Lib.hid (World.alloc_heap_new w1 (.cells #[.bool fr, .bool tt0, .bool false] 44))
        replace HX := Lib.hid (kept_alloc HX.out (.cells #[.bool fr, .bool tt0, .bool false] 44))
        replace hb := hb.alloc hb.size (.cells #[.bool fr, .bool tt0, .bool false] 44)
        generalize w1.alloc (.cells #[.bool fr, .bool tt0, .bool false] 44) = w2 at *
        clear c0 c1 c2 c3 hlt
        refine (W1.out _).mono ?_
        rintro e w3 ⟨rfl, hb1⟩
        replace HX := Lib.hid (kept_block HX.out hb1)
        replace HY := Lib.hid (kept_block HY.out hb1)
        replace hb := hb.trans (hb1.mono hb.size)
        clear hb1
        obtain ⟨c0, c1, c2, c3⟩ := four_cells HX.out
        obtain ⟨d0, d1, d2⟩ := three_cells HY.out
        go_wp2_with fail
        clear c0 c1 c2 c3 d0 d1 d2
        refine (P1.out _).mono ?_
        rintro e w4 ⟨rfl, hb1⟩
        replace HX := Lib.hid (kept_block HX.out hb1)
        replace HY := Lib.hid (kept_block HY.out hb1)
        replace hb := hb.trans (hb1.mono hb.size)
        clear hb1
        obtain ⟨c0, c1, c2, c3⟩ := four_cells HX.out
        obtain ⟨d0, d1, d2⟩ := three_cells HY.out
        go_wp2_with fail
        go_ret
        exact ⟨rfl, hb⟩
      | true =>
        cases p2 with
        | false =>
          go_enter Tryd.func9, Tryd.ntmps9
          go_wp2_with fail
          have hX := World.alloc_heap_new w (.cells #[.int .i64 k, .string f, .string t, .int .i64 n] 23)
          have hb := (Below.refl w.heap.size w).alloc (Nat.le_refl _) (.cells #[.int .i64 k, .string f, .string t, .int .i64 n] 23)
          generalize w.alloc (.cells #[.int .i64 k, .string f, .string t, .int .i64 n] 23) = w0 at *
          have HX := Lib.hid hX
          clear hX
          refine (F1.out _).mono ?_
          rintro e w1 ⟨rfl, hb1⟩
          replace HX := Lib.hid (kept_block HX.out hb1)
          replace hb := hb.trans (hb1.mono hb.size)
          clear hb1
          obtain ⟨c0, c1, c2, c3⟩ := four_cells HX.out
          have hlt := (Array.getElem?_eq_some_iff.1 HX.out).1
          go_wp2_with fail
          have HY := Lib.hid (World.alloc_heap_new w1 (.cells #[.bool fr, .bool tt0, .bool false] 44))
          replace HX := Lib.hid (kept_alloc HX.out (.cells #[.bool fr, .bool tt0, .bool false] 44))
          replace hb := hb.alloc hb.size (.cells #[.bool fr, .bool tt0, .bool false] 44)
          generalize w1.alloc (.cells #[.bool fr, .bool tt0, .bool false] 44) = w2 at *
          clear c0 c1 c2 c3 hlt
          refine (W1.out _).mono ?_
          rintro e w3 ⟨rfl, hb1⟩
          replace HX := Lib.hid (kept_block HX.out hb1)
          replace HY := Lib.hid (kept_block HY.out hb1)
          replace hb := hb.trans (hb1.mono hb.size)
          clear hb1
          obtain ⟨c0, c1, c2, c3⟩ := four_cells HX.out
          obtain ⟨d0, d1, d2⟩ := three_cells HY.out
          go_wp2_with fail
          clear c0 c1 c2 c3 d0 d1 d2
          refine (P1.out _).mono ?_
          rintro e w4 ⟨rfl, hb1⟩
          replace HX := Lib.hid (kept_block HX.out hb1)
          replace HY := Lib.hid (kept_block HY.out hb1)
          replace hb := hb.trans (hb1.mono hb.size)
          clear hb1
          obtain ⟨c0, c1, c2, c3⟩ := four_cells HX.out
          obtain ⟨d0, d1, d2⟩ := three_cells HY.out
          go_wp2_with fail
          clear c0 c1 c2 c3 d0 d1 d2
          refine (P2.out _).mono ?_
          rintro e w5 ⟨rfl, hb1⟩
          replace HX := Lib.hid (kept_block HX.out hb1)
          replace HY := Lib.hid (kept_block HY.out hb1)
          replace hb := hb.trans (hb1.mono hb.size)
          clear hb1
          obtain ⟨c0, c1, c2, c3⟩ := four_cells HX.out
          obtain ⟨d0, d1, d2⟩ := three_cells HY.out
          go_wp2_with fail
          go_ret
          exact ⟨rfl, hb⟩
        | true =>
          cases h0 : decide ((0 : Int) ≤ n) with
          | false =>
            go_enter Tryd.func9, Tryd.ntmps9
            go_wp2_with fail
            have hX := World.alloc_heap_new w (.cells #[.int .i64 k, .string f, .string t, .int .i64 n] 23)
            have hb := (Below.refl w.heap.size w).alloc (Nat.le_refl _) (.cells #[.int .i64 k, .string f, .string t, .int .i64 n] 23)
            generalize w.alloc (.cells #[.int .i64 k, .string f, .string t, .int .i64 n] 23) = w0 at *
            have HX := Lib.hid hX
            clear hX
            refine (F1.out _).mono ?_
            rintro e w1 ⟨rfl, hb1⟩
            replace HX := Lib.hid (kept_block HX.out hb1)
            replace hb := hb.trans (hb1.mono hb.size)
            clear hb1
            obtain ⟨c0, c1, c2, c3⟩ := four_cells HX.out
            have hlt := (Array.getElem?_eq_some_iff.1 HX.out).1
            go_wp2_with fail
            have HY := Lib.hid (World.alloc_heap_new w1 (.cells #[.bool fr, .bool tt0, .bool false] 44))
            replace HX := Lib.hid (kept_alloc HX.out (.cells #[.bool fr, .bool tt0, .bool false] 44))
            replace hb := hb.alloc hb.size (.cells #[.bool fr, .bool tt0, .bool false] 44)
            generalize w1.alloc (.cells #[.bool fr, .bool tt0, .bool false] 44) = w2 at *
            clear c0 c1 c2 c3 hlt
            refine (W1.out _).mono ?_
            rintro e w3 ⟨rfl, hb1⟩
            replace HX := Lib.hid (kept_block HX.out hb1)
            replace HY := Lib.hid (kept_block HY.out hb1)
            replace hb := hb.trans (hb1.mono hb.size)
            clear hb1
            obtain ⟨c0, c1, c2, c3⟩ := four_cells HX.out
            obtain ⟨d0, d1, d2⟩ := three_cells HY.out
            go_wp2_with fail
            clear c0 c1 c2 c3 d0 d1 d2
            refine (P1.out _).mono ?_
            rintro e w4 ⟨rfl, hb1⟩
            replace HX := Lib.hid (kept_block HX.out hb1)
            replace HY := Lib.hid (kept_block HY.out hb1)
            replace hb := hb.trans (hb1.mono hb.size)
            clear hb1
            obtain ⟨c0, c1, c2, c3⟩ := four_cells HX.out
            obtain ⟨d0, d1, d2⟩ := three_cells HY.out
            go_wp2_with fail
            clear c0 c1 c2 c3 d0 d1 d2
            refine (P2.out _).mono ?_
            rintro e w5 ⟨rfl, hb1⟩
            replace HX := Lib.hid (kept_block HX.out hb1)
            replace HY := Lib.hid (kept_block HY.out hb1)
            replace hb := hb.trans (hb1.mono hb.size)
            clear hb1
            obtain ⟨c0, c1, c2, c3⟩ := four_cells HX.out
            obtain ⟨d0, d1, d2⟩ := three_cells HY.out
            go_wp2_with fail
            go_ret
            exact ⟨rfl, hb⟩
          | true =>
            cases h1 : decide (n ≤ 0) with
            | false =>
              go_enter Tryd.func9, Tryd.ntmps9
              go_wp2_with fail
              have hX := World.alloc_heap_new w (.cells #[.int .i64 k, .string f, .string t, .int .i64 n] 23)
              have hb := (Below.refl w.heap.size w).alloc (Nat.le_refl _) (.cells #[.int .i64 k, .string f, .string t, .int .i64 n] 23)
              generalize w.alloc (.cells #[.int .i64 k, .string f, .string t, .int .i64 n] 23) = w0 at *
              have HX := Lib.hid hX
              clear hX
              refine (F1.out _).mono ?_
              rintro e w1 ⟨rfl, hb1⟩
              replace HX := Lib.hid (kept_block HX.out hb1)
              replace hb := hb.trans (hb1.mono hb.size)
              clear hb1
              obtain ⟨c0, c1, c2, c3⟩ := four_cells HX.out
              have hlt := (Array.getElem?_eq_some_iff.1 HX.out).1
              go_wp2_with fail
              have HY := Lib.hid (World.alloc_heap_new w1 (.cells #[.bool fr, .bool tt0, .bool false] 44))
              replace HX := Lib.hid (kept_alloc HX.out (.cells #[.bool fr, .bool tt0, .bool false] 44))
              replace hb := hb.alloc hb.size (.cells #[.bool fr, .bool tt0, .bool false] 44)
              generalize w1.alloc (.cells #[.bool fr, .bool tt0, .bool false] 44) = w2 at *
              clear c0 c1 c2 c3 hlt
              refine (W1.out _).mono ?_
              rintro e w3 ⟨rfl, hb1⟩
              replace HX := Lib.hid (kept_block HX.out hb1)
              replace HY := Lib.hid (kept_block HY.out hb1)
              replace hb := hb.trans (hb1.mono hb.size)
              clear hb1
              obtain ⟨c0, c1, c2, c3⟩ := four_cells HX.out
              obtain ⟨d0, d1, d2⟩ := three_cells HY.out
              go_wp2_with fail
              clear c0 c1 c2 c3 d0 d1 d2
              refine (P1.out _).mono ?_
              rintro e w4 ⟨rfl, hb1⟩
              replace HX := Lib.hid (kept_block HX.out hb1)
              replace HY := Lib.hid (kept_block HY.out hb1)
              replace hb := hb.trans (hb1.mono hb.size)
              clear hb1
              obtain ⟨c0, c1, c2, c3⟩ := four_cells HX.out
              obtain ⟨d0, d1, d2⟩ := three_cells HY.out
              go_wp2_with fail
              clear c0 c1 c2 c3 d0 d1 d2
              refine (P2.out _).mono ?_
              rintro e w5 ⟨rfl, hb1⟩
              replace HX := Lib.hid (kept_block HX.out hb1)
              replace HY := Lib.hid (kept_block HY.out hb1)
              replace hb := hb.trans (hb1.mono hb.size)
              clear hb1
              obtain ⟨c0, c1, c2, c3⟩ := four_cells HX.out
              obtain ⟨d0, d1, d2⟩ := three_cells HY.out
              go_wp2_with fail
              go_ret
              exact ⟨rfl, hb⟩
            | true =>
              cases h5 : decide ((5 : Int) < k) with
              | true =>
                go_enter Tryd.func9, Tryd.ntmps9
                go_wp2_with fail
                have hX := World.alloc_heap_new w (.cells #[.int .i64 k, .string f, .string t, .int .i64 n] 23)
                have hb := (Below.refl w.heap.size w).alloc (Nat.le_refl _) (.cells #[.int .i64 k, .string f, .string t, .int .i64 n] 23)
                generalize w.alloc (.cells #[.int .i64 k, .string f, .string t, .int .i64 n] 23) = w0 at *
                have HX := Lib.hid hX
                clear hX
                refine (F1.out _).mono ?_
                rintro e w1 ⟨rfl, hb1⟩
                replace HX := Lib.hid (kept_block HX.out hb1)
                replace hb := hb.trans (hb1.mono hb.size)
                clear hb1
                obtain ⟨c0, c1, c2, c3⟩ := four_cells HX.out
                have hlt := (Array.getElem?_eq_some_iff.1 HX.out).1
                go_wp2_with fail
                have HY := Lib.hid (World.alloc_heap_new w1 (.cells #[.bool fr, .bool tt0, .bool false] 44))
                replace HX := Lib.hid (kept_alloc HX.out (.cells #[.bool fr, .bool tt0, .bool false] 44))
                replace hb := hb.alloc hb.size (.cells #[.bool fr, .bool tt0, .bool false] 44)
                generalize w1.alloc (.cells #[.bool fr, .bool tt0, .bool false] 44) = w2 at *
                clear c0 c1 c2 c3 hlt
                refine (W1.out _).mono ?_
                rintro e w3 ⟨rfl, hb1⟩
                replace HX := Lib.hid (kept_block HX.out hb1)
                replace HY := Lib.hid (kept_block HY.out hb1)
                replace hb := hb.trans (hb1.mono hb.size)
                clear hb1
                obtain ⟨c0, c1, c2, c3⟩ := four_cells HX.out
                obtain ⟨d0, d1, d2⟩ := three_cells HY.out
                go_wp2_with fail
                clear c0 c1 c2 c3 d0 d1 d2
                refine (P1.out _).mono ?_
                rintro e w4 ⟨rfl, hb1⟩
                replace HX := Lib.hid (kept_block HX.out hb1)
                replace HY := Lib.hid (kept_block HY.out hb1)
                replace hb := hb.trans (hb1.mono hb.size)
                clear hb1
                obtain ⟨c0, c1, c2, c3⟩ := four_cells HX.out
                obtain ⟨d0, d1, d2⟩ := three_cells HY.out
                go_wp2_with fail
                clear c0 c1 c2 c3 d0 d1 d2
                refine (P2.out _).mono ?_
                rintro e w5 ⟨rfl, hb1⟩
                replace HX := Lib.hid (kept_block HX.out hb1)
                replace HY := Lib.hid (kept_block HY.out hb1)
                replace hb := hb.trans (hb1.mono hb.size)
                clear hb1
                obtain ⟨c0, c1, c2, c3⟩ := four_cells HX.out
                obtain ⟨d0, d1, d2⟩ := three_cells HY.out
                go_wp2_with fail
                go_ret
                exact ⟨rfl, hb⟩
              | false =>
                go_enter Tryd.func9, Tryd.ntmps9
                go_wp2_with fail
                have hX := World.alloc_heap_new w (.cells #[.int .i64 k, .string f, .string t, .int .i64 n] 23)
                have hb := (Below.refl w.heap.size w).alloc (Nat.le_refl _) (.cells #[.int .i64 k, .string f, .string t, .int .i64 n] 23)
                generalize w.alloc (.cells #[.int .i64 k, .string f, .string t, .int .i64 n] 23) = w0 at *
                have HX := Lib.hid hX
                clear hX
                refine (F1.out _).mono ?_
                rintro e w1 ⟨rfl, hb1⟩
                replace HX := Lib.hid (kept_block HX.out hb1)
                replace hb := hb.trans (hb1.mono hb.size)
                clear hb1
                obtain ⟨c0, c1, c2, c3⟩ := four_cells HX.out
                have hlt := (Array.getElem?_eq_some_iff.1 HX.out).1
                go_wp2_with fail
                have HY := Lib.hid (World.alloc_heap_new w1 (.cells #[.bool fr, .bool tt0, .bool false] 44))
                replace HX := Lib.hid (kept_alloc HX.out (.cells #[.bool fr, .bool tt0, .bool false] 44))
                replace hb := hb.alloc hb.size (.cells #[.bool fr, .bool tt0, .bool false] 44)
                generalize w1.alloc (.cells #[.bool fr, .bool tt0, .bool false] 44) = w2 at *
                clear c0 c1 c2 c3 hlt
                refine (W1.out _).mono ?_
                rintro e w3 ⟨rfl, hb1⟩
                replace HX := Lib.hid (kept_block HX.out hb1)
                replace HY := Lib.hid (kept_block HY.out hb1)
                replace hb := hb.trans (hb1.mono hb.size)
                clear hb1
                obtain ⟨c0, c1, c2, c3⟩ := four_cells HX.out
                obtain ⟨d0, d1, d2⟩ := three_cells HY.out
                go_wp2_with fail
                clear c0 c1 c2 c3 d0 d1 d2
                refine (P1.out _).mono ?_
                rintro e w4 ⟨rfl, hb1⟩
                replace HX := Lib.hid (kept_block HX.out hb1)
                replace HY := Lib.hid (kept_block HY.out hb1)
                replace hb := hb.trans (hb1.mono hb.size)
                clear hb1
                obtain ⟨c0, c1, c2, c3⟩ := four_cells HX.out
                obtain ⟨d0, d1, d2⟩ := three_cells HY.out
                go_wp2_with fail
                clear c0 c1 c2 c3 d0 d1 d2
                refine (P2.out _).mono ?_
                rintro e w5 ⟨rfl, hb1⟩
                replace HX := Lib.hid (kept_block HX.out hb1)
                replace HY := Lib.hid (kept_block HY.out hb1)
                replace hb := hb.trans (hb1.mono hb.size)
                clear hb1
                obtain ⟨c0, c1, c2, c3⟩ := four_cells HX.out
                obtain ⟨d0, d1, d2⟩ := three_cells HY.out
                go_wp2_with fail
                clear c0 c1 c2 c3 d0 d1 d2
                refine (U1.out _).mono ?_
                rintro e w6 ⟨rfl, hb1⟩
                replace HX := Lib.hid (kept_block HX.out hb1)
                replace HY := Lib.hid (kept_block HY.out hb1)
                replace hb := hb.trans (hb1.mono hb.size)
                clear hb1
                obtain ⟨c0, c1, c2, c3⟩ := four_cells HX.out
                obtain ⟨d0, d1, d2⟩ := three_cells HY.out
                go_wp2_with fail
                go_ret
                exact ⟨rfl, hb⟩
  | true =>
    rw [hnn] at F1
    have HM2 : mostE k = 511 := by rw [HM.out, hnn]; rfl
    clear hnn HM
    rw [HM2]
    clear HM2
    cases em with
    | true =>
      go_enter Tryd.func9, Tryd.ntmps9
      go_wp2_with fail
      have hX := World.alloc_heap_new w (.cells #[.int .i64 k, .string f, .string t, .int .i64 n] 23)
      have hb := (Below.refl w.heap.size w).alloc (Nat.le_refl _) (.cells #[.int .i64 k, .string f, .string t, .int .i64 n] 23)
      generalize w.alloc (.cells #[.int .i64 k, .string f, .string t, .int .i64 n] 23) = w0 at *
      have HX := Lib.hid hX
      clear hX
      refine (F1.out _).mono ?_
      rintro e w1 ⟨rfl, hb1⟩
      replace HX := Lib.hid (kept_block HX.out hb1)
      replace hb := hb.trans (hb1.mono hb.size)
      clear hb1
      obtain ⟨c0, c1, c2, c3⟩ := four_cells HX.out
      have hlt := (Array.getElem?_eq_some_iff.1 HX.out).1
      go_wp2_with fail
      have HY := Lib.hid (World.alloc_heap_new w1 (.cells #[.bool fr, .bool tt0, .bool true] 44))
      replace HX := Lib.hid (kept_alloc HX.out (.cells #[.bool fr, .bool tt0, .bool true] 44))
      replace hb := hb.alloc hb.size (.cells #[.bool fr, .bool tt0, .bool true] 44)
      generalize w1.alloc (.cells #[.bool fr, .bool tt0, .bool true] 44) = w2 at *
      clear c0 c1 c2 c3 hlt
      refine (W1.out _).mono ?_
      rintro e w3 ⟨rfl, hb1⟩
      replace HX := Lib.hid (kept_block HX.out hb1)
      replace HY := Lib.hid (kept_block HY.out hb1)
      replace hb := hb.trans (hb1.mono hb.size)
      clear hb1
      obtain ⟨c0, c1, c2, c3⟩ := four_cells HX.out
      obtain ⟨d0, d1, d2⟩ := three_cells HY.out
      go_wp2_with fail
      go_ret
      exact ⟨rfl, hb⟩
    | false =>
      cases p1 with
      | false =>
        go_enter Tryd.func9, Tryd.ntmps9
        go_wp2_with fail
        have hX := World.alloc_heap_new w (.cells #[.int .i64 k, .string f, .string t, .int .i64 n] 23)
        have hb := (Below.refl w.heap.size w).alloc (Nat.le_refl _) (.cells #[.int .i64 k, .string f, .string t, .int .i64 n] 23)
        generalize w.alloc (.cells #[.int .i64 k, .string f, .string t, .int .i64 n] 23) = w0 at *
        have HX := Lib.hid hX
        clear hX
        refine (F1.out _).mono ?_
        rintro e w1 ⟨rfl, hb1⟩
        replace HX := Lib.hid (kept_block HX.out hb1)
        replace hb := hb.trans (hb1.mono hb.size)
        clear hb1
        obtain ⟨c0, c1, c2, c3⟩ := four_cells HX.out
        have hlt := (Array.getElem?_eq_some_iff.1 HX.out).1
        go_wp2_with fail
        have HY := Lib.hid (World.alloc_heap_new w1 (.cells #[.bool fr, .bool tt0, .bool true] 44))
        replace HX := Lib.hid (kept_alloc HX.out (.cells #[.bool fr, .bool tt0, .bool true] 44))
        replace hb := hb.alloc hb.size (.cells #[.bool fr, .bool tt0, .bool true] 44)
        generalize w1.alloc (.cells #[.bool fr, .bool tt0, .bool true] 44) = w2 at *
        clear c0 c1 c2 c3 hlt
        refine (W1.out _).mono ?_
        rintro e w3 ⟨rfl, hb1⟩
        replace HX := Lib.hid (kept_block HX.out hb1)
        replace HY := Lib.hid (kept_block HY.out hb1)
        replace hb := hb.trans (hb1.mono hb.size)
        clear hb1
        obtain ⟨c0, c1, c2, c3⟩ := four_cells HX.out
        obtain ⟨d0, d1, d2⟩ := three_cells HY.out
        go_wp2_with fail
        clear c0 c1 c2 c3 d0 d1 d2
        refine (P1.out _).mono ?_
        rintro e w4 ⟨rfl, hb1⟩
        replace HX := Lib.hid (kept_block HX.out hb1)
        replace HY := Lib.hid (kept_block HY.out hb1)
        replace hb := hb.trans (hb1.mono hb.size)
        clear hb1
        obtain ⟨c0, c1, c2, c3⟩ := four_cells HX.out
        obtain ⟨d0, d1, d2⟩ := three_cells HY.out
        go_wp2_with fail
        go_ret
        exact ⟨rfl, hb⟩
      | true =>
        cases p2 with
        | false =>
          go_enter Tryd.func9, Tryd.ntmps9
          go_wp2_with fail
          have hX := World.alloc_heap_new w (.cells #[.int .i64 k, .string f, .string t, .int .i64 n] 23)
          have hb := (Below.refl w.heap.size w).alloc (Nat.le_refl _) (.cells #[.int .i64 k, .string f, .string t, .int .i64 n] 23)
          generalize w.alloc (.cells #[.int .i64 k, .string f, .string t, .int .i64 n] 23) = w0 at *
          have HX := Lib.hid hX
          clear hX
          refine (F1.out _).mono ?_
          rintro e w1 ⟨rfl, hb1⟩
          replace HX := Lib.hid (kept_block HX.out hb1)
          replace hb := hb.trans (hb1.mono hb.size)
          clear hb1
          obtain ⟨c0, c1, c2, c3⟩ := four_cells HX.out
          have hlt := (Array.getElem?_eq_some_iff.1 HX.out).1
          go_wp2_with fail
          have HY := Lib.hid (World.alloc_heap_new w1 (.cells #[.bool fr, .bool tt0, .bool true] 44))
          replace HX := Lib.hid (kept_alloc HX.out (.cells #[.bool fr, .bool tt0, .bool true] 44))
          replace hb := hb.alloc hb.size (.cells #[.bool fr, .bool tt0, .bool true] 44)
          generalize w1.alloc (.cells #[.bool fr, .bool tt0, .bool true] 44) = w2 at *
          clear c0 c1 c2 c3 hlt
          refine (W1.out _).mono ?_
          rintro e w3 ⟨rfl, hb1⟩
          replace HX := Lib.hid (kept_block HX.out hb1)
          replace HY := Lib.hid (kept_block HY.out hb1)
          replace hb := hb.trans (hb1.mono hb.size)
          clear hb1
          obtain ⟨c0, c1, c2, c3⟩ := four_cells HX.out
          obtain ⟨d0, d1, d2⟩ := three_cells HY.out
          go_wp2_with fail
          clear c0 c1 c2 c3 d0 d1 d2
          refine (P1.out _).mono ?_
          rintro e w4 ⟨rfl, hb1⟩
          replace HX := Lib.hid (kept_block HX.out hb1)
          replace HY := Lib.hid (kept_block HY.out hb1)
          replace hb := hb.trans (hb1.mono hb.size)
          clear hb1
          obtain ⟨c0, c1, c2, c3⟩ := four_cells HX.out
          obtain ⟨d0, d1, d2⟩ := three_cells HY.out
          go_wp2_with fail
          clear c0 c1 c2 c3 d0 d1 d2
          refine (P2.out _).mono ?_
          rintro e w5 ⟨rfl, hb1⟩
          replace HX := Lib.hid (kept_block HX.out hb1)
          replace HY := Lib.hid (kept_block HY.out hb1)
          replace hb := hb.trans (hb1.mono hb.size)
          clear hb1
          obtain ⟨c0, c1, c2, c3⟩ := four_cells HX.out
          obtain ⟨d0, d1, d2⟩ := three_cells HY.out
          go_wp2_with fail
          go_ret
          exact ⟨rfl, hb⟩
        | true =>
          cases h0 : decide ((0 : Int) ≤ n) with
          | false =>
            go_enter Tryd.func9, Tryd.ntmps9
            go_wp2_with fail
            have hX := World.alloc_heap_new w (.cells #[.int .i64 k, .string f, .string t, .int .i64 n] 23)
            have hb := (Below.refl w.heap.size w).alloc (Nat.le_refl _) (.cells #[.int .i64 k, .string f, .string t, .int .i64 n] 23)
            generalize w.alloc (.cells #[.int .i64 k, .string f, .string t, .int .i64 n] 23) = w0 at *
            have HX := Lib.hid hX
            clear hX
            refine (F1.out _).mono ?_
            rintro e w1 ⟨rfl, hb1⟩
            replace HX := Lib.hid (kept_block HX.out hb1)
            replace hb := hb.trans (hb1.mono hb.size)
            clear hb1
            obtain ⟨c0, c1, c2, c3⟩ := four_cells HX.out
            have hlt := (Array.getElem?_eq_some_iff.1 HX.out).1
            go_wp2_with fail
            have HY := Lib.hid (World.alloc_heap_new w1 (.cells #[.bool fr, .bool tt0, .bool true] 44))
            replace HX := Lib.hid (kept_alloc HX.out (.cells #[.bool fr, .bool tt0, .bool true] 44))
            replace hb := hb.alloc hb.size (.cells #[.bool fr, .bool tt0, .bool true] 44)
            generalize w1.alloc (.cells #[.bool fr, .bool tt0, .bool true] 44) = w2 at *
            clear c0 c1 c2 c3 hlt
            refine (W1.out _).mono ?_
            rintro e w3 ⟨rfl, hb1⟩
            replace HX := Lib.hid (kept_block HX.out hb1)
            replace HY := Lib.hid (kept_block HY.out hb1)
            replace hb := hb.trans (hb1.mono hb.size)
            clear hb1
            obtain ⟨c0, c1, c2, c3⟩ := four_cells HX.out
            obtain ⟨d0, d1, d2⟩ := three_cells HY.out
            go_wp2_with fail
            clear c0 c1 c2 c3 d0 d1 d2
            refine (P1.out _).mono ?_
            rintro e w4 ⟨rfl, hb1⟩
            replace HX := Lib.hid (kept_block HX.out hb1)
            replace HY := Lib.hid (kept_block HY.out hb1)
            replace hb := hb.trans (hb1.mono hb.size)
            clear hb1
            obtain ⟨c0, c1, c2, c3⟩ := four_cells HX.out
            obtain ⟨d0, d1, d2⟩ := three_cells HY.out
            go_wp2_with fail
            clear c0 c1 c2 c3 d0 d1 d2
            refine (P2.out _).mono ?_
            rintro e w5 ⟨rfl, hb1⟩
            replace HX := Lib.hid (kept_block HX.out hb1)
            replace HY := Lib.hid (kept_block HY.out hb1)
            replace hb := hb.trans (hb1.mono hb.size)
            clear hb1
            obtain ⟨c0, c1, c2, c3⟩ := four_cells HX.out
            obtain ⟨d0, d1, d2⟩ := three_cells HY.out
            go_wp2_with fail
            go_ret
            exact ⟨rfl, hb⟩
          | true =>
            cases h1 : decide (n ≤ 511) with
            | false =>
              go_enter Tryd.func9, Tryd.ntmps9
              go_wp2_with fail
              have hX := World.alloc_heap_new w (.cells #[.int .i64 k, .string f, .string t, .int .i64 n] 23)
              have hb := (Below.refl w.heap.size w).alloc (Nat.le_refl _) (.cells #[.int .i64 k, .string f, .string t, .int .i64 n] 23)
              generalize w.alloc (.cells #[.int .i64 k, .string f, .string t, .int .i64 n] 23) = w0 at *
              have HX := Lib.hid hX
              clear hX
              refine (F1.out _).mono ?_
              rintro e w1 ⟨rfl, hb1⟩
              replace HX := Lib.hid (kept_block HX.out hb1)
              replace hb := hb.trans (hb1.mono hb.size)
              clear hb1
              obtain ⟨c0, c1, c2, c3⟩ := four_cells HX.out
              have hlt := (Array.getElem?_eq_some_iff.1 HX.out).1
              go_wp2_with fail
              have HY := Lib.hid (World.alloc_heap_new w1 (.cells #[.bool fr, .bool tt0, .bool true] 44))
              replace HX := Lib.hid (kept_alloc HX.out (.cells #[.bool fr, .bool tt0, .bool true] 44))
              replace hb := hb.alloc hb.size (.cells #[.bool fr, .bool tt0, .bool true] 44)
              generalize w1.alloc (.cells #[.bool fr, .bool tt0, .bool true] 44) = w2 at *
              clear c0 c1 c2 c3 hlt
              refine (W1.out _).mono ?_
              rintro e w3 ⟨rfl, hb1⟩
              replace HX := Lib.hid (kept_block HX.out hb1)
              replace HY := Lib.hid (kept_block HY.out hb1)
              replace hb := hb.trans (hb1.mono hb.size)
              clear hb1
              obtain ⟨c0, c1, c2, c3⟩ := four_cells HX.out
              obtain ⟨d0, d1, d2⟩ := three_cells HY.out
              go_wp2_with fail
              clear c0 c1 c2 c3 d0 d1 d2
              refine (P1.out _).mono ?_
              rintro e w4 ⟨rfl, hb1⟩
              replace HX := Lib.hid (kept_block HX.out hb1)
              replace HY := Lib.hid (kept_block HY.out hb1)
              replace hb := hb.trans (hb1.mono hb.size)
              clear hb1
              obtain ⟨c0, c1, c2, c3⟩ := four_cells HX.out
              obtain ⟨d0, d1, d2⟩ := three_cells HY.out
              go_wp2_with fail
              clear c0 c1 c2 c3 d0 d1 d2
              refine (P2.out _).mono ?_
              rintro e w5 ⟨rfl, hb1⟩
              replace HX := Lib.hid (kept_block HX.out hb1)
              replace HY := Lib.hid (kept_block HY.out hb1)
              replace hb := hb.trans (hb1.mono hb.size)
              clear hb1
              obtain ⟨c0, c1, c2, c3⟩ := four_cells HX.out
              obtain ⟨d0, d1, d2⟩ := three_cells HY.out
              go_wp2_with fail
              go_ret
              exact ⟨rfl, hb⟩
            | true =>
              cases h5 : decide ((5 : Int) < k) with
              | true =>
                go_enter Tryd.func9, Tryd.ntmps9
                go_wp2_with fail
                have hX := World.alloc_heap_new w (.cells #[.int .i64 k, .string f, .string t, .int .i64 n] 23)
                have hb := (Below.refl w.heap.size w).alloc (Nat.le_refl _) (.cells #[.int .i64 k, .string f, .string t, .int .i64 n] 23)
                generalize w.alloc (.cells #[.int .i64 k, .string f, .string t, .int .i64 n] 23) = w0 at *
                have HX := Lib.hid hX
                clear hX
                refine (F1.out _).mono ?_
                rintro e w1 ⟨rfl, hb1⟩
                replace HX := Lib.hid (kept_block HX.out hb1)
                replace hb := hb.trans (hb1.mono hb.size)
                clear hb1
                obtain ⟨c0, c1, c2, c3⟩ := four_cells HX.out
                have hlt := (Array.getElem?_eq_some_iff.1 HX.out).1
                go_wp2_with fail
                have HY := Lib.hid (World.alloc_heap_new w1 (.cells #[.bool fr, .bool tt0, .bool true] 44))
                replace HX := Lib.hid (kept_alloc HX.out (.cells #[.bool fr, .bool tt0, .bool true] 44))
                replace hb := hb.alloc hb.size (.cells #[.bool fr, .bool tt0, .bool true] 44)
                generalize w1.alloc (.cells #[.bool fr, .bool tt0, .bool true] 44) = w2 at *
                clear c0 c1 c2 c3 hlt
                refine (W1.out _).mono ?_
                rintro e w3 ⟨rfl, hb1⟩
                replace HX := Lib.hid (kept_block HX.out hb1)
                replace HY := Lib.hid (kept_block HY.out hb1)
                replace hb := hb.trans (hb1.mono hb.size)
                clear hb1
                obtain ⟨c0, c1, c2, c3⟩ := four_cells HX.out
                obtain ⟨d0, d1, d2⟩ := three_cells HY.out
                go_wp2_with fail
                clear c0 c1 c2 c3 d0 d1 d2
                refine (P1.out _).mono ?_
                rintro e w4 ⟨rfl, hb1⟩
                replace HX := Lib.hid (kept_block HX.out hb1)
                replace HY := Lib.hid (kept_block HY.out hb1)
                replace hb := hb.trans (hb1.mono hb.size)
                clear hb1
                obtain ⟨c0, c1, c2, c3⟩ := four_cells HX.out
                obtain ⟨d0, d1, d2⟩ := three_cells HY.out
                go_wp2_with fail
                clear c0 c1 c2 c3 d0 d1 d2
                refine (P2.out _).mono ?_
                rintro e w5 ⟨rfl, hb1⟩
                replace HX := Lib.hid (kept_block HX.out hb1)
                replace HY := Lib.hid (kept_block HY.out hb1)
                replace hb := hb.trans (hb1.mono hb.size)
                clear hb1
                obtain ⟨c0, c1, c2, c3⟩ := four_cells HX.out
                obtain ⟨d0, d1, d2⟩ := three_cells HY.out
                go_wp2_with fail
                go_ret
                exact ⟨rfl, hb⟩
              | false =>
                go_enter Tryd.func9, Tryd.ntmps9
                go_wp2_with fail
                have hX := World.alloc_heap_new w (.cells #[.int .i64 k, .string f, .string t, .int .i64 n] 23)
                have hb := (Below.refl w.heap.size w).alloc (Nat.le_refl _) (.cells #[.int .i64 k, .string f, .string t, .int .i64 n] 23)
                generalize w.alloc (.cells #[.int .i64 k, .string f, .string t, .int .i64 n] 23) = w0 at *
                have HX := Lib.hid hX
                clear hX
                refine (F1.out _).mono ?_
                rintro e w1 ⟨rfl, hb1⟩
                replace HX := Lib.hid (kept_block HX.out hb1)
                replace hb := hb.trans (hb1.mono hb.size)
                clear hb1
                obtain ⟨c0, c1, c2, c3⟩ := four_cells HX.out
                have hlt := (Array.getElem?_eq_some_iff.1 HX.out).1
                go_wp2_with fail
                have HY := Lib.hid (World.alloc_heap_new w1 (.cells #[.bool fr, .bool tt0, .bool true] 44))
                replace HX := Lib.hid (kept_alloc HX.out (.cells #[.bool fr, .bool tt0, .bool true] 44))
                replace hb := hb.alloc hb.size (.cells #[.bool fr, .bool tt0, .bool true] 44)
                generalize w1.alloc (.cells #[.bool fr, .bool tt0, .bool true] 44) = w2 at *
                clear c0 c1 c2 c3 hlt
                refine (W1.out _).mono ?_
                rintro e w3 ⟨rfl, hb1⟩
                replace HX := Lib.hid (kept_block HX.out hb1)
                replace HY := Lib.hid (kept_block HY.out hb1)
                replace hb := hb.trans (hb1.mono hb.size)
                clear hb1
                obtain ⟨c0, c1, c2, c3⟩ := four_cells HX.out
                obtain ⟨d0, d1, d2⟩ := three_cells HY.out
                go_wp2_with fail
                clear c0 c1 c2 c3 d0 d1 d2
                refine (P1.out _).mono ?_
                rintro e w4 ⟨rfl, hb1⟩
                replace HX := Lib.hid (kept_block HX.out hb1)
                replace HY := Lib.hid (kept_block HY.out hb1)
                replace hb := hb.trans (hb1.mono hb.size)
                clear hb1
                obtain ⟨c0, c1, c2, c3⟩ := four_cells HX.out
                obtain ⟨d0, d1, d2⟩ := three_cells HY.out
                go_wp2_with fail
                clear c0 c1 c2 c3 d0 d1 d2
                refine (P2.out _).mono ?_
                rintro e w5 ⟨rfl, hb1⟩
                replace HX := Lib.hid (kept_block HX.out hb1)
                replace HY := Lib.hid (kept_block HY.out hb1)
                replace hb := hb.trans (hb1.mono hb.size)
                clear hb1
                obtain ⟨c0, c1, c2, c3⟩ := four_cells HX.out
                obtain ⟨d0, d1, d2⟩ := three_cells HY.out
                go_wp2_with fail
                clear c0 c1 c2 c3 d0 d1 d2
                refine (U1.out _).mono ?_
                rintro e w6 ⟨rfl, hb1⟩
                replace HX := Lib.hid (kept_block HX.out hb1)
                replace HY := Lib.hid (kept_block HY.out hb1)
                replace hb := hb.trans (hb1.mono hb.size)
                clear hb1
                obtain ⟨c0, c1, c2, c3⟩ := four_cells HX.out
                obtain ⟨d0, d1, d2⟩ := three_cells HY.out
                go_wp2_with fail
                go_ret
                exact ⟨rfl, hb⟩
end Go.Proofs.YtcapaiiegfedmaaDoor
