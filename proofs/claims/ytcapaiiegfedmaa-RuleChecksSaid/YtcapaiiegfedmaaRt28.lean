/- flittingref03.Matches, by the contract of flittingref02.Parse. · flittingref03.Keeps, CheckAll, Shut, by the contract of flittingref02.Parse. -/
import Derived.Test.YtcapaiiegfedmaaRt27
namespace Go.Proofs.Ytcapaiiegfedmaa
open Go.RowKit Go.Shelf
theorem open_parts (r : Bs) (ps : List Part) (h : openB r = some ps) : r.length ≤ 64 ∧ coreB r ≠ [] ∧ parseB (coreB r) = some ps := by
  unfold openB at h
  split at h
  · cases h
  · split at h
    · cases h
    · exact ⟨by omega, by assumption, h⟩
theorem names_none (p : Bs) (h : names p = []) : (!p.isEmpty && rightB p) = false := by
  unfold names at h
  cases hr : rightB p with
  | false => simp
  | true =>
    rw [hr] at h
    simp only [if_true] at h
    by_cases hp : p = []
    · subst hp; rfl
    · rw [cut_cons p hp] at h; exact absurd h (split1_ne p)
theorem names_some (p : Bs) (h : names p ≠ []) : (!p.isEmpty && rightB p) = true ∧ names p = split1 p := by
  unfold names at h ⊢
  cases hr : rightB p with
  | false => rw [hr] at h; simp at h
  | true =>
    by_cases hp : p = []
    · subst hp; exact absurd rfl h
    · rw [if_pos rfl, cut_cons p hp]
      refine ⟨?_, rfl⟩
      cases p with
      | nil => exact absurd rfl hp
      | cons a t => rfl
theorem ends_at (p : Bs) (k : Nat) (hk : k < (split1 p).length) : (endsS p)[k]? = some (glue ((split1 p).drop k)) := by
  unfold endsS
  rw [List.getElem?_map, List.getElem?_range hk]
  rfl
set_option maxRecDepth 100000 in
set_option maxHeartbeats 8000000 in
theorem rmatches3_walk (H : RParseC) (k : Bool) (r p : ByteArray) (d : Bool) (hr : r.size ≤ 100000) (hp : p.size ≤ 100000) (w : World) : Calls Try.prog 75 #[.agg #[.bool k, .string r], .string p, .bool d] w fun e w' => e = .returned (.bool (matchesB (L r) (L p) d)) ∧ Below w.heap.size w w' := by
  have hb0 := (Below.refl w.heap.size w).alloc (Nat.le_refl _) (.cells #[.bool k, .string r] 102)
  have hX0 := World.alloc_heap_new w (.cells #[.bool k, .string r] 102)
  have C1 := Lib.hid (fun W => core_walk r hr W)
  have N1 := Lib.hid (fun W => rnames_walk p hp W)
  have K1 := Lib.hid (fun W => rcheck3_walk H k r hr W)
  cases ho : openB (L r) with
  | none =>
    have HM := Lib.hid (matches_none (L r) (L p) d ho)
    have hq : (ruleC (L r) != 0) = true := by rcases rule_none _ ho with h | h <;> rw [h] <;> rfl
    clear ho
    generalize ruleC (L r) = cc at *
    generalize B (coreB (L r)) = cs at *
    generalize wholeB (L r) = wh at *
    generalize dirB (L r) = di at *
    go_enter Try.func75, Try.ntmps75
    go_wp2_with (first | (go_at_call 111; refine (C1.out _).mono ?_; rintro e w1 ⟨rfl, rfl⟩) | (go_at_call 31; refine (N1.out _).mono ?_; rintro e w2 ⟨A, c, rfl, hcc, hsl, hb2⟩; obtain ⟨x0, x1⟩ := two_new2 ((hb2.block _ (lt_o hX0)).trans hX0)) | (go_at_call 77; refine (K1.out _).mono ?_; rintro e w3 ⟨rfl, hb3⟩))
    go_ret
    rw [HM.out]
    exact ⟨rfl, (hb0.trans (hb2.mono hb0.size)).trans (hb3.mono (by have := hb0.size; have := hb2.size; omega))⟩
  | some ps =>
    have HM := Lib.hid (matches_some (L r) (L p) d ps ho)
    obtain ⟨hr64, hcne, hpa⟩ := open_parts (L r) ps ho
    have hl64 := (rule_some _ ps ho).2
    rw [(rule_some _ ps ho).1] at K1
    have hl2 : (B (coreB (L r))).size ≤ 64 := by have := core_len (L r); rw [B_size]; omega
    have P1 := Lib.hid (fun W => rparse_yes H (B (coreB (L r))) hl2 ps (by rw [L_B]; exact hpa) W)
    clear ho hcne hpa hl2 hr64
    generalize B (coreB (L r)) = cs at *
    obtain ⟨wh, hwh⟩ : ∃ wh, wholeB (L r) = wh := ⟨_, rfl⟩
    obtain ⟨di, hdi⟩ : ∃ di, dirB (L r) = di := ⟨_, rfl⟩
    rw [hwh, hdi] at C1 HM
    clear hwh hdi
    by_cases hnm : names (L p) = []
    · have HF : Hid (matchesB (L r) (L p) d = false) := by show _ = _; rw [HM.out, names_none _ hnm]; rfl
      rw [hnm] at N1
      go_enter Try.func75, Try.ntmps75
      go_wp2_with (first | (go_at_call 111; refine (C1.out _).mono ?_; rintro e w1 ⟨rfl, rfl⟩) | (go_at_call 31; refine (N1.out _).mono ?_; rintro e w2 ⟨A, c, rfl, hcc, hsl, hb2⟩; obtain ⟨x0, x1⟩ := two_new2 ((hb2.block _ (lt_o hX0)).trans hX0)) | (go_at_call 77; refine (K1.out _).mono ?_; rintro e w3 ⟨rfl, hb3⟩))
      go_ret
      rw [HF.out]
      exact ⟨rfl, (hb0.trans (hb2.mono hb0.size)).trans (hb3.mono (by have := hb0.size; have := hb2.size; omega))⟩
    · obtain ⟨hn1, hn2⟩ := names_some _ hnm
      have hcnt := split1_count (L p)
      rw [L_len] at hcnt
      have hpos := List.length_pos_iff.2 hnm
      rw [hn2] at N1 hpos
      rw [hn1] at HM
      have hz : ((((split1 (L p)).length : Nat) : Int) == 0) = false := by simp; exact split1_ne _
      have hzl : ¬ ((split1 (L p)).length = 0) := by omega
      clear hn1
      cases hdd : (di && !d) with
      | true =>
        simp only [Bool.and_eq_true, Bool.not_eq_true'] at hdd
        obtain ⟨rfl, rfl⟩ := hdd
        have HF : Hid (matchesB (L r) (L p) false = false) := by show _ = _; rw [HM.out]; rfl
        clear HM
        go_enter Try.func75, Try.ntmps75
        go_wp2_with (first | (go_at_call 111; refine (C1.out _).mono ?_; rintro e w1 ⟨rfl, rfl⟩) | (go_at_call 31; refine (N1.out _).mono ?_; rintro e w2 ⟨A, c, rfl, hcc, hsl, hb2⟩; obtain ⟨x0, x1⟩ := two_new2 ((hb2.block _ (lt_o hX0)).trans hX0)) | (go_at_call 77; refine (K1.out _).mono ?_; rintro e w3 ⟨rfl, hb3⟩))
        go_ret
        rw [HF.out]
        exact ⟨rfl, (hb0.trans (hb2.mono hb0.size)).trans (hb3.mono (by have := hb0.size; have := hb2.size; omega))⟩
      | false =>
        have HF : Hid (matchesB (L r) (L p) d = hitB wh ps (L p)) := by
          show _ = _
          rw [HM.out]
          cases di <;> cases d <;> first | rfl | (exact absurd hdd (by decide))
        clear HM
        have hdd2 : (di = true ∧ d = true) ∨ di = false := by cases di <;> cases d <;> first | (exact .inr rfl) | (exact .inl ⟨rfl, rfl⟩) | (exact absurd hdd (by decide))
        clear hdd
        rcases hdd2 with ⟨rfl, rfl⟩ | rfl
        · go_enter Try.func75, Try.ntmps75
          go_wp2_with (first | (go_at_call 111; refine (C1.out _).mono ?_; rintro e w1 ⟨rfl, rfl⟩) | (go_at_call 31; refine (N1.out _).mono ?_; rintro e w2 ⟨A, c, rfl, hcc, hsl, hb2⟩; obtain ⟨x0, x1⟩ := two_new2 ((hb2.block _ (lt_o hX0)).trans hX0)) | (go_at_call 77; refine (K1.out _).mono ?_; rintro e w3 ⟨rfl, hb3⟩) | (go_at_call 112; refine (P1.out _).mono ?_; rintro e w9 ⟨⟨A1, q1, l1, rfl, hq1, hr1, hs1, hi1⟩, hb9⟩))
          have hbw := ((hb0.trans (hb2.mono hb0.size)).trans (hb3.mono (by have := hb0.size; have := hb2.size; omega))).trans (hb9.mono (by have := hb0.size; have := hb2.size; have := hb3.size; omega))
          have hsl9 := (hsl.keep hb3).keep hb9
          have hcc1 := hcc.1
          clear hb2 hb3 hb9 hsl hcc x0 x1 hX0 hb0
          rcases hsl9 with h | ⟨b, o, rfl, hblt, hcell⟩
          · exact absurd h (by intro e; have := congrArg List.length e; simp at this; exact split1_ne _ this)
          have HS1 := Lib.hid hs1
          have HI1 := Lib.hid hi1
          have HR1 := Lib.hid hr1
          have HCELL := Lib.hid hcell
          clear hs1 hi1 hr1 hcell
          go_loopw [13] (fun i wr => ∃ m : Nat, m ≤ (split1 (L p)).length ∧ i = .int .i64 m ∧ (wh = true → m = 0) ∧ Hid (((endsS (L p)).take m).any (matchB ps) = false) ∧ Below w9.heap.size w9 wr) (fun i _ => (split1 (L p)).length - (intOf i).toNat)
          case atStart => exact ⟨0, Nat.zero_le _, rfl, fun _ => rfl, by rw [List.take_zero]; rfl, Below.refl _ _⟩
          case round =>
            obtain ⟨m, hm, rfl, hwm0, HP, hbr⟩ := hrel
            have HWM := Lib.hid hwm0
            clear hwm0
            by_cases hlt : m < (split1 (L p)).length
            · have hm0 : (0 : Int) ≤ (m : Int) := Int.natCast_nonneg _
              have hm1 : (m : Int) < ((split1 (L p)).length : Int) := by omega
              have hm2 : (m : Int) ≤ ((split1 (L p)).length : Int) := by omega
              have hc2 : ((split1 (L p)).length : Int) ≤ (c : Int) := by omega
              have hcm : ¬ (c = m) := by omega
              have hat := ends_at (L p) m hlt
              have hslm : Slc wr (some ⟨b, o + m, none⟩) (((split1 (L p)).drop m).map strV) := by
                refine .inr ⟨b, o + m, rfl, by have := hbr.size; omega, fun i v hv => ?_⟩
                have h1 : ((split1 (L p)).map strV)[m + i]? = some v := by
                  rw [List.getElem?_map] at hv ⊢
                  rw [List.getElem?_drop] at hv
                  exact hv
                have h2 := HCELL.out (m + i) v h1
                rw [Nat.add_assoc]
                exact (hbr.cell hblt).trans h2
              have hgl := glue_drop_len (split1 (L p)) m
              rw [glue_split1, L_len] at hgl
              have G0 := glue_walk (some ⟨b, o + m, none⟩) (c - m) ((split1 (L p)).drop m) wr hslm (by rw [List.length_drop]; omega) (by omega)
              rw [List.length_drop] at G0
              have G1 := Lib.hid G0
              have M0 := rmatch_walk A1 q1 l1 ps (B (glue ((split1 (L p)).drop m))) wr HR1.out (HS1.out.keep hbr) (HI1.out.keep hbr) (by rw [HR1.out.1]; omega) (by rw [B_size]; omega)
              rw [L_B] at M0
              have M1 := Lib.hid M0
              have hgz : m = 0 → glue ((split1 (L p)).drop m) = L p := by rintro rfl; rw [List.drop_zero, glue_split1]
              clear G0 M0 hslm hgl
              cases hmm : matchB ps (glue ((split1 (L p)).drop m)) with
              | true =>
                rw [hmm] at M1
                have HT : Hid (matchesB (L r) (L p) true = true) := by
                  show _ = _
                  rw [HF.out]
                  unfold hitB
                  cases wh with
                  | true => rw [hgz (HWM.out rfl)] at hmm; exact hmm
                  | false =>
                    show (endsS (L p)).any (matchB ps) = true
                    rw [List.any_eq_true]
                    exact ⟨_, List.mem_of_getElem? hat, hmm⟩
                clear hmm hgz hat
                generalize glue ((split1 (L p)).drop m) = gl at *
                go_wp2_with (first | (go_at_call 36; refine G1.out.mono ?_; rintro e w6 ⟨rfl, hw6⟩; subst w6) | (go_at_call 113; refine M1.out.mono ?_; rintro e w7 ⟨rfl, hb7⟩))
                go_ret
                rw [HT.out]
                exact ⟨rfl, (hbw.trans (hbr.mono hbw.size)).trans (hb7.mono (by have := hbw.size; have := hbr.size; omega))⟩
              | false =>
                rw [hmm] at M1
                cases wh with
                | true =>
                  have HT : Hid (matchesB (L r) (L p) true = false) := by
                    show _ = _
                    rw [HF.out]
                    rw [hgz (HWM.out rfl)] at hmm; exact hmm
                  clear hmm hgz hat
                  generalize glue ((split1 (L p)).drop m) = gl at *
                  go_wp2_with (first | (go_at_call 36; refine G1.out.mono ?_; rintro e w6 ⟨rfl, hw6⟩; subst w6) | (go_at_call 113; refine M1.out.mono ?_; rintro e w7 ⟨rfl, hb7⟩))
                  go_ret
                  rw [HT.out]
                  exact ⟨rfl, (hbw.trans (hbr.mono hbw.size)).trans (hb7.mono (by have := hbw.size; have := hbr.size; omega))⟩
                | false =>
                  have HN := Lib.hid (any_take_next _ m _ (matchB ps) hat HP.out hmm)
                  clear hmm hgz hat
                  generalize glue ((split1 (L p)).drop m) = gl at *
                  go_wp2_with (first | (go_at_call 36; refine G1.out.mono ?_; rintro e w6 ⟨rfl, hw6⟩; subst w6) | (go_at_call 113; refine M1.out.mono ?_; rintro e w7 ⟨rfl, hb7⟩))
                  go_roundw
                  case rel => exact ⟨m + 1, by omega, by go_num, by simp, HN.out, hbr.trans (hb7.mono hbr.size)⟩
                  case measure => simp [intOf]; omega
            · obtain rfl : m = (split1 (L p)).length := by omega
              have hwf : wh = false := by
                cases wh with
                | true => exact absurd (HWM.out rfl) hzl
                | false => rfl
              subst hwf
              have HT : Hid (matchesB (L r) (L p) true = false) := by
                show _ = _
                rw [HF.out]
                have h2 := HP.out
                rw [← ends_len, List.take_length] at h2
                exact h2
              go_wp2_with fail
              go_ret
              rw [HT.out]
              exact ⟨rfl, hbw.trans (hbr.mono hbw.size)⟩
        · go_enter Try.func75, Try.ntmps75
          go_wp2_with (first | (go_at_call 111; refine (C1.out _).mono ?_; rintro e w1 ⟨rfl, rfl⟩) | (go_at_call 31; refine (N1.out _).mono ?_; rintro e w2 ⟨A, c, rfl, hcc, hsl, hb2⟩; obtain ⟨x0, x1⟩ := two_new2 ((hb2.block _ (lt_o hX0)).trans hX0)) | (go_at_call 77; refine (K1.out _).mono ?_; rintro e w3 ⟨rfl, hb3⟩) | (go_at_call 112; refine (P1.out _).mono ?_; rintro e w9 ⟨⟨A1, q1, l1, rfl, hq1, hr1, hs1, hi1⟩, hb9⟩))
          have hbw := ((hb0.trans (hb2.mono hb0.size)).trans (hb3.mono (by have := hb0.size; have := hb2.size; omega))).trans (hb9.mono (by have := hb0.size; have := hb2.size; have := hb3.size; omega))
          have hsl9 := (hsl.keep hb3).keep hb9
          have hcc1 := hcc.1
          clear hb2 hb3 hb9 hsl hcc x0 x1 hX0 hb0
          rcases hsl9 with h | ⟨b, o, rfl, hblt, hcell⟩
          · exact absurd h (by intro e; have := congrArg List.length e; simp at this; exact split1_ne _ this)
          have HS1 := Lib.hid hs1
          have HI1 := Lib.hid hi1
          have HR1 := Lib.hid hr1
          have HCELL := Lib.hid hcell
          clear hs1 hi1 hr1 hcell
          go_loopw [13] (fun i wr => ∃ m : Nat, m ≤ (split1 (L p)).length ∧ i = .int .i64 m ∧ (wh = true → m = 0) ∧ Hid (((endsS (L p)).take m).any (matchB ps) = false) ∧ Below w9.heap.size w9 wr) (fun i _ => (split1 (L p)).length - (intOf i).toNat)
          case atStart => exact ⟨0, Nat.zero_le _, rfl, fun _ => rfl, by rw [List.take_zero]; rfl, Below.refl _ _⟩
          case round =>
            obtain ⟨m, hm, rfl, hwm0, HP, hbr⟩ := hrel
            have HWM := Lib.hid hwm0
            clear hwm0
            by_cases hlt : m < (split1 (L p)).length
            · have hm0 : (0 : Int) ≤ (m : Int) := Int.natCast_nonneg _
              have hm1 : (m : Int) < ((split1 (L p)).length : Int) := by omega
              have hm2 : (m : Int) ≤ ((split1 (L p)).length : Int) := by omega
              have hc2 : ((split1 (L p)).length : Int) ≤ (c : Int) := by omega
              have hcm : ¬ (c = m) := by omega
              have hat := ends_at (L p) m hlt
              have hslm : Slc wr (some ⟨b, o + m, none⟩) (((split1 (L p)).drop m).map strV) := by
                refine .inr ⟨b, o + m, rfl, by have := hbr.size; omega, fun i v hv => ?_⟩
                have h1 : ((split1 (L p)).map strV)[m + i]? = some v := by
                  rw [List.getElem?_map] at hv ⊢
                  rw [List.getElem?_drop] at hv
                  exact hv
                have h2 := HCELL.out (m + i) v h1
                rw [Nat.add_assoc]
                exact (hbr.cell hblt).trans h2
              have hgl := glue_drop_len (split1 (L p)) m
              rw [glue_split1, L_len] at hgl
              have G0 := glue_walk (some ⟨b, o + m, none⟩) (c - m) ((split1 (L p)).drop m) wr hslm (by rw [List.length_drop]; omega) (by omega)
              rw [List.length_drop] at G0
              have G1 := Lib.hid G0
              have M0 := rmatch_walk A1 q1 l1 ps (B (glue ((split1 (L p)).drop m))) wr HR1.out (HS1.out.keep hbr) (HI1.out.keep hbr) (by rw [HR1.out.1]; omega) (by rw [B_size]; omega)
              rw [L_B] at M0
              have M1 := Lib.hid M0
              have hgz : m = 0 → glue ((split1 (L p)).drop m) = L p := by rintro rfl; rw [List.drop_zero, glue_split1]
              clear G0 M0 hslm hgl
              cases hmm : matchB ps (glue ((split1 (L p)).drop m)) with
              | true =>
                rw [hmm] at M1
                have HT : Hid (matchesB (L r) (L p) d = true) := by
                  show _ = _
                  rw [HF.out]
                  unfold hitB
                  cases wh with
                  | true => rw [hgz (HWM.out rfl)] at hmm; exact hmm
                  | false =>
                    show (endsS (L p)).any (matchB ps) = true
                    rw [List.any_eq_true]
                    exact ⟨_, List.mem_of_getElem? hat, hmm⟩
                clear hmm hgz hat
                generalize glue ((split1 (L p)).drop m) = gl at *
                go_wp2_with (first | (go_at_call 36; refine G1.out.mono ?_; rintro e w6 ⟨rfl, hw6⟩; subst w6) | (go_at_call 113; refine M1.out.mono ?_; rintro e w7 ⟨rfl, hb7⟩))
                go_ret
                rw [HT.out]
                exact ⟨rfl, (hbw.trans (hbr.mono hbw.size)).trans (hb7.mono (by have := hbw.size; have := hbr.size; omega))⟩
              | false =>
                rw [hmm] at M1
                cases wh with
                | true =>
                  have HT : Hid (matchesB (L r) (L p) d = false) := by
                    show _ = _
                    rw [HF.out]
                    rw [hgz (HWM.out rfl)] at hmm; exact hmm
                  clear hmm hgz hat
                  generalize glue ((split1 (L p)).drop m) = gl at *
                  go_wp2_with (first | (go_at_call 36; refine G1.out.mono ?_; rintro e w6 ⟨rfl, hw6⟩; subst w6) | (go_at_call 113; refine M1.out.mono ?_; rintro e w7 ⟨rfl, hb7⟩))
                  go_ret
                  rw [HT.out]
                  exact ⟨rfl, (hbw.trans (hbr.mono hbw.size)).trans (hb7.mono (by have := hbw.size; have := hbr.size; omega))⟩
                | false =>
                  have HN := Lib.hid (any_take_next _ m _ (matchB ps) hat HP.out hmm)
                  clear hmm hgz hat
                  generalize glue ((split1 (L p)).drop m) = gl at *
                  go_wp2_with (first | (go_at_call 36; refine G1.out.mono ?_; rintro e w6 ⟨rfl, hw6⟩; subst w6) | (go_at_call 113; refine M1.out.mono ?_; rintro e w7 ⟨rfl, hb7⟩))
                  go_roundw
                  case rel => exact ⟨m + 1, by omega, by go_num, by simp, HN.out, hbr.trans (hb7.mono hbr.size)⟩
                  case measure => simp [intOf]; omega
            · obtain rfl : m = (split1 (L p)).length := by omega
              have hwf : wh = false := by
                cases wh with
                | true => exact absurd (HWM.out rfl) hzl
                | false => rfl
              subst hwf
              have HT : Hid (matchesB (L r) (L p) d = false) := by
                show _ = _
                rw [HF.out]
                have h2 := HP.out
                rw [← ends_len, List.take_length] at h2
                exact h2
              go_wp2_with fail
              go_ret
              rw [HT.out]
              exact ⟨rfl, hbw.trans (hbr.mono hbw.size)⟩
end Go.Proofs.Ytcapaiiegfedmaa
namespace Go.Proofs.Ytcapaiiegfedmaa
open Go.RowKit Go.Shelf
set_option maxRecDepth 100000 in
set_option maxHeartbeats 4000000 in
theorem keeps3_walk (H : RParseC) (A : Option Addr) (c : Nat) (rs : List RuleD) (p : ByteArray) (d : Bool) (hp : p.size ≤ 100000) (hn : rs.length ≤ 1000) (hr : ∀ r ∈ rs, r.2.length ≤ 100000) (w : World) (hx : Slc w A (rs.flatMap rV)) :
    Calls Try.prog 72 #[.slice A rs.length c, .string p, .bool d] w fun e w' => e = .returned (.bool (keepsB rs (L p) d)) ∧ Below w.heap.size w w' := by
  have M1 := Lib.hid (fun k (r : ByteArray) (h : r.size ≤ 100000) W => rmatches3_walk H k r p d h hp W)
  have HX := Lib.hid hx
  have HRS := Lib.hid hr
  clear hx hr
  go_enter Try.func72, Try.ntmps72
  go_wp2_with fail
  go_loopw [7] (fun i wr => ∃ k : Nat, k ≤ rs.length ∧ i = .int .i64 k ∧ Hid ((rs.take k).find? (fun r => matchesB r.2 (L p) d) = none) ∧ Below w.heap.size w wr) (fun i _ => rs.length - (intOf i).toNat)
  case atStart => exact ⟨0, Nat.zero_le _, rfl, by rw [List.take_zero]; rfl, Below.refl _ _⟩
  case round =>
    obtain ⟨k, hk, rfl, HP, hbr⟩ := hrel
    by_cases hlt : k < rs.length
    · obtain ⟨r, hrk⟩ : ∃ r, rs[k]? = some r := ⟨_, List.getElem?_eq_getElem hlt⟩
      have HK := Lib.hid hrk
      have hrl := HRS.out r (List.mem_of_getElem? hrk)
      obtain ⟨b, o, rfl, hlb, c0, c1⟩ := two_at rV (fun _ => rfl) (HX.out.keep hbr) hrk rfl
      unfold strV at c1
      have HM := Lib.hid (M1.out r.1 (B r.2) (by rw [B_size]; exact hrl))
      rw [L_B] at HM
      have hi0 : (0 : Int) ≤ (k : Int) := Int.natCast_nonneg _
      have hi1 : (k : Int) < (rs.length : Int) := by omega
      clear hrk
      cases hm : matchesB r.2 (L p) d with
      | true =>
        have HR := Lib.hid (keeps_at rs (L p) d r (find_here rs _ k r HK.out hm HP.out))
        rw [hm] at HM
        clear hm
        go_wp2_with (go_at_call 75; refine (HM.out _).mono ?_; rintro e w9 ⟨rfl, hb9⟩; have z0 : w9.cell? ⟨b, o + k * 2, none⟩ = _ := (hb9.cell hlb).trans c0)
        go_ret
        rw [HR.out]
        exact ⟨rfl, hbr.trans (hb9.mono hbr.size)⟩
      | false =>
        have HN := Lib.hid (find_on rs (fun r => matchesB r.2 (L p) d) k r HK.out hm HP.out)
        rw [hm] at HM
        clear hm
        go_wp2_with (go_at_call 75; refine (HM.out _).mono ?_; rintro e w9 ⟨rfl, hb9⟩)
        go_roundw
        case rel => exact ⟨k + 1, by omega, by go_num, HN.out, hbr.trans (hb9.mono hbr.size)⟩
        case measure => simp [intOf]; omega
    · obtain rfl : k = rs.length := by omega
      rw [List.take_length] at HP
      have HR := Lib.hid (keeps_no rs (L p) d HP.out)
      go_wp2_with fail
      go_ret
      rw [HR.out]
      exact ⟨rfl, hbr⟩
theorem ups_at (p : Bs) (k : Nat) (hk : k < (names p).length) : (upsL p)[k]? = some (glue ((names p).take k)) := by
  rw [upsL_eq, List.getElem?_map, List.getElem?_range hk]
  rfl
theorem keeps_empty (rs : List RuleD) (d : Bool) : keepsB rs [] d = true := by
  refine keeps_no rs [] d ?_
  rw [List.find?_eq_none]
  intro r _
  unfold matchesB
  cases openB r.2 <;> simp
theorem shut_from1 (rs : List RuleD) (p : Bs) (h : ∀ i, 1 ≤ i → i < (names p).length → keepsB rs (glue ((names p).take i)) true = true) (d : Bool) : shutB rs p d = !keepsB rs p d := by
  rw [shut_eq]
  have : (upsL p).any (fun u => !keepsB rs u true) = false := by
    rw [List.any_eq_false]
    intro u hu
    rw [upsL_eq, List.mem_map] at hu
    obtain ⟨i, hi, rfl⟩ := hu
    rw [List.mem_range] at hi
    by_cases h0 : i = 0
    · subst h0; rw [List.take_zero, show glue [] = ([] : Bs) from rfl, keeps_empty]; simp
    · rw [h i (by omega) (by omega)]; simp
  rw [this, Bool.or_false]
theorem shut_at (rs : List RuleD) (p : Bs) (i : Nat) (hi : i < (names p).length) (h : keepsB rs (glue ((names p).take i)) true = false) (d : Bool) : shutB rs p d = true := by
  rw [shut_eq, Bool.or_eq_true]
  right
  rw [List.any_eq_true]
  exact ⟨_, List.mem_of_getElem? (ups_at p i hi), by rw [h]; rfl⟩
set_option maxRecDepth 100000 in
set_option maxHeartbeats 4000000 in
theorem shut3_walk (H : RParseC) (A : Option Addr) (c : Nat) (rs : List RuleD) (p : ByteArray) (d : Bool) (hp : p.size ≤ 100000) (hn : rs.length ≤ 1000) (hr : ∀ r ∈ rs, r.2.length ≤ 100000) (w : World) (hx : Slc w A (rs.flatMap rV)) :
    Calls Try.prog 74 #[.slice A rs.length c, .string p, .bool d] w fun e w' => e = .returned (.bool (shutB rs (L p) d)) ∧ Below w.heap.size w w' := by
  have N1 := Lib.hid (fun W => rnames_walk p hp W)
  have K1 := Lib.hid (fun (q : ByteArray) (hq : q.size ≤ 100000) b W (h : Slc W A (rs.flatMap rV)) => keeps3_walk H A c rs q b hq hn hr W h)
  have HX := Lib.hid hx
  have hcnt := names_count (L p)
  rw [L_len] at hcnt
  have hgl : ∀ i, (glue ((names (L p)).take i)).length ≤ p.size := fun i => by
    have h1 := glue_front_len (names (L p)) i
    have h2 : (glue (names (L p))).length ≤ p.size := by
      unfold names
      split
      · rw [glue_cut, L_len]; exact Nat.le_refl _
      · simp [glue]
    omega
  have HGL := Lib.hid hgl
  clear hx hr hgl
  go_enter Try.func74, Try.ntmps74
  go_wp2_with (go_at_call 31; refine (N1.out _).mono ?_; rintro e w2 ⟨B1, c1, rfl, hcc, hsl, hb2⟩)
  have HS := Lib.hid hsl
  have HCC := Lib.hid hcc
  clear hsl hcc
  go_loopw [8] (fun i wr => ∃ m : Nat, 1 ≤ m ∧ m ≤ 100002 ∧ i = .int .i64 m ∧ Hid (∀ i, 1 ≤ i → i < m → i < (names (L p)).length → keepsB rs (glue ((names (L p)).take i)) true = true) ∧ Below w2.heap.size w2 wr) (fun i _ => (names (L p)).length - (intOf i).toNat)
  case atStart => exact ⟨1, Nat.le_refl _, by omega, rfl, (show ∀ i, 1 ≤ i → i < 1 → _ from fun i h1 h2 => by omega), Below.refl _ _⟩
  case round =>
    obtain ⟨m, hm1, hm2, rfl, HP, hbr⟩ := hrel
    have hbw := hb2.trans (hbr.mono hb2.size)
    by_cases hlt : m < (names (L p)).length
    · rcases HS.out with h | ⟨b, o, rfl, hblt, hcell⟩
      · exact absurd h (by intro e; have := congrArg List.length e; simp at this; rw [this] at hlt; simp at hlt)
      have HCELL := Lib.hid hcell
      clear hcell
      have hi0 : (0 : Int) ≤ (m : Int) := Int.natCast_nonneg _
      have hi1 : (m : Int) < ((names (L p)).length : Int) := by omega
      have hi2 : (m : Int) ≤ (c1 : Int) := by have := HCC.out.1; omega
      have hg := HGL.out m
      have hslm : Slc wr (some ⟨b, o, none⟩) (((names (L p)).take m).map strV) := by
        refine .inr ⟨b, o, rfl, by have := hbr.size; omega, fun i v hv => ?_⟩
        have h1 : ((names (L p)).map strV)[i]? = some v := by
          rw [List.getElem?_map] at hv ⊢
          rw [List.getElem?_take] at hv
          split at hv
          · exact hv
          · cases hv
        exact (hbr.cell hblt).trans (HCELL.out i v h1)
      have G0 := glue_walk (some ⟨b, o, none⟩) c1 ((names (L p)).take m) wr hslm (by rw [List.length_take]; omega) (by omega)
      rw [List.length_take, Nat.min_eq_left (by omega)] at G0
      have G1 := Lib.hid G0
      have KM := Lib.hid (K1.out (B (glue ((names (L p)).take m))) (by rw [B_size]; omega) true wr (HX.out.keep hbw))
      rw [L_B] at KM
      clear G0 hslm hg
      cases hk : keepsB rs (glue ((names (L p)).take m)) true with
      | true =>
        have HN : Hid (∀ i, 1 ≤ i → i < m + 1 → i < (names (L p)).length → keepsB rs (glue ((names (L p)).take i)) true = true) := by
          intro i h1 h2 h3
          by_cases h4 : i < m
          · exact HP.out i h1 h4 h3
          · obtain rfl : i = m := by omega
            exact hk
        rw [hk] at KM
        clear hk
        generalize glue ((names (L p)).take m) = gl at G1 KM
        go_wp2_with (first | (go_at_call 36; refine G1.out.mono ?_; rintro e w6 ⟨rfl, hw6⟩; subst w6) | (go_at_call 72; refine KM.out.mono ?_; rintro e w7 ⟨rfl, hb7⟩))
        go_roundw
        case rel => exact ⟨m + 1, by omega, by omega, by go_num, HN.out, hbr.trans (hb7.mono hbr.size)⟩
        case measure => simp [intOf]; omega
      | false =>
        have HT := Lib.hid (shut_at rs (L p) m hlt hk d)
        rw [hk] at KM
        clear hk
        generalize glue ((names (L p)).take m) = gl at G1 KM
        go_wp2_with (first | (go_at_call 36; refine G1.out.mono ?_; rintro e w6 ⟨rfl, hw6⟩; subst w6) | (go_at_call 72; refine KM.out.mono ?_; rintro e w7 ⟨rfl, hb7⟩))
        go_ret
        rw [HT.out]
        exact ⟨rfl, hbw.trans (hb7.mono hbw.size)⟩
    · have HT := Lib.hid (shut_from1 rs (L p) (fun i h1 h2 => HP.out i h1 (by omega) h2) d)
      have hge : ¬ ((m : Int) < ((names (L p)).length : Int)) := by omega
      have KD := Lib.hid (K1.out p hp d wr (HX.out.keep hbw))
      generalize keepsB rs (L p) d = kd at *
      go_wp2_with (go_at_call 72; refine KD.out.mono ?_; rintro e w7 ⟨rfl, hb7⟩)
      go_ret
      rw [HT.out]
      exact ⟨rfl, hbw.trans (hb7.mono hbw.size)⟩
end Go.Proofs.Ytcapaiiegfedmaa
