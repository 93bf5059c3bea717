/- Glob: members. · Glob: one part. -/
import Derived.WalkMore
import Derived.Test.YtcapaiiegfedmaaRt14
namespace Go.Proofs.Ytcapaiiegfedmaa
open Go.RowKit Go.Shelf
theorem qadd {P : Program} {f : FuncId} {args : Array Value} {w : World} {a n : Nat} {v : Value}
    (h : Calls P f args (w.drewN (a + n)) fun e w' => e = .returned v ∧ w.drewN (a + n) = w') :
    Calls P f args (w.drewN (a + n)) fun e w'' => e = .returned v ∧ ∃ m, w'' = w.drewN (a + m) :=
  h.mono fun _ _ ⟨he, hm⟩ => ⟨he, n, hm.symm⟩
theorem qone {P : Program} {f : FuncId} {args : Array Value} {w : World} {n : Nat} {v : Value}
    (h : Calls P f args (w.drewN n) fun e w' => e = .returned v ∧ w.drewN n = w') : Calls P f args (w.drewN n) fun e w'' => e = .returned v ∧ ∃ m, w'' = w.drewN m :=
  h.mono fun _ _ ⟨he, hm⟩ => ⟨he, n, hm.symm⟩
/-- the result's block and the set's one -/
def Two (w : World) (ib : Nat) (g : Nat → Bool) (wr : World) : Prop :=
  wr.heap[ib]? = some (.cells (rowV 256 g) 171 (0, 0)) ∧ wr.heap[w.heap.size]? = some (.cells (rowV 257 (fun _ => false)) 173 (0, 0)) ∧ Below w.heap.size w wr ∧ w.heap.size < ib
theorem draw_below {B n : Nat} {w w1 : World} (h : Below B w w1) : Below B w (w1.drewN n) := h.trans ⟨rfl, rfl, rfl, Nat.le_refl _, fun _ _ => rfl⟩
theorem Two.drew {w : World} {ib : Nat} {g : Nat → Bool} {wr : World} (h : Two w ib g wr) (n : Nat) : Two w ib g (wr.drewN n) := ⟨h.1, h.2.1, draw_below h.2.2.1, h.2.2.2⟩
theorem Two.set {w : World} {ib : Nat} {g : Nat → Bool} {wr : World} (h : Two w ib g wr) (k : Nat) (v : Bool) : Two w ib (fun i => if i = k then v else g i) (wr.setCell ⟨ib, k, none⟩ (.bool v)) :=
  ⟨set_row h.1 k v, (cell_set_other _ _ _ _ _ (by have := h.2.2.2; omega)).trans h.2.1, h.2.2.1.setCell (Nat.le_of_lt h.2.2.2) _, h.2.2.2⟩
theorem Two.as {w : World} {ib : Nat} {g g' : Nat → Bool} {wr : World} (h : Two w ib g wr) (e : rowV 256 g = rowV 256 g') : Two w ib g' wr := ⟨e ▸ h.1, h.2⟩
theorem two_start {w w1 w2 : World} (h1 : w1.heap[w.heap.size]? = some (.cells (rowV 257 (fun _ => false)) 173 (0, 0))) (h2 : w2.heap[w1.heap.size]? = some (.cells (rowV 256 (fun _ => false)) 171 (0, 0)))
    (h3 : Below w.heap.size w w1) (h4 : Below w1.heap.size w1 w2) (h5 : w.heap.size < w1.heap.size) : Two w w1.heap.size (fun _ => false) w2 :=
  ⟨h2, (h4.block _ h5).trans h1, h3.trans (h4.mono (Nat.le_of_lt h5)), h5⟩
theorem member_eq (c : UInt8) (b : Bool) (h : memberB c = b) (w : World) : Calls Try.prog 156 #[.int .u8 (c.toNat : Int)] w fun e w' => e = .returned (.bool b) ∧ w = w' := by rw [← h]; exact member_walk c w
set_option maxRecDepth 100000 in
set_option maxHeartbeats 8000000 in
theorem members_walk (s : ByteArray) (hs : s.size ≤ 100000) (p : Nat) (hp : p ≤ s.size) (w : World) :
    Calls Try.prog 143 #[.string s, .int .i64 p] w fun e w' => PartRes s (classB ((L s).drop p)) e ∧ Below w.heap.size w w' := by
  obtain ⟨no, hno⟩ : ∃ no : Bool, (if h : p < s.size then s[p] == 33 else false) = no := ⟨_, rfl⟩
  obtain ⟨first, hfirst⟩ : ∃ first, (if no = true then p + 1 else p) = first := ⟨_, rfl⟩
  have hfl : first ≤ s.size := by
    rw [← hfirst]
    split
    · next h =>
      rw [h] at hno
      split at hno
      · omega
      · cases hno
    · exact hp
  have HC : Hid (classB ((L s).drop p) = class2 no ((L s).drop first)) := by
    show _ = _
    rw [← hfirst]
    cases no with
    | true =>
      split at hno
      · next h => rw [if_pos rfl]; exact classB_no s p h (by simpa using hno)
      · cases hno
    | false =>
      rw [if_neg (by decide)]
      refine classB_in s p (fun h => ?_)
      rw [dif_pos h] at hno; simpa using hno
  suffices hmain : Calls Try.prog 143 #[.string s, .int .i64 p] w fun e w' => PartRes s (class2 no ((L s).drop first)) e ∧ Below w.heap.size w w' by rw [HC.out]; exact hmain
  clear HC
  have hnob : (∀ h : p < s.size, ((s[p].toNat : Int) == 33) = no) ∧ (s.size ≤ p → no = false) := by
    constructor
    · intro h; rw [dif_pos h] at hno; rw [beq_byte _ 33 33 rfl]; exact hno
    · intro h; rw [dif_neg (by omega)] at hno; exact hno.symm
  clear hno
  have HN := Lib.hid hnob
  clear hnob
  by_cases hps : p < s.size
  case neg =>
    have hno := HN.out.2 (by omega)
    subst hno
    have hpl : p = s.size := by omega
    subst hpl
    have HFI : Hid ((.int .i64 (s.size : Int) : Value) = .int .i64 (first : Int)) := by show _ = _; rw [← hfirst]; rfl
    have HNONE : Hid (class2 false ((L s).drop first) = none) := by show _ = _; rw [class2_eq, dif_neg (by rw [← hfirst]; simp)]
    clear hfirst
    go_enter Try.func143, Try.ntmps143
    go_wp2_with (refine step_new 4 rfl rfl 173 rfl _ _ zero_part ?_; intro w1 HR1 hs1 HB1; simp only [Act.put, List.setIfInBounds_toArray, List.set_cons_zero, List.set_cons_succ])
    go_step3
    go_wp2_with (refine step_new 7 rfl rfl 171 rfl _ _ zero_set ?_; intro w2 HO hs2 HB2; simp only [Act.put, List.setIfInBounds_toArray, List.set_cons_zero, List.set_cons_succ])
    go_step3
    go_wp2_with fail
    have HT := Lib.hid (two_start HR1.out HO.out HB1.out HB2.out hs1)
    generalize w1.heap.size = ib at *
    clear HR1 HO HB1 HB2 hs1 hs2
    go_loopw [1] (fun i wr => i = .int .i64 (s.size : Nat) ∧ Hid (Two w ib (fun _ => false) wr)) (fun i _ => 0)
    case atStart => exact ⟨rfl, HT.out⟩
    case round =>
      obtain ⟨rfl, HT⟩ := hrel
      go_wp2_with (first
        | (refine step_build rfl 173 #[] rfl [] rfl _ build_none ?_; simp only [Act.put, List.setIfInBounds_toArray, List.set_cons_zero, List.set_cons_succ])
        | (refine step_store rfl rfl 173 _ _ rfl _ rfl _ _ rfl _ HT.out.2.1 (size_part _) (by simp only [rowV_size]) (rowV_all _ _) ?_; intro w9 HX HB9))
      (try simp only [Exit.inBlock, Exit.then, Exit.noGoto_ret])
      refine bodyPost_ret (results_cell3 rfl _ _ _ _ _ rfl (loaded_part HX.out)) rfl ⟨by rw [HNONE.out]; rfl, HT.out.2.2.1.trans (HB9.out _ (Nat.le_refl _))⟩
  case pos =>
    have hnq := HN.out.1 hps
    have hp0 : (0 : Int) ≤ (p : Int) := Int.natCast_nonneg _
    have hp1 : (p : Int) < (s.size : Int) := by omega
    cases no with
    | true =>
      have HFI : Hid ((.int .i64 ((p : Int) + 1) : Value) = .int .i64 (first : Int)) := by show _ = _; rw [← hfirst]; rfl
      have hf1 : first = p + 1 := hfirst.symm
      clear hfirst
      go_enter Try.func143, Try.ntmps143
      go_wp2_with (refine step_new 4 rfl rfl 173 rfl _ _ zero_part ?_; intro w1 HR1 hs1 HB1; simp only [Act.put, List.setIfInBounds_toArray, List.set_cons_zero, List.set_cons_succ])
      go_step3
      go_wp2_with (refine step_new 7 rfl rfl 171 rfl _ _ zero_set ?_; intro w2 HO hs2 HB2; simp only [Act.put, List.setIfInBounds_toArray, List.set_cons_zero, List.set_cons_succ])
      go_step3
      go_wp2_with fail
      have HT := Lib.hid (two_start HR1.out HO.out HB1.out HB2.out hs1)
      generalize w1.heap.size = ib at *
      clear HR1 HO HB1 HB2 hs1 hs2
      rw [show ((p : Int) + 1) = ((first : Nat) : Int) by omega]
      clear hf1
      go_loopw [1] (fun i wr => ∃ (k : Nat) (f : UInt8 → Bool), first ≤ k ∧ k ≤ s.size ∧ i = .int .i64 k ∧ Hid (ReadTo s true first k f) ∧ Hid (Two w ib (fun i => f i.toUInt8) wr)) (fun i _ => s.size - (intOf i).toNat)
      case atStart => exact ⟨first, noneB, Nat.le_refl _, hfl, by first | rfl | exact HFI.out, .inl ⟨rfl, rfl⟩, HT.out⟩
      case round =>
        obtain ⟨k, f, hfk, hks, rfl, HR, HT⟩ := hrel
        by_cases hlt : k < s.size
        case neg =>
          obtain rfl : k = s.size := by omega
          have HNONE : Hid (class2 true ((L s).drop first) = none) := read_over s true first _ f HR.out (Nat.le_refl _)
          go_wp2_with (first
            | (refine step_build rfl 173 #[] rfl [] rfl _ build_none ?_; simp only [Act.put, List.setIfInBounds_toArray, List.set_cons_zero, List.set_cons_succ])
            | (refine step_store rfl rfl 173 _ _ rfl _ rfl _ _ rfl _ HT.out.2.1 (size_part _) (by simp only [rowV_size]) (rowV_all _ _) ?_; intro w9 HX HB9))
          (try simp only [Exit.inBlock, Exit.then, Exit.noGoto_ret])
          refine bodyPost_ret (results_cell3 rfl _ _ _ _ _ rfl (loaded_part HX.out)) rfl ⟨by rw [HNONE.out]; rfl, HT.out.2.2.1.trans (HB9.out _ (Nat.le_refl _))⟩
        have hi0 : (0 : Int) ≤ (k : Int) := Int.natCast_nonneg _
        have hi1 : (k : Int) < (s.size : Int) := by omega
        have hne : ((k : Int) == (s.size : Int)) = false := by simp; omega
        by_cases h93 : s[k] = 93
        · have hq93 : ((s[k].toNat : Int) == 93) = true := by rw [beq_byte _ 93 93 rfl]; simpa using h93
          by_cases hkf : k = first
          · subst hkf
            have HNONE : Hid (class2 true ((L s).drop k) = none) := read_none s true k hlt h93
            go_wp2_with (first
              | (refine step_build rfl 173 #[] rfl [] rfl _ build_none ?_; simp only [Act.put, List.setIfInBounds_toArray, List.set_cons_zero, List.set_cons_succ])
              | (refine step_store rfl rfl 173 _ _ rfl _ rfl _ _ rfl _ HT.out.2.1 (size_part _) (by simp only [rowV_size]) (rowV_all _ _) ?_; intro w9 HX HB9))
            (try simp only [Exit.inBlock, Exit.then, Exit.noGoto_ret])
            refine bodyPost_ret (results_cell3 rfl _ _ _ _ _ rfl (loaded_part HX.out)) rfl ⟨by rw [HNONE.out]; rfl, HT.out.2.2.1.trans (HB9.out _ (Nat.le_refl _))⟩
          · have HD := Lib.hid (read_done s true first k f HR.out hlt h93 hkf)
            have hkf2 : ((k : Int) == (first : Int)) = false := by simp; omega
            have HFS := Lib.hid (fin_start true f)
            have HFN := Lib.hid (fun j hj => fin_next true f j hj)
            have HFE := Lib.hid (fin_end true f ((L s).drop (k + 1)))
            clear h93 hkf HR
            go_wp2_with fail
            go_loopw [102] (fun ci wq => ∃ j : Nat, j ≤ 256 ∧ ci = .int .i64 j ∧ Hid (Two w ib (finRow true f j) wq)) (fun ci _ => 256 - (intOf ci).toNat)
            case atStart => exact ⟨0, by omega, rfl, HT.out.as HFS.out⟩
            case round =>
              obtain ⟨j, hj, rfl, HJ⟩ := hrel
              by_cases hj256 : j < 256
              · have hc := cell_row HJ.out.1 j hj256
                have hf := free_row HJ.out.1 j
                have hj0 : (0 : Int) ≤ (j : Int) := Int.natCast_nonneg _
                have hj1 : (j : Int) < 256 := by omega
                have hfr : finRow true f j j = f j.toUInt8 := by unfold finRow; rw [if_neg (by omega)]
                rw [hfr] at hc
                have HJN := Lib.hid ((HJ.out.set j ((f j.toUInt8 != true) && (j : Int) != 47)).as (HFN.out j hj256))
                clear hfr HFN HFE HFS
                generalize f j.toUInt8 = a at *
                cases hv : ((j : Int) != 47)
                all_goals cases a
                all_goals
                  go_wp2_with fail
                  go_roundw
                  case rel => exact ⟨j + 1, by omega, by go_num, by have h := HJN.out; rw [hv] at h; exact h⟩
                  case measure => simp [intOf]; omega
              · obtain rfl : j = 256 := by omega
                go_wp2_with (first
                  | (refine step_load 117 rfl rfl 171 _ rfl _ rfl _ _ _ HJ.out.1 _ Try.underlying171 rfl (size_row _) ?_; simp only [Act.put, List.setIfInBounds_toArray, List.set_cons_zero, List.set_cons_succ])
                  | (refine step_build rfl 173 _ rfl [(0, .agg (rowV 256 (finRow true f 256)))] rfl _ (build_row _) ?_; simp only [Act.put, List.setIfInBounds_toArray, List.set_cons_zero, List.set_cons_succ])
                  | (refine step_store rfl rfl 173 _ _ rfl _ rfl _ _ rfl _ HJ.out.2.1 (size_part _) (by simp only [rowV_size]) (rowV_all _ _) ?_; intro w9 HX HB9))
                rw [HFE.out] at HX
                (try simp only [Exit.inBlock, Exit.then, Exit.noGoto_ret])
                refine bodyPost_ret (results_cell3 rfl _ _ _ _ _ rfl (loaded_part HX.out)) rfl ⟨?_, HJ.out.2.2.1.trans (HB9.out _ (Nat.le_refl _))⟩
                rw [HD.out]
                exact ⟨k + 1, by omega, rfl, rfl⟩
        have hq93 : ((s[k].toNat : Int) == 93) = false := by rw [beq_byte _ 93 93 rfl]; simpa using h93
        cases hmb : memberB s[k] with
        | false =>
          have HNONE : Hid (class2 true ((L s).drop first) = none) := read_stop s true first k f HR.out hlt h93 (by rw [drop_cons s k hlt]; exact setF_no f _ _ h93 hmb)
          have M1 := Lib.hid (fun W => member_eq _ _ hmb W)
          clear hmb h93
          go_wp2_with fail
          refine (M1.out _).mono ?_
          rintro e w1 ⟨rfl, rfl⟩
          go_wp2_with (first
            | (refine step_build rfl 173 #[] rfl [] rfl _ build_none ?_; simp only [Act.put, List.setIfInBounds_toArray, List.set_cons_zero, List.set_cons_succ])
            | (refine step_store rfl rfl 173 _ _ rfl _ rfl _ _ rfl _ HT.out.2.1 (size_part _) (by simp only [rowV_size]) (rowV_all _ _) ?_; intro w9 HX HB9))
          (try simp only [Exit.inBlock, Exit.then, Exit.noGoto_ret])
          refine bodyPost_ret (results_cell3 rfl _ _ _ _ _ rfl (loaded_part HX.out)) rfl ⟨by rw [HNONE.out]; rfl, HT.out.2.2.1.trans (HB9.out _ (Nat.le_refl _))⟩
        | true =>
          have M1 := Lib.hid (fun W => member_eq _ _ hmb W)
          by_cases hA : k + 2 < s.size
          · have hA1 : decide ((k : Int) + 2 < (s.size : Int)) = true := by simp; omega
            have hb1 : (k : Int) + 1 < (s.size : Int) := by omega
            have hb2 : (k : Int) + 2 < (s.size : Int) := by omega
            have hb3 : (0 : Int) ≤ (k : Int) + 1 := by omega
            have hb4 : (0 : Int) ≤ (k : Int) + 2 := by omega
            by_cases h45 : s[k + 1]'(by omega) = 45
            · have hq45 : (((s[k + 1]'(by omega)).toNat : Int) == 45) = true := by rw [beq_byte _ 45 45 rfl]; simpa using h45
              by_cases h9 : s[k + 2] = 93
              · have hq9 : ((s[k + 2].toNat : Int) != 93) = false := by rw [bne_byte _ 93 93 rfl]; simpa using h9
                have HST := Lib.hid (place_one s f k hlt h93 hmb (fun _ _ => h9))
                have M2 := M1
                have HSN := Lib.hid (read_more s true first k (k + 1) f _ HR.out hlt h93 (by omega) HST.out)
                have hq : decide (((s[k]).toNat : Int) < (s[k].toNat : Int)) = false := by simp
                have hlohi : s[k].toNat ≤ (s[k]).toNat := Nat.le_refl _
                have hkb := s[k].toNat_lt
                have HSP := Lib.hid (fun lo hi => span_end f lo hi)
                have HS0 := Lib.hid (fun lo => span_start f lo)
                have HS1 := Lib.hid (fun lo j h => span_next f lo j h)
                go_wp2_with fail
                refine (M1.out _).mono ?_
                rintro e w1 ⟨rfl, rfl⟩
                go_wp2_with fail
                go_quiet ((first | (go_at_call 156; exact qadd (M2.out _)) | (go_at_call 156; exact qone (M2.out _))))
                replace HT := Lib.hid (HT.out.drew nq)
                go_wp2_with fail
                go_loopw [11] (fun ci wq => ∃ j : Nat, s[k].toNat ≤ j ∧ j ≤ (s[k]'hlt).toNat + 1 ∧ ci = .int .i64 j ∧ Hid (Two w ib (spanRow f s[k].toNat j) wq)) (fun ci _ => (s[k]'hlt).toNat + 1 - (intOf ci).toNat)
                case atStart => exact ⟨s[k].toNat, Nat.le_refl _, by omega, by first | rfl | go_num, HT.out.as (HS0.out _)⟩
                case round =>
                  obtain ⟨j, hj1, hj2, rfl, HJ⟩ := hrel
                  have hb8 := (s[k]'hlt).toNat_lt
                  by_cases hjh : j ≤ (s[k]'hlt).toNat
                  · have hjq : decide ((j : Int) ≤ ((s[k]'hlt).toNat : Int)) = true := by simpa using hjh
                    have hc := cell_row HJ.out.1 j (by omega)
                    have hf := free_row HJ.out.1 j
                    have hi0 : (0 : Int) ≤ (j : Int) := Int.natCast_nonneg _
                    have hi1 : (j : Int) < 256 := by omega
                    have HJN := Lib.hid ((HJ.out.set j true).as (HS1.out _ j hj1))
                    go_wp2_with fail
                    go_roundw
                    case rel => exact ⟨j + 1, by omega, by omega, by go_num, HJN.out⟩
                    case measure => simp [intOf]; omega
                  · have hjq : decide ((j : Int) ≤ ((s[k]'hlt).toNat : Int)) = false := by simpa using hjh
                    obtain rfl : j = (s[k]'hlt).toNat + 1 := by omega
                    have HJE := Lib.hid (HJ.out.as (HSP.out s[k] (s[k]'hlt)))
                    go_wp2_with fail
                    go_roundw
                    case rel => exact ⟨k + 1, _, by omega, by omega, by go_num, HSN.out, HJE.out⟩
                    case measure => simp [intOf]; omega
              · have hq9 : ((s[k + 2].toNat : Int) != 93) = true := by rw [bne_byte _ 93 93 rfl]; simpa using h9
                have HST := Lib.hid (place_span s f k hA h93 hmb h45 h9)
                cases hme : memberB (s[k + 2]'hA) with
                | false =>
                  have HNONE : Hid (class2 true ((L s).drop first) = none) := read_stop s true first k f HR.out hlt h93 (by rw [HST.out, if_pos (.inl hme)])
                  have M2 := Lib.hid (fun W => member_eq _ _ hme W)
                  clear hme
                  go_wp2_with fail
                  refine (M1.out _).mono ?_
                  rintro e w1 ⟨rfl, rfl⟩
                  go_wp2_with fail
                  go_quiet ((first | (go_at_call 156; exact qadd (M2.out _)) | (go_at_call 156; exact qone (M2.out _))))
                  replace HT := Lib.hid (HT.out.drew nq)
                  go_wp2_with (first
                    | (refine step_build rfl 173 #[] rfl [] rfl _ build_none ?_; simp only [Act.put, List.setIfInBounds_toArray, List.set_cons_zero, List.set_cons_succ])
                    | (refine step_store rfl rfl 173 _ _ rfl _ rfl _ _ rfl _ HT.out.2.1 (size_part _) (by simp only [rowV_size]) (rowV_all _ _) ?_; intro w9 HX HB9))
                  (try simp only [Exit.inBlock, Exit.then, Exit.noGoto_ret])
                  refine bodyPost_ret (results_cell3 rfl _ _ _ _ _ rfl (loaded_part HX.out)) rfl ⟨by rw [HNONE.out]; rfl, HT.out.2.2.1.trans (HB9.out _ (Nat.le_refl _))⟩
                | true =>
                  have M2 := Lib.hid (fun W => member_eq _ _ hme W)
                  by_cases hle : s[k + 2]'hA < s[k]
                  · have HNONE : Hid (class2 true ((L s).drop first) = none) := read_stop s true first k f HR.out hlt h93 (by rw [HST.out, if_pos (.inr hle)])
                    have hq : decide (((s[k + 2]'hA).toNat : Int) < (s[k].toNat : Int)) = true := by rw [UInt8.lt_iff_toNat_lt] at hle; simpa using hle
                    have hqn : (s[k + 2]'hA).toNat < s[k].toNat := by rw [UInt8.lt_iff_toNat_lt] at hle; exact hle
                    clear hme hle
                    go_wp2_with fail
                    refine (M1.out _).mono ?_
                    rintro e w1 ⟨rfl, rfl⟩
                    go_wp2_with fail
                    go_quiet ((first | (go_at_call 156; exact qadd (M2.out _)) | (go_at_call 156; exact qone (M2.out _))))
                    replace HT := Lib.hid (HT.out.drew nq)
                    go_wp2_with (first
                      | (refine step_build rfl 173 #[] rfl [] rfl _ build_none ?_; simp only [Act.put, List.setIfInBounds_toArray, List.set_cons_zero, List.set_cons_succ])
                      | (refine step_store rfl rfl 173 _ _ rfl _ rfl _ _ rfl _ HT.out.2.1 (size_part _) (by simp only [rowV_size]) (rowV_all _ _) ?_; intro w9 HX HB9))
                    (try simp only [Exit.inBlock, Exit.then, Exit.noGoto_ret])
                    refine bodyPost_ret (results_cell3 rfl _ _ _ _ _ rfl (loaded_part HX.out)) rfl ⟨by rw [HNONE.out]; rfl, HT.out.2.2.1.trans (HB9.out _ (Nat.le_refl _))⟩
                  · have HSN := Lib.hid (read_more s true first k (k + 2 + 1) f _ HR.out hlt h93 (by omega) (by rw [HST.out, if_neg (by rw [hme]; simp; exact UInt8.not_lt.1 hle)]))
                    have hq : decide (((s[k + 2]'hA).toNat : Int) < (s[k].toNat : Int)) = false := by rw [UInt8.lt_iff_toNat_lt] at hle; simpa using hle
                    have hlohi : s[k].toNat ≤ (s[k + 2]'hA).toNat := by rw [UInt8.lt_iff_toNat_lt] at hle; omega
                    clear hme hle
                    have hkb := s[k].toNat_lt
                    have HSP := Lib.hid (fun lo hi => span_end f lo hi)
                    have HS0 := Lib.hid (fun lo => span_start f lo)
                    have HS1 := Lib.hid (fun lo j h => span_next f lo j h)
                    go_wp2_with fail
                    refine (M1.out _).mono ?_
                    rintro e w1 ⟨rfl, rfl⟩
                    go_wp2_with fail
                    go_quiet ((first | (go_at_call 156; exact qadd (M2.out _)) | (go_at_call 156; exact qone (M2.out _))))
                    replace HT := Lib.hid (HT.out.drew nq)
                    go_wp2_with fail
                    go_loopw [11] (fun ci wq => ∃ j : Nat, s[k].toNat ≤ j ∧ j ≤ (s[k + 2]'hA).toNat + 1 ∧ ci = .int .i64 j ∧ Hid (Two w ib (spanRow f s[k].toNat j) wq)) (fun ci _ => (s[k + 2]'hA).toNat + 1 - (intOf ci).toNat)
                    case atStart => exact ⟨s[k].toNat, Nat.le_refl _, by omega, by first | rfl | go_num, HT.out.as (HS0.out _)⟩
                    case round =>
                      obtain ⟨j, hj1, hj2, rfl, HJ⟩ := hrel
                      have hb8 := (s[k + 2]'hA).toNat_lt
                      by_cases hjh : j ≤ (s[k + 2]'hA).toNat
                      · have hjq : decide ((j : Int) ≤ ((s[k + 2]'hA).toNat : Int)) = true := by simpa using hjh
                        have hc := cell_row HJ.out.1 j (by omega)
                        have hf := free_row HJ.out.1 j
                        have hi0 : (0 : Int) ≤ (j : Int) := Int.natCast_nonneg _
                        have hi1 : (j : Int) < 256 := by omega
                        have HJN := Lib.hid ((HJ.out.set j true).as (HS1.out _ j hj1))
                        go_wp2_with fail
                        go_roundw
                        case rel => exact ⟨j + 1, by omega, by omega, by go_num, HJN.out⟩
                        case measure => simp [intOf]; omega
                      · have hjq : decide ((j : Int) ≤ ((s[k + 2]'hA).toNat : Int)) = false := by simpa using hjh
                        obtain rfl : j = (s[k + 2]'hA).toNat + 1 := by omega
                        have HJE := Lib.hid (HJ.out.as (HSP.out s[k] (s[k + 2]'hA)))
                        go_wp2_with fail
                        go_roundw
                        case rel => exact ⟨k + 2 + 1, _, by omega, by omega, by go_num, HSN.out, HJE.out⟩
                        case measure => simp [intOf]; omega
            · have hq45 : (((s[k + 1]'(by omega)).toNat : Int) == 45) = false := by rw [beq_byte _ 45 45 rfl]; simpa using h45
              have HST := Lib.hid (place_one s f k hlt h93 hmb (fun _ h => absurd h h45))
              have M2 := M1
              have HSN := Lib.hid (read_more s true first k (k + 1) f _ HR.out hlt h93 (by omega) HST.out)
              have hq : decide (((s[k]).toNat : Int) < (s[k].toNat : Int)) = false := by simp
              have hlohi : s[k].toNat ≤ (s[k]).toNat := Nat.le_refl _
              have hkb := s[k].toNat_lt
              have HSP := Lib.hid (fun lo hi => span_end f lo hi)
              have HS0 := Lib.hid (fun lo => span_start f lo)
              have HS1 := Lib.hid (fun lo j h => span_next f lo j h)
              go_wp2_with fail
              refine (M1.out _).mono ?_
              rintro e w1 ⟨rfl, rfl⟩
              go_wp2_with fail
              go_quiet ((first | (go_at_call 156; exact qadd (M2.out _)) | (go_at_call 156; exact qone (M2.out _))))
              replace HT := Lib.hid (HT.out.drew nq)
              go_wp2_with fail
              go_loopw [11] (fun ci wq => ∃ j : Nat, s[k].toNat ≤ j ∧ j ≤ (s[k]'hlt).toNat + 1 ∧ ci = .int .i64 j ∧ Hid (Two w ib (spanRow f s[k].toNat j) wq)) (fun ci _ => (s[k]'hlt).toNat + 1 - (intOf ci).toNat)
              case atStart => exact ⟨s[k].toNat, Nat.le_refl _, by omega, by first | rfl | go_num, HT.out.as (HS0.out _)⟩
              case round =>
                obtain ⟨j, hj1, hj2, rfl, HJ⟩ := hrel
                have hb8 := (s[k]'hlt).toNat_lt
                by_cases hjh : j ≤ (s[k]'hlt).toNat
                · have hjq : decide ((j : Int) ≤ ((s[k]'hlt).toNat : Int)) = true := by simpa using hjh
                  have hc := cell_row HJ.out.1 j (by omega)
                  have hf := free_row HJ.out.1 j
                  have hi0 : (0 : Int) ≤ (j : Int) := Int.natCast_nonneg _
                  have hi1 : (j : Int) < 256 := by omega
                  have HJN := Lib.hid ((HJ.out.set j true).as (HS1.out _ j hj1))
                  go_wp2_with fail
                  go_roundw
                  case rel => exact ⟨j + 1, by omega, by omega, by go_num, HJN.out⟩
                  case measure => simp [intOf]; omega
                · have hjq : decide ((j : Int) ≤ ((s[k]'hlt).toNat : Int)) = false := by simpa using hjh
                  obtain rfl : j = (s[k]'hlt).toNat + 1 := by omega
                  have HJE := Lib.hid (HJ.out.as (HSP.out s[k] (s[k]'hlt)))
                  go_wp2_with fail
                  go_roundw
                  case rel => exact ⟨k + 1, _, by omega, by omega, by go_num, HSN.out, HJE.out⟩
                  case measure => simp [intOf]; omega
          · have hA1 : decide ((k : Int) + 2 < (s.size : Int)) = false := by simp; omega
            have HST := Lib.hid (place_one s f k hlt h93 hmb (fun h => absurd h hA))
            have M2 := M1
            have HSN := Lib.hid (read_more s true first k (k + 1) f _ HR.out hlt h93 (by omega) HST.out)
            have hq : decide (((s[k]).toNat : Int) < (s[k].toNat : Int)) = false := by simp
            have hlohi : s[k].toNat ≤ (s[k]).toNat := Nat.le_refl _
            have hkb := s[k].toNat_lt
            have HSP := Lib.hid (fun lo hi => span_end f lo hi)
            have HS0 := Lib.hid (fun lo => span_start f lo)
            have HS1 := Lib.hid (fun lo j h => span_next f lo j h)
            go_wp2_with fail
            refine (M1.out _).mono ?_
            rintro e w1 ⟨rfl, rfl⟩
            go_wp2_with fail
            go_quiet ((first | (go_at_call 156; exact qadd (M2.out _)) | (go_at_call 156; exact qone (M2.out _))))
            replace HT := Lib.hid (HT.out.drew nq)
            go_wp2_with fail
            go_loopw [11] (fun ci wq => ∃ j : Nat, s[k].toNat ≤ j ∧ j ≤ (s[k]'hlt).toNat + 1 ∧ ci = .int .i64 j ∧ Hid (Two w ib (spanRow f s[k].toNat j) wq)) (fun ci _ => (s[k]'hlt).toNat + 1 - (intOf ci).toNat)
            case atStart => exact ⟨s[k].toNat, Nat.le_refl _, by omega, by first | rfl | go_num, HT.out.as (HS0.out _)⟩
            case round =>
              obtain ⟨j, hj1, hj2, rfl, HJ⟩ := hrel
              have hb8 := (s[k]'hlt).toNat_lt
              by_cases hjh : j ≤ (s[k]'hlt).toNat
              · have hjq : decide ((j : Int) ≤ ((s[k]'hlt).toNat : Int)) = true := by simpa using hjh
                have hc := cell_row HJ.out.1 j (by omega)
                have hf := free_row HJ.out.1 j
                have hi0 : (0 : Int) ≤ (j : Int) := Int.natCast_nonneg _
                have hi1 : (j : Int) < 256 := by omega
                have HJN := Lib.hid ((HJ.out.set j true).as (HS1.out _ j hj1))
                go_wp2_with fail
                go_roundw
                case rel => exact ⟨j + 1, by omega, by omega, by go_num, HJN.out⟩
                case measure => simp [intOf]; omega
              · have hjq : decide ((j : Int) ≤ ((s[k]'hlt).toNat : Int)) = false := by simpa using hjh
                obtain rfl : j = (s[k]'hlt).toNat + 1 := by omega
                have HJE := Lib.hid (HJ.out.as (HSP.out s[k] (s[k]'hlt)))
                go_wp2_with fail
                go_roundw
                case rel => exact ⟨k + 1, _, by omega, by omega, by go_num, HSN.out, HJE.out⟩
                case measure => simp [intOf]; omega
    | false =>
      have HFI : Hid ((.int .i64 (p : Int) : Value) = .int .i64 (first : Int)) := by show _ = _; rw [← hfirst]; rfl
      have hf1 : first = p := hfirst.symm
      clear hfirst
      subst hf1
      go_enter Try.func143, Try.ntmps143
      go_wp2_with (refine step_new 4 rfl rfl 173 rfl _ _ zero_part ?_; intro w1 HR1 hs1 HB1; simp only [Act.put, List.setIfInBounds_toArray, List.set_cons_zero, List.set_cons_succ])
      go_step3
      go_wp2_with (refine step_new 7 rfl rfl 171 rfl _ _ zero_set ?_; intro w2 HO hs2 HB2; simp only [Act.put, List.setIfInBounds_toArray, List.set_cons_zero, List.set_cons_succ])
      go_step3
      go_wp2_with fail
      have HT := Lib.hid (two_start HR1.out HO.out HB1.out HB2.out hs1)
      generalize w1.heap.size = ib at *
      clear HR1 HO HB1 HB2 hs1 hs2
      go_loopw [1] (fun i wr => ∃ (k : Nat) (f : UInt8 → Bool), first ≤ k ∧ k ≤ s.size ∧ i = .int .i64 k ∧ Hid (ReadTo s false first k f) ∧ Hid (Two w ib (fun i => f i.toUInt8) wr)) (fun i _ => s.size - (intOf i).toNat)
      case atStart => exact ⟨first, noneB, Nat.le_refl _, hfl, by first | rfl | exact HFI.out, .inl ⟨rfl, rfl⟩, HT.out⟩
      case round =>
        obtain ⟨k, f, hfk, hks, rfl, HR, HT⟩ := hrel
        by_cases hlt : k < s.size
        case neg =>
          obtain rfl : k = s.size := by omega
          have HNONE : Hid (class2 false ((L s).drop first) = none) := read_over s false first _ f HR.out (Nat.le_refl _)
          go_wp2_with (first
            | (refine step_build rfl 173 #[] rfl [] rfl _ build_none ?_; simp only [Act.put, List.setIfInBounds_toArray, List.set_cons_zero, List.set_cons_succ])
            | (refine step_store rfl rfl 173 _ _ rfl _ rfl _ _ rfl _ HT.out.2.1 (size_part _) (by simp only [rowV_size]) (rowV_all _ _) ?_; intro w9 HX HB9))
          (try simp only [Exit.inBlock, Exit.then, Exit.noGoto_ret])
          refine bodyPost_ret (results_cell3 rfl _ _ _ _ _ rfl (loaded_part HX.out)) rfl ⟨by rw [HNONE.out]; rfl, HT.out.2.2.1.trans (HB9.out _ (Nat.le_refl _))⟩
        have hi0 : (0 : Int) ≤ (k : Int) := Int.natCast_nonneg _
        have hi1 : (k : Int) < (s.size : Int) := by omega
        have hne : ((k : Int) == (s.size : Int)) = false := by simp; omega
        by_cases h93 : s[k] = 93
        · have hq93 : ((s[k].toNat : Int) == 93) = true := by rw [beq_byte _ 93 93 rfl]; simpa using h93
          by_cases hkf : k = first
          · subst hkf
            have HNONE : Hid (class2 false ((L s).drop k) = none) := read_none s false k hlt h93
            go_wp2_with (first
              | (refine step_build rfl 173 #[] rfl [] rfl _ build_none ?_; simp only [Act.put, List.setIfInBounds_toArray, List.set_cons_zero, List.set_cons_succ])
              | (refine step_store rfl rfl 173 _ _ rfl _ rfl _ _ rfl _ HT.out.2.1 (size_part _) (by simp only [rowV_size]) (rowV_all _ _) ?_; intro w9 HX HB9))
            (try simp only [Exit.inBlock, Exit.then, Exit.noGoto_ret])
            refine bodyPost_ret (results_cell3 rfl _ _ _ _ _ rfl (loaded_part HX.out)) rfl ⟨by rw [HNONE.out]; rfl, HT.out.2.2.1.trans (HB9.out _ (Nat.le_refl _))⟩
          · have HD := Lib.hid (read_done s false first k f HR.out hlt h93 hkf)
            have hkf2 : ((k : Int) == (first : Int)) = false := by simp; omega
            have HFS := Lib.hid (fin_start false f)
            have HFN := Lib.hid (fun j hj => fin_next false f j hj)
            have HFE := Lib.hid (fin_end false f ((L s).drop (k + 1)))
            clear h93 hkf HR
            go_wp2_with fail
            go_loopw [102] (fun ci wq => ∃ j : Nat, j ≤ 256 ∧ ci = .int .i64 j ∧ Hid (Two w ib (finRow false f j) wq)) (fun ci _ => 256 - (intOf ci).toNat)
            case atStart => exact ⟨0, by omega, rfl, HT.out.as HFS.out⟩
            case round =>
              obtain ⟨j, hj, rfl, HJ⟩ := hrel
              by_cases hj256 : j < 256
              · have hc := cell_row HJ.out.1 j hj256
                have hf := free_row HJ.out.1 j
                have hj0 : (0 : Int) ≤ (j : Int) := Int.natCast_nonneg _
                have hj1 : (j : Int) < 256 := by omega
                have hfr : finRow false f j j = f j.toUInt8 := by unfold finRow; rw [if_neg (by omega)]
                rw [hfr] at hc
                have HJN := Lib.hid ((HJ.out.set j ((f j.toUInt8 != false) && (j : Int) != 47)).as (HFN.out j hj256))
                clear hfr HFN HFE HFS
                generalize f j.toUInt8 = a at *
                cases hv : ((j : Int) != 47)
                all_goals cases a
                all_goals
                  go_wp2_with fail
                  go_roundw
                  case rel => exact ⟨j + 1, by omega, by go_num, by have h := HJN.out; rw [hv] at h; exact h⟩
                  case measure => simp [intOf]; omega
              · obtain rfl : j = 256 := by omega
                go_wp2_with (first
                  | (refine step_load 117 rfl rfl 171 _ rfl _ rfl _ _ _ HJ.out.1 _ Try.underlying171 rfl (size_row _) ?_; simp only [Act.put, List.setIfInBounds_toArray, List.set_cons_zero, List.set_cons_succ])
                  | (refine step_build rfl 173 _ rfl [(0, .agg (rowV 256 (finRow false f 256)))] rfl _ (build_row _) ?_; simp only [Act.put, List.setIfInBounds_toArray, List.set_cons_zero, List.set_cons_succ])
                  | (refine step_store rfl rfl 173 _ _ rfl _ rfl _ _ rfl _ HJ.out.2.1 (size_part _) (by simp only [rowV_size]) (rowV_all _ _) ?_; intro w9 HX HB9))
                rw [HFE.out] at HX
                (try simp only [Exit.inBlock, Exit.then, Exit.noGoto_ret])
                refine bodyPost_ret (results_cell3 rfl _ _ _ _ _ rfl (loaded_part HX.out)) rfl ⟨?_, HJ.out.2.2.1.trans (HB9.out _ (Nat.le_refl _))⟩
                rw [HD.out]
                exact ⟨k + 1, by omega, rfl, rfl⟩
        have hq93 : ((s[k].toNat : Int) == 93) = false := by rw [beq_byte _ 93 93 rfl]; simpa using h93
        cases hmb : memberB s[k] with
        | false =>
          have HNONE : Hid (class2 false ((L s).drop first) = none) := read_stop s false first k f HR.out hlt h93 (by rw [drop_cons s k hlt]; exact setF_no f _ _ h93 hmb)
          have M1 := Lib.hid (fun W => member_eq _ _ hmb W)
          clear hmb h93
          go_wp2_with fail
          refine (M1.out _).mono ?_
          rintro e w1 ⟨rfl, rfl⟩
          go_wp2_with (first
            | (refine step_build rfl 173 #[] rfl [] rfl _ build_none ?_; simp only [Act.put, List.setIfInBounds_toArray, List.set_cons_zero, List.set_cons_succ])
            | (refine step_store rfl rfl 173 _ _ rfl _ rfl _ _ rfl _ HT.out.2.1 (size_part _) (by simp only [rowV_size]) (rowV_all _ _) ?_; intro w9 HX HB9))
          (try simp only [Exit.inBlock, Exit.then, Exit.noGoto_ret])
          refine bodyPost_ret (results_cell3 rfl _ _ _ _ _ rfl (loaded_part HX.out)) rfl ⟨by rw [HNONE.out]; rfl, HT.out.2.2.1.trans (HB9.out _ (Nat.le_refl _))⟩
        | true =>
          have M1 := Lib.hid (fun W => member_eq _ _ hmb W)
          by_cases hA : k + 2 < s.size
          · have hA1 : decide ((k : Int) + 2 < (s.size : Int)) = true := by simp; omega
            have hb1 : (k : Int) + 1 < (s.size : Int) := by omega
            have hb2 : (k : Int) + 2 < (s.size : Int) := by omega
            have hb3 : (0 : Int) ≤ (k : Int) + 1 := by omega
            have hb4 : (0 : Int) ≤ (k : Int) + 2 := by omega
            by_cases h45 : s[k + 1]'(by omega) = 45
            · have hq45 : (((s[k + 1]'(by omega)).toNat : Int) == 45) = true := by rw [beq_byte _ 45 45 rfl]; simpa using h45
              by_cases h9 : s[k + 2] = 93
              · have hq9 : ((s[k + 2].toNat : Int) != 93) = false := by rw [bne_byte _ 93 93 rfl]; simpa using h9
                have HST := Lib.hid (place_one s f k hlt h93 hmb (fun _ _ => h9))
                have M2 := M1
                have HSN := Lib.hid (read_more s false first k (k + 1) f _ HR.out hlt h93 (by omega) HST.out)
                have hq : decide (((s[k]).toNat : Int) < (s[k].toNat : Int)) = false := by simp
                have hlohi : s[k].toNat ≤ (s[k]).toNat := Nat.le_refl _
                have hkb := s[k].toNat_lt
                have HSP := Lib.hid (fun lo hi => span_end f lo hi)
                have HS0 := Lib.hid (fun lo => span_start f lo)
                have HS1 := Lib.hid (fun lo j h => span_next f lo j h)
                go_wp2_with fail
                refine (M1.out _).mono ?_
                rintro e w1 ⟨rfl, rfl⟩
                go_wp2_with fail
                go_quiet ((first | (go_at_call 156; exact qadd (M2.out _)) | (go_at_call 156; exact qone (M2.out _))))
                replace HT := Lib.hid (HT.out.drew nq)
                go_wp2_with fail
                go_loopw [11] (fun ci wq => ∃ j : Nat, s[k].toNat ≤ j ∧ j ≤ (s[k]'hlt).toNat + 1 ∧ ci = .int .i64 j ∧ Hid (Two w ib (spanRow f s[k].toNat j) wq)) (fun ci _ => (s[k]'hlt).toNat + 1 - (intOf ci).toNat)
                case atStart => exact ⟨s[k].toNat, Nat.le_refl _, by omega, by first | rfl | go_num, HT.out.as (HS0.out _)⟩
                case round =>
                  obtain ⟨j, hj1, hj2, rfl, HJ⟩ := hrel
                  have hb8 := (s[k]'hlt).toNat_lt
                  by_cases hjh : j ≤ (s[k]'hlt).toNat
                  · have hjq : decide ((j : Int) ≤ ((s[k]'hlt).toNat : Int)) = true := by simpa using hjh
                    have hc := cell_row HJ.out.1 j (by omega)
                    have hf := free_row HJ.out.1 j
                    have hi0 : (0 : Int) ≤ (j : Int) := Int.natCast_nonneg _
                    have hi1 : (j : Int) < 256 := by omega
                    have HJN := Lib.hid ((HJ.out.set j true).as (HS1.out _ j hj1))
                    go_wp2_with fail
                    go_roundw
                    case rel => exact ⟨j + 1, by omega, by omega, by go_num, HJN.out⟩
                    case measure => simp [intOf]; omega
                  · have hjq : decide ((j : Int) ≤ ((s[k]'hlt).toNat : Int)) = false := by simpa using hjh
                    obtain rfl : j = (s[k]'hlt).toNat + 1 := by omega
                    have HJE := Lib.hid (HJ.out.as (HSP.out s[k] (s[k]'hlt)))
                    go_wp2_with fail
                    go_roundw
                    case rel => exact ⟨k + 1, _, by omega, by omega, by go_num, HSN.out, HJE.out⟩
                    case measure => simp [intOf]; omega
              · have hq9 : ((s[k + 2].toNat : Int) != 93) = true := by rw [bne_byte _ 93 93 rfl]; simpa using h9
                have HST := Lib.hid (place_span s f k hA h93 hmb h45 h9)
                cases hme : memberB (s[k + 2]'hA) with
                | false =>
                  have HNONE : Hid (class2 false ((L s).drop first) = none) := read_stop s false first k f HR.out hlt h93 (by rw [HST.out, if_pos (.inl hme)])
                  have M2 := Lib.hid (fun W => member_eq _ _ hme W)
                  clear hme
                  go_wp2_with fail
                  refine (M1.out _).mono ?_
                  rintro e w1 ⟨rfl, rfl⟩
                  go_wp2_with fail
                  go_quiet ((first | (go_at_call 156; exact qadd (M2.out _)) | (go_at_call 156; exact qone (M2.out _))))
                  replace HT := Lib.hid (HT.out.drew nq)
                  go_wp2_with (first
                    | (refine step_build rfl 173 #[] rfl [] rfl _ build_none ?_; simp only [Act.put, List.setIfInBounds_toArray, List.set_cons_zero, List.set_cons_succ])
                    | (refine step_store rfl rfl 173 _ _ rfl _ rfl _ _ rfl _ HT.out.2.1 (size_part _) (by simp only [rowV_size]) (rowV_all _ _) ?_; intro w9 HX HB9))
                  (try simp only [Exit.inBlock, Exit.then, Exit.noGoto_ret])
                  refine bodyPost_ret (results_cell3 rfl _ _ _ _ _ rfl (loaded_part HX.out)) rfl ⟨by rw [HNONE.out]; rfl, HT.out.2.2.1.trans (HB9.out _ (Nat.le_refl _))⟩
                | true =>
                  have M2 := Lib.hid (fun W => member_eq _ _ hme W)
                  by_cases hle : s[k + 2]'hA < s[k]
                  · have HNONE : Hid (class2 false ((L s).drop first) = none) := read_stop s false first k f HR.out hlt h93 (by rw [HST.out, if_pos (.inr hle)])
                    have hq : decide (((s[k + 2]'hA).toNat : Int) < (s[k].toNat : Int)) = true := by rw [UInt8.lt_iff_toNat_lt] at hle; simpa using hle
                    have hqn : (s[k + 2]'hA).toNat < s[k].toNat := by rw [UInt8.lt_iff_toNat_lt] at hle; exact hle
                    clear hme hle
                    go_wp2_with fail
                    refine (M1.out _).mono ?_
                    rintro e w1 ⟨rfl, rfl⟩
                    go_wp2_with fail
                    go_quiet ((first | (go_at_call 156; exact qadd (M2.out _)) | (go_at_call 156; exact qone (M2.out _))))
                    replace HT := Lib.hid (HT.out.drew nq)
                    go_wp2_with (first
                      | (refine step_build rfl 173 #[] rfl [] rfl _ build_none ?_; simp only [Act.put, List.setIfInBounds_toArray, List.set_cons_zero, List.set_cons_succ])
                      | (refine step_store rfl rfl 173 _ _ rfl _ rfl _ _ rfl _ HT.out.2.1 (size_part _) (by simp only [rowV_size]) (rowV_all _ _) ?_; intro w9 HX HB9))
                    (try simp only [Exit.inBlock, Exit.then, Exit.noGoto_ret])
                    refine bodyPost_ret (results_cell3 rfl _ _ _ _ _ rfl (loaded_part HX.out)) rfl ⟨by rw [HNONE.out]; rfl, HT.out.2.2.1.trans (HB9.out _ (Nat.le_refl _))⟩
                  · have HSN := Lib.hid (read_more s false first k (k + 2 + 1) f _ HR.out hlt h93 (by omega) (by rw [HST.out, if_neg (by rw [hme]; simp; exact UInt8.not_lt.1 hle)]))
                    have hq : decide (((s[k + 2]'hA).toNat : Int) < (s[k].toNat : Int)) = false := by rw [UInt8.lt_iff_toNat_lt] at hle; simpa using hle
                    have hlohi : s[k].toNat ≤ (s[k + 2]'hA).toNat := by rw [UInt8.lt_iff_toNat_lt] at hle; omega
                    clear hme hle
                    have hkb := s[k].toNat_lt
                    have HSP := Lib.hid (fun lo hi => span_end f lo hi)
                    have HS0 := Lib.hid (fun lo => span_start f lo)
                    have HS1 := Lib.hid (fun lo j h => span_next f lo j h)
                    go_wp2_with fail
                    refine (M1.out _).mono ?_
                    rintro e w1 ⟨rfl, rfl⟩
                    go_wp2_with fail
                    go_quiet ((first | (go_at_call 156; exact qadd (M2.out _)) | (go_at_call 156; exact qone (M2.out _))))
                    replace HT := Lib.hid (HT.out.drew nq)
                    go_wp2_with fail
                    go_loopw [11] (fun ci wq => ∃ j : Nat, s[k].toNat ≤ j ∧ j ≤ (s[k + 2]'hA).toNat + 1 ∧ ci = .int .i64 j ∧ Hid (Two w ib (spanRow f s[k].toNat j) wq)) (fun ci _ => (s[k + 2]'hA).toNat + 1 - (intOf ci).toNat)
                    case atStart => exact ⟨s[k].toNat, Nat.le_refl _, by omega, by first | rfl | go_num, HT.out.as (HS0.out _)⟩
                    case round =>
                      obtain ⟨j, hj1, hj2, rfl, HJ⟩ := hrel
                      have hb8 := (s[k + 2]'hA).toNat_lt
                      by_cases hjh : j ≤ (s[k + 2]'hA).toNat
                      · have hjq : decide ((j : Int) ≤ ((s[k + 2]'hA).toNat : Int)) = true := by simpa using hjh
                        have hc := cell_row HJ.out.1 j (by omega)
                        have hf := free_row HJ.out.1 j
                        have hi0 : (0 : Int) ≤ (j : Int) := Int.natCast_nonneg _
                        have hi1 : (j : Int) < 256 := by omega
                        have HJN := Lib.hid ((HJ.out.set j true).as (HS1.out _ j hj1))
                        go_wp2_with fail
                        go_roundw
                        case rel => exact ⟨j + 1, by omega, by omega, by go_num, HJN.out⟩
                        case measure => simp [intOf]; omega
                      · have hjq : decide ((j : Int) ≤ ((s[k + 2]'hA).toNat : Int)) = false := by simpa using hjh
                        obtain rfl : j = (s[k + 2]'hA).toNat + 1 := by omega
                        have HJE := Lib.hid (HJ.out.as (HSP.out s[k] (s[k + 2]'hA)))
                        go_wp2_with fail
                        go_roundw
                        case rel => exact ⟨k + 2 + 1, _, by omega, by omega, by go_num, HSN.out, HJE.out⟩
                        case measure => simp [intOf]; omega
            · have hq45 : (((s[k + 1]'(by omega)).toNat : Int) == 45) = false := by rw [beq_byte _ 45 45 rfl]; simpa using h45
              have HST := Lib.hid (place_one s f k hlt h93 hmb (fun _ h => absurd h h45))
              have M2 := M1
              have HSN := Lib.hid (read_more s false first k (k + 1) f _ HR.out hlt h93 (by omega) HST.out)
              have hq : decide (((s[k]).toNat : Int) < (s[k].toNat : Int)) = false := by simp
              have hlohi : s[k].toNat ≤ (s[k]).toNat := Nat.le_refl _
              have hkb := s[k].toNat_lt
              have HSP := Lib.hid (fun lo hi => span_end f lo hi)
              have HS0 := Lib.hid (fun lo => span_start f lo)
              have HS1 := Lib.hid (fun lo j h => span_next f lo j h)
              go_wp2_with fail
              refine (M1.out _).mono ?_
              rintro e w1 ⟨rfl, rfl⟩
              go_wp2_with fail
              go_quiet ((first | (go_at_call 156; exact qadd (M2.out _)) | (go_at_call 156; exact qone (M2.out _))))
              replace HT := Lib.hid (HT.out.drew nq)
              go_wp2_with fail
              go_loopw [11] (fun ci wq => ∃ j : Nat, s[k].toNat ≤ j ∧ j ≤ (s[k]'hlt).toNat + 1 ∧ ci = .int .i64 j ∧ Hid (Two w ib (spanRow f s[k].toNat j) wq)) (fun ci _ => (s[k]'hlt).toNat + 1 - (intOf ci).toNat)
              case atStart => exact ⟨s[k].toNat, Nat.le_refl _, by omega, by first | rfl | go_num, HT.out.as (HS0.out _)⟩
              case round =>
                obtain ⟨j, hj1, hj2, rfl, HJ⟩ := hrel
                have hb8 := (s[k]'hlt).toNat_lt
                by_cases hjh : j ≤ (s[k]'hlt).toNat
                · have hjq : decide ((j : Int) ≤ ((s[k]'hlt).toNat : Int)) = true := by simpa using hjh
                  have hc := cell_row HJ.out.1 j (by omega)
                  have hf := free_row HJ.out.1 j
                  have hi0 : (0 : Int) ≤ (j : Int) := Int.natCast_nonneg _
                  have hi1 : (j : Int) < 256 := by omega
                  have HJN := Lib.hid ((HJ.out.set j true).as (HS1.out _ j hj1))
                  go_wp2_with fail
                  go_roundw
                  case rel => exact ⟨j + 1, by omega, by omega, by go_num, HJN.out⟩
                  case measure => simp [intOf]; omega
                · have hjq : decide ((j : Int) ≤ ((s[k]'hlt).toNat : Int)) = false := by simpa using hjh
                  obtain rfl : j = (s[k]'hlt).toNat + 1 := by omega
                  have HJE := Lib.hid (HJ.out.as (HSP.out s[k] (s[k]'hlt)))
                  go_wp2_with fail
                  go_roundw
                  case rel => exact ⟨k + 1, _, by omega, by omega, by go_num, HSN.out, HJE.out⟩
                  case measure => simp [intOf]; omega
          · have hA1 : decide ((k : Int) + 2 < (s.size : Int)) = false := by simp; omega
            have HST := Lib.hid (place_one s f k hlt h93 hmb (fun h => absurd h hA))
            have M2 := M1
            have HSN := Lib.hid (read_more s false first k (k + 1) f _ HR.out hlt h93 (by omega) HST.out)
            have hq : decide (((s[k]).toNat : Int) < (s[k].toNat : Int)) = false := by simp
            have hlohi : s[k].toNat ≤ (s[k]).toNat := Nat.le_refl _
            have hkb := s[k].toNat_lt
            have HSP := Lib.hid (fun lo hi => span_end f lo hi)
            have HS0 := Lib.hid (fun lo => span_start f lo)
            have HS1 := Lib.hid (fun lo j h => span_next f lo j h)
            go_wp2_with fail
            refine (M1.out _).mono ?_
            rintro e w1 ⟨rfl, rfl⟩
            go_wp2_with fail
            go_quiet ((first | (go_at_call 156; exact qadd (M2.out _)) | (go_at_call 156; exact qone (M2.out _))))
            replace HT := Lib.hid (HT.out.drew nq)
            go_wp2_with fail
            go_loopw [11] (fun ci wq => ∃ j : Nat, s[k].toNat ≤ j ∧ j ≤ (s[k]'hlt).toNat + 1 ∧ ci = .int .i64 j ∧ Hid (Two w ib (spanRow f s[k].toNat j) wq)) (fun ci _ => (s[k]'hlt).toNat + 1 - (intOf ci).toNat)
            case atStart => exact ⟨s[k].toNat, Nat.le_refl _, by omega, by first | rfl | go_num, HT.out.as (HS0.out _)⟩
            case round =>
              obtain ⟨j, hj1, hj2, rfl, HJ⟩ := hrel
              have hb8 := (s[k]'hlt).toNat_lt
              by_cases hjh : j ≤ (s[k]'hlt).toNat
              · have hjq : decide ((j : Int) ≤ ((s[k]'hlt).toNat : Int)) = true := by simpa using hjh
                have hc := cell_row HJ.out.1 j (by omega)
                have hf := free_row HJ.out.1 j
                have hi0 : (0 : Int) ≤ (j : Int) := Int.natCast_nonneg _
                have hi1 : (j : Int) < 256 := by omega
                have HJN := Lib.hid ((HJ.out.set j true).as (HS1.out _ j hj1))
                go_wp2_with fail
                go_roundw
                case rel => exact ⟨j + 1, by omega, by omega, by go_num, HJN.out⟩
                case measure => simp [intOf]; omega
              · have hjq : decide ((j : Int) ≤ ((s[k]'hlt).toNat : Int)) = false := by simpa using hjh
                obtain rfl : j = (s[k]'hlt).toNat + 1 := by omega
                have HJE := Lib.hid (HJ.out.as (HSP.out s[k] (s[k]'hlt)))
                go_wp2_with fail
                go_roundw
                case rel => exact ⟨k + 1, _, by omega, by omega, by go_num, HSN.out, HJE.out⟩
                case measure => simp [intOf]; omega
end Go.Proofs.Ytcapaiiegfedmaa
namespace Go.Proofs.Ytcapaiiegfedmaa
open Go.RowKit Go.Shelf
theorem build_part (f : UInt8 → Bool) (m : Bool) : Try.prog.built 173 [(0, .agg (setV f)), (1, .bool m)] = some (partV (f, m)) := build_with _ _
theorem build_just (f : UInt8 → Bool) : Try.prog.built 173 [(0, .agg (setV f))] = some (partV (f, false)) := build_row _
theorem size_partV (p : Part) : (Try.prog.info? 173).map (·.size) = some (partV p).size := size_part _
theorem all_partV (p : Part) : (partV p).all (·.oneCell') = true := rowV_all _ _
theorem rows_same (p : Part) : (rowV 257 (fun _ => false)).size = (partV p).size := by rw [rowV_size, partV_size]
theorem loaded_partV {w : World} {b : Nat} {p : Part} {e : TypeId} {z : Nat × Nat} (hb : w.heap[b]? = some (.cells (partV p) e z)) : (loadVar 173 ⟨b, 0, none⟩).run Try.prog w = .ok (.agg (partV p)) w := loaded_part hb
theorem one_star2 (s : ByteArray) (p : Nat) (h : p + 1 < s.size) (h1 : s[p] = 42) (h2 : s[p + 1] = 42) : oneP ((L s).drop p) = some ((anyB true, true), (L s).drop (p + 2)) := by
  rw [drop_cons s p (by omega), drop_cons s (p + 1) h, h1, h2]; rfl
theorem one_star1 (s : ByteArray) (p : Nat) (h : p < s.size) (h1 : s[p] = 42) (h2 : ∀ hk : p + 1 < s.size, s[p + 1] ≠ 42) : oneP ((L s).drop p) = some ((anyB false, true), (L s).drop (p + 1)) := by
  rw [drop_cons s p h, h1]
  by_cases hk : p + 1 < s.size
  · rw [drop_cons s (p + 1) hk]
    unfold oneP
    simp only
    rw [if_pos trivial, if_neg (h2 hk)]
  · rw [drop_none s (p + 1) (by omega)]; rfl
theorem one_any (s : ByteArray) (p : Nat) (h : p < s.size) (h1 : s[p] = 63) : oneP ((L s).drop p) = some ((anyB false, false), (L s).drop (p + 1)) := by
  rw [drop_cons s p h, h1]; rfl
theorem one_class (s : ByteArray) (p : Nat) (h : p < s.size) (h1 : s[p] = 91) : oneP ((L s).drop p) = classB ((L s).drop (p + 1)) := by
  rw [drop_cons s p h, h1]; rfl
theorem one_last (s : ByteArray) (p : Nat) (h : p < s.size) (h1 : s[p] = 92) (h2 : p + 1 = s.size) : oneP ((L s).drop p) = none := by
  rw [drop_cons s p h, h1, drop_none s (p + 1) (by omega)]; rfl
theorem one_esc (s : ByteArray) (p : Nat) (h : p + 1 < s.size) (h1 : s[p] = 92) : oneP ((L s).drop p) = some ((justB s[p + 1], false), (L s).drop (p + 2)) := by
  rw [drop_cons s p (by omega), drop_cons s (p + 1) h, h1]; rfl
theorem one_else (s : ByteArray) (p : Nat) (h : p < s.size) (h1 : s[p] ≠ 42) (h2 : s[p] ≠ 63) (h3 : s[p] ≠ 91) (h4 : s[p] ≠ 92) : oneP ((L s).drop p) = some ((justB s[p], false), (L s).drop (p + 1)) := by
  rw [drop_cons s p h]
  show (if _ = _ then _ else (if _ = _ then _ else (if _ = _ then _ else (if _ = _ then _ else _)))) = _
  rw [if_neg h1, if_neg h2, if_neg h3, if_neg h4]
set_option maxRecDepth 100000 in
set_option maxHeartbeats 4000000 in
theorem one_part_walk (s : ByteArray) (hs : s.size ≤ 100000) (p : Nat) (hp : p < s.size) (w : World) :
    Calls Try.prog 119 #[.string s, .int .i64 p] w fun e w' => PartRes s (oneP ((L s).drop p)) e ∧ Below w.heap.size w w' := by
  have hp0 : (0 : Int) ≤ (p : Int) := Int.natCast_nonneg _
  have hp1 : (p : Int) < (s.size : Int) := by omega
  have hz173 := zero_cells
  have e42 := beq_byte s[p] 42 42 rfl
  have e63 := beq_byte s[p] 63 63 rfl
  have e91 := beq_byte s[p] 91 91 rfl
  have e92 := beq_byte s[p] 92 92 rfl
  by_cases h42 : s[p] = 42
  · have q42 : ((s[p].toNat : Int) == 42) = true := by rw [e42]; simpa using h42
    by_cases hk : p + 1 < s.size
    · have hk1 : decide ((p : Int) + 1 < (s.size : Int)) = true := by simp; omega
      have hk2 : (p : Int) + 1 < (s.size : Int) := by omega
      have hk3 : (0 : Int) ≤ (p : Int) + 1 := by omega
      by_cases h2 : s[p + 1] = 42
      · have hq : ((s[p + 1].toNat : Int) == 42) = true := by rw [beq_byte _ 42 42 rfl]; simpa using h2
        clear e42 e63 e91 e92
        have HP := Lib.hid (one_star2 s p hk h42 h2)
        go_enter Try.func119, Try.ntmps119
        go_wp2_with (refine step_new 4 rfl rfl 173 rfl _ _ zero_part ?_; intro w1 HR hs1 HB1; simp only [Act.put, List.setIfInBounds_toArray, List.set_cons_zero, List.set_cons_succ])
        refine (all_walk true _).mono ?_
        rintro e w2 ⟨rfl, hb2⟩
        have HR2 := Lib.hid ((hb2.block _ hs1).trans HR.out)
        have HB2 := Lib.hid (HB1.out.trans (hb2.mono (Nat.le_of_lt hs1)))
        clear hb2
        go_wp2_with (first
          | (refine step_build rfl 173 _ rfl [(0, .agg (setV (anyB true))), (1, .bool true)] rfl _ (build_part _ _) ?_; simp only [Act.put, List.setIfInBounds_toArray, List.set_cons_zero, List.set_cons_succ])
          | (refine step_store rfl rfl 173 _ _ rfl _ rfl _ _ rfl _ HR2.out (size_partV _) (rows_same _) (all_partV _) ?_; intro w9 HX HB9))
        (try simp only [Exit.inBlock, Exit.then, Exit.noGoto_ret])
        refine bodyPost_ret (results_cell3 rfl _ _ _ _ _ rfl (loaded_partV HX.out)) rfl ⟨?_, HB2.out.trans (HB9.out _ (Nat.le_refl _))⟩
        rw [HP.out]
        exact ⟨p + 2, by omega, rfl, rfl⟩
      · have hq : ((s[p + 1].toNat : Int) == 42) = false := by rw [beq_byte _ 42 42 rfl]; simpa using h2
        clear e42 e63 e91 e92
        have HP := Lib.hid (one_star1 s p hp h42 (fun _ => h2))
        go_enter Try.func119, Try.ntmps119
        go_wp2_with (refine step_new 4 rfl rfl 173 rfl _ _ zero_part ?_; intro w1 HR hs1 HB1; simp only [Act.put, List.setIfInBounds_toArray, List.set_cons_zero, List.set_cons_succ])
        refine (all_walk false _).mono ?_
        rintro e w2 ⟨rfl, hb2⟩
        have HR2 := Lib.hid ((hb2.block _ hs1).trans HR.out)
        have HB2 := Lib.hid (HB1.out.trans (hb2.mono (Nat.le_of_lt hs1)))
        clear hb2
        go_wp2_with (first
          | (refine step_build rfl 173 _ rfl [(0, .agg (setV (anyB false))), (1, .bool true)] rfl _ (build_part _ _) ?_; simp only [Act.put, List.setIfInBounds_toArray, List.set_cons_zero, List.set_cons_succ])
          | (refine step_store rfl rfl 173 _ _ rfl _ rfl _ _ rfl _ HR2.out (size_partV _) (rows_same _) (all_partV _) ?_; intro w9 HX HB9))
        (try simp only [Exit.inBlock, Exit.then, Exit.noGoto_ret])
        refine bodyPost_ret (results_cell3 rfl _ _ _ _ _ rfl (loaded_partV HX.out)) rfl ⟨?_, HB2.out.trans (HB9.out _ (Nat.le_refl _))⟩
        rw [HP.out]
        exact ⟨p + 1, by omega, rfl, rfl⟩
    · have hk1 : decide ((p : Int) + 1 < (s.size : Int)) = false := by simp; omega
      clear e42 e63 e91 e92
      have HP := Lib.hid (one_star1 s p hp h42 (fun h => absurd h hk))
      go_enter Try.func119, Try.ntmps119
      go_wp2_with (refine step_new 4 rfl rfl 173 rfl _ _ zero_part ?_; intro w1 HR hs1 HB1; simp only [Act.put, List.setIfInBounds_toArray, List.set_cons_zero, List.set_cons_succ])
      refine (all_walk false _).mono ?_
      rintro e w2 ⟨rfl, hb2⟩
      have HR2 := Lib.hid ((hb2.block _ hs1).trans HR.out)
      have HB2 := Lib.hid (HB1.out.trans (hb2.mono (Nat.le_of_lt hs1)))
      clear hb2
      go_wp2_with (first
        | (refine step_build rfl 173 _ rfl [(0, .agg (setV (anyB false))), (1, .bool true)] rfl _ (build_part _ _) ?_; simp only [Act.put, List.setIfInBounds_toArray, List.set_cons_zero, List.set_cons_succ])
        | (refine step_store rfl rfl 173 _ _ rfl _ rfl _ _ rfl _ HR2.out (size_partV _) (rows_same _) (all_partV _) ?_; intro w9 HX HB9))
      (try simp only [Exit.inBlock, Exit.then, Exit.noGoto_ret])
      refine bodyPost_ret (results_cell3 rfl _ _ _ _ _ rfl (loaded_partV HX.out)) rfl ⟨?_, HB2.out.trans (HB9.out _ (Nat.le_refl _))⟩
      rw [HP.out]
      exact ⟨p + 1, by omega, rfl, rfl⟩
  have q42 : ((s[p].toNat : Int) == 42) = false := by rw [e42]; simpa using h42
  by_cases h63 : s[p] = 63
  · have q63 : ((s[p].toNat : Int) == 63) = true := by rw [e63]; simpa using h63
    clear e42 e63 e91 e92
    have HP := Lib.hid (one_any s p hp h63)
    go_enter Try.func119, Try.ntmps119
    go_wp2_with (refine step_new 4 rfl rfl 173 rfl _ _ zero_part ?_; intro w1 HR hs1 HB1; simp only [Act.put, List.setIfInBounds_toArray, List.set_cons_zero, List.set_cons_succ])
    refine (all_walk false _).mono ?_
    rintro e w2 ⟨rfl, hb2⟩
    have HR2 := Lib.hid ((hb2.block _ hs1).trans HR.out)
    have HB2 := Lib.hid (HB1.out.trans (hb2.mono (Nat.le_of_lt hs1)))
    clear hb2
    go_wp2_with (first
      | (refine step_build rfl 173 _ rfl [(0, .agg (setV (anyB false))), (1, .bool false)] rfl _ (build_part _ _) ?_; simp only [Act.put, List.setIfInBounds_toArray, List.set_cons_zero, List.set_cons_succ])
      | (refine step_store rfl rfl 173 _ _ rfl _ rfl _ _ rfl _ HR2.out (size_partV _) (rows_same _) (all_partV _) ?_; intro w9 HX HB9))
    (try simp only [Exit.inBlock, Exit.then, Exit.noGoto_ret])
    refine bodyPost_ret (results_cell3 rfl _ _ _ _ _ rfl (loaded_partV HX.out)) rfl ⟨?_, HB2.out.trans (HB9.out _ (Nat.le_refl _))⟩
    rw [HP.out]
    exact ⟨p + 1, by omega, rfl, rfl⟩
  have q63 : ((s[p].toNat : Int) == 63) = false := by rw [e63]; simpa using h63
  by_cases h91 : s[p] = 91
  · have q91 : ((s[p].toNat : Int) == 91) = true := by rw [e91]; simpa using h91
    have HP := Lib.hid (one_class s p hp h91)
    clear e42 e63 e91 e92
    have M1 := Lib.hid (fun W => members_walk s hs (p + 1) (by omega) W)
    rw [HP.out]
    clear HP h91
    cases hc : classB ((L s).drop (p + 1)) with
    | none =>
      rw [hc] at M1
      clear hc
      go_enter Try.func119, Try.ntmps119
      go_wp2_with (refine step_new 4 rfl rfl 173 rfl _ _ zero_part ?_; intro w1 HR hs1 HB1; simp only [Act.put, List.setIfInBounds_toArray, List.set_cons_zero, List.set_cons_succ])
      refine (M1.out _).mono ?_
      rintro e w2 ⟨h2, hb2⟩
      subst h2
      have HR2 := Lib.hid ((hb2.block _ hs1).trans HR.out)
      have HB2 := Lib.hid (HB1.out.trans (hb2.mono (Nat.le_of_lt hs1)))
      clear hb2
      go_wp2_with (refine step_store rfl rfl 173 _ _ rfl _ rfl _ _ rfl _ HR2.out (size_part _) (by simp only [rowV_size]) (rowV_all _ _) ?_; intro w9 HX HB9)
      (try simp only [Exit.inBlock, Exit.then, Exit.noGoto_ret])
      refine bodyPost_ret (results_cell3 rfl _ _ _ _ _ rfl (loaded_part HX.out)) rfl ⟨by show _ = _; rfl, HB2.out.trans (HB9.out _ (Nat.le_refl _))⟩
    | some q =>
      obtain ⟨q, r⟩ := q
      rw [hc] at M1
      clear hc
      go_enter Try.func119, Try.ntmps119
      go_wp2_with (refine step_new 4 rfl rfl 173 rfl _ _ zero_part ?_; intro w1 HR hs1 HB1; simp only [Act.put, List.setIfInBounds_toArray, List.set_cons_zero, List.set_cons_succ])
      refine (M1.out _).mono ?_
      rintro e w2 ⟨⟨nx, hnx, hr, h2⟩, hb2⟩
      subst h2
      have HR2 := Lib.hid ((hb2.block _ hs1).trans HR.out)
      have HB2 := Lib.hid (HB1.out.trans (hb2.mono (Nat.le_of_lt hs1)))
      clear hb2
      have HRR := Lib.hid hr
      clear hr
      go_wp2_with (refine step_store rfl rfl 173 _ _ rfl _ rfl _ _ rfl _ HR2.out (size_partV _) (rows_same _) (all_partV _) ?_; intro w9 HX HB9)
      (try simp only [Exit.inBlock, Exit.then, Exit.noGoto_ret])
      refine bodyPost_ret (results_cell3 rfl _ _ _ _ _ rfl (loaded_partV HX.out)) rfl ⟨⟨nx, hnx, HRR.out, rfl⟩, HB2.out.trans (HB9.out _ (Nat.le_refl _))⟩
  have q91 : ((s[p].toNat : Int) == 91) = false := by rw [e91]; simpa using h91
  by_cases h92 : s[p] = 92
  · have q92 : ((s[p].toNat : Int) == 92) = true := by rw [e92]; simpa using h92
    by_cases hk : p + 1 < s.size
    · have hk1 : ((p : Int) + 1 == (s.size : Int)) = false := by simp; omega
      have hk2 : (p : Int) + 1 < (s.size : Int) := by omega
      have hk3 : (0 : Int) ≤ (p : Int) + 1 := by omega
      clear e42 e63 e91 e92
      have HP := Lib.hid (one_esc s p hk h92)
      go_enter Try.func119, Try.ntmps119
      go_wp2_with (refine step_new 4 rfl rfl 173 rfl _ _ zero_part ?_; intro w1 HR hs1 HB1; simp only [Act.put, List.setIfInBounds_toArray, List.set_cons_zero, List.set_cons_succ])
      refine (just_walk s[p + 1] _).mono ?_
      rintro e w2 ⟨rfl, hb2⟩
      have HR2 := Lib.hid ((hb2.block _ hs1).trans HR.out)
      have HB2 := Lib.hid (HB1.out.trans (hb2.mono (Nat.le_of_lt hs1)))
      clear hb2
      go_wp2_with (first
        | (refine step_build rfl 173 _ rfl [(0, .agg (setV (justB s[p + 1])))] rfl _ (build_just _) ?_; simp only [Act.put, List.setIfInBounds_toArray, List.set_cons_zero, List.set_cons_succ])
        | (refine step_store rfl rfl 173 _ _ rfl _ rfl _ _ rfl _ HR2.out (size_partV _) (rows_same _) (all_partV _) ?_; intro w9 HX HB9))
      (try simp only [Exit.inBlock, Exit.then, Exit.noGoto_ret])
      refine bodyPost_ret (results_cell3 rfl _ _ _ _ _ rfl (loaded_partV HX.out)) rfl ⟨?_, HB2.out.trans (HB9.out _ (Nat.le_refl _))⟩
      rw [HP.out]
      exact ⟨p + 2, by omega, rfl, rfl⟩
    · have hk1 : ((p : Int) + 1 == (s.size : Int)) = true := by simp; omega
      clear e42 e63 e91 e92
      have HP := Lib.hid (one_last s p hp h92 (by omega))
      rw [HP.out]
      go_enter Try.func119, Try.ntmps119
      go_wp2_with (first
        | (refine step_new 4 rfl rfl 173 rfl _ _ zero_part ?_; intro w1 HR hs1 HB1; simp only [Act.put, List.setIfInBounds_toArray, List.set_cons_zero, List.set_cons_succ])
        | (refine step_build rfl 173 #[] rfl [] rfl _ build_none ?_; simp only [Act.put, List.setIfInBounds_toArray, List.set_cons_zero, List.set_cons_succ])
        | (refine step_store rfl rfl 173 _ _ rfl _ rfl _ _ rfl _ HR.out (size_part _) (by simp only [rowV_size]) (rowV_all _ _) ?_; intro w9 HX HB9))
      (try simp only [Exit.inBlock, Exit.then, Exit.noGoto_ret])
      refine bodyPost_ret (results_cell3 rfl _ _ _ _ _ rfl (loaded_part HX.out)) rfl ⟨by show _ = _; rfl, HB1.out.trans (HB9.out _ (Nat.le_refl _))⟩
  have q92 : ((s[p].toNat : Int) == 92) = false := by rw [e92]; simpa using h92
  clear e42 e63 e91 e92
  have HP := Lib.hid (one_else s p hp h42 h63 h91 h92)
  go_enter Try.func119, Try.ntmps119
  go_wp2_with (refine step_new 4 rfl rfl 173 rfl _ _ zero_part ?_; intro w1 HR hs1 HB1; simp only [Act.put, List.setIfInBounds_toArray, List.set_cons_zero, List.set_cons_succ])
  refine (just_walk s[p] _).mono ?_
  rintro e w2 ⟨rfl, hb2⟩
  have HR2 := Lib.hid ((hb2.block _ hs1).trans HR.out)
  have HB2 := Lib.hid (HB1.out.trans (hb2.mono (Nat.le_of_lt hs1)))
  clear hb2
  go_wp2_with (first
    | (refine step_build rfl 173 _ rfl [(0, .agg (setV (justB s[p])))] rfl _ (build_just _) ?_; simp only [Act.put, List.setIfInBounds_toArray, List.set_cons_zero, List.set_cons_succ])
    | (refine step_store rfl rfl 173 _ _ rfl _ rfl _ _ rfl _ HR2.out (size_partV _) (rows_same _) (all_partV _) ?_; intro w9 HX HB9))
  (try simp only [Exit.inBlock, Exit.then, Exit.noGoto_ret])
  refine bodyPost_ret (results_cell3 rfl _ _ _ _ _ rfl (loaded_partV HX.out)) rfl ⟨?_, HB2.out.trans (HB9.out _ (Nat.le_refl _))⟩
  rw [HP.out]
  exact ⟨p + 1, by omega, rfl, rfl⟩
end Go.Proofs.Ytcapaiiegfedmaa
