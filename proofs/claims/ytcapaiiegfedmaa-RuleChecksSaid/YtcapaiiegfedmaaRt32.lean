/- flittingref02.members, a set that is none turned. (printed by gen_rmem.py) · flittingref02.members: a set behind its bracket. -/
import Derived.Test.YtcapaiiegfedmaaRt31
namespace Go.Proofs.Ytcapaiiegfedmaa
open Go.RowKit Go.Shelf
set_option maxRecDepth 100000 in
set_option maxHeartbeats 8000000 in
theorem rmem_in (s : ByteArray) (hs : s.size ≤ 64) (p : Nat) (hp : p < s.size) (h33 : s[p] ≠ 33) (w : World) : Calls Try.prog 135 #[.string s, .int .i64 p] w fun e w' => MemRes s (classB ((L s).drop p)) e w' ∧ Below w.heap.size w w' := by
  have hp0 : (0 : Int) ≤ (p : Int) := Int.natCast_nonneg _
  have hp1 : (p : Int) < (s.size : Int) := by omega
  have hq33 : ((s[p].toNat : Int) == 33) = false := by rw [beq_byte _ 33 33 rfl]; simpa using h33
  have HCL : Hid (classB ((L s).drop p) = class2 false ((L s).drop p)) := classB_in s p (fun _ => h33)
  clear h33
  go_enter Try.func135, Try.ntmps135
  go_wp2_with fail
  have HT := Lib.hid (mem_start w false)
  have hfl : p ≤ s.size := by omega
  go_loopg [1, 7] (s.size - p) (fun g i m wr => ∃ (k n : Nat) (f : UInt8 → Bool) (inn : Bs), g = s.size - k ∧ p ≤ k ∧ k ≤ s.size ∧ i = .int .i64 k ∧ m = .int .i64 n ∧ (n = 0 ↔ k = p) ∧ n ≤ k ∧ Hid (ReadTo s false p k f) ∧ Hid (∀ c, hasB inn c = (f c && c != 47)) ∧ inn.length ≤ 256 * k ∧ Hid (MemW w false inn wr))
  case atStart => exact ⟨p, 0, noneB, [], rfl, Nat.le_refl _, hfl, by first | rfl | go_num, rfl, by simp, Nat.zero_le _, .inl ⟨rfl, rfl⟩, fun _ => rfl, Nat.zero_le _, HT.out⟩
  case round =>
    clear HT
    obtain ⟨k, n, f, inn, rfl, hfk, hks, rfl, rfl, hn0, hnk, HR, HF, hil, HT⟩ := hrel
    have HN0 := Lib.hid hn0
    clear hn0
    by_cases hlt : k < s.size
    case neg =>
      obtain rfl : k = s.size := by omega
      have HNONE : Hid (classB ((L s).drop p) = none) := HCL.out.trans (read_over s false p _ f HR.out (Nat.le_refl _))
      obtain ⟨hT4, ⟨A6, c6, hT6, hown⟩, hbw, hsz⟩ := HT.out
      obtain ⟨⟨z0, z1, z2, z3⟩, ⟨g0, g1, g2, g3⟩⟩ := cells4 hT4
      obtain ⟨⟨y0, y1, y2, y3⟩, ⟨x0, x1, x2, x3⟩⟩ := cells4 hT6
      clear hT4 hT6 hown hbw hsz
      go_wp2_with fail
      (try simp only [Exit.inBlock, Exit.then, Exit.noGoto_ret])
      refine mem_end _ rfl rfl (mem_fail HT.out).1 ⟨by rw [HNONE.out]; rfl, (mem_fail HT.out).2⟩
    have hi0 : (0 : Int) ≤ (k : Int) := Int.natCast_nonneg _
    have hi1 : (k : Int) < (s.size : Int) := by omega
    by_cases h93 : s[k] = 93
    · have hq93 : ((s[k].toNat : Int) != 93) = false := by rw [bne_byte _ 93 93 rfl]; simpa using h93
      have hge : decide ((s.size : Int) ≤ (k : Int)) = false := by simp; omega
      by_cases hkf : k = p
      · have hz := HN0.out.2 hkf
        subst hz
        subst hkf
        have HNONE := Lib.hid (HCL.out.trans (read_none s false _ hlt h93))
        clear h93
        obtain ⟨hT4, ⟨A6, c6, hT6, hown⟩, hbw, hsz⟩ := HT.out
        obtain ⟨⟨z0, z1, z2, z3⟩, ⟨g0, g1, g2, g3⟩⟩ := cells4 hT4
        obtain ⟨⟨y0, y1, y2, y3⟩, ⟨x0, x1, x2, x3⟩⟩ := cells4 hT6
        clear hT4 hT6 hown hbw hsz
        go_wp2_with fail
        (try simp only [Exit.inBlock, Exit.then, Exit.noGoto_ret])
        refine mem_end _ rfl rfl (mem_fail HT.out).1 ⟨by rw [HNONE.out]; rfl, (mem_fail HT.out).2⟩
      · have HD := Lib.hid (HCL.out.trans (read_done s false p k f HR.out hlt h93 hkf))
        have hn9 : ((n : Int) == 0) = false := by have := fun h => hkf (HN0.out.1 h); simp; omega
        clear h93 hkf HR
        obtain ⟨hT4, ⟨A6, c6, hT6, hown⟩, hbw, hsz⟩ := HT.out
        have HE := Lib.hid (mem_good (no := false) (f := f) (r := (L s).drop (k + 1)) hT4 hown hbw HF.out)
        obtain ⟨⟨z0, z1, z2, z3⟩, ⟨g0, g1, g2, g3⟩⟩ := cells4 hT4
        obtain ⟨⟨y0, y1, y2, y3⟩, ⟨x0, x1, x2, x3⟩⟩ := cells4 hT6
        clear hT4 hT6 hown hbw hsz
        go_wp2_with fail
        (try simp only [Exit.inBlock, Exit.then, Exit.noGoto_ret])
        refine mem_end _ rfl rfl HE.out.1 ⟨?_, HE.out.2.2.2⟩
        rw [HD.out]
        exact ⟨⟨0, A6, c6, inn, false, false⟩, k + 1, by omega, rfl, rfl, HE.out.2.1, by show inn.length ≤ 100000; omega, HE.out.2.2.1⟩
    have hq93 : ((s[k].toNat : Int) != 93) = true := by rw [bne_byte _ 93 93 rfl]; simpa using h93
    have H93 := Lib.hid h93
    clear h93
    go_wp2_with fail
    go_quiet (fail)
    replace HT := Lib.hid (HT.out.drew nq)
    generalize World.drewN _ nq = wd at *
    go_upto_region 9 with fail
    go_cut [60] (fun b wx => ∃ sp : Bool, b = .bool sp ∧ wx = wd ∧ Hid (SpAt s k sp))
    case first =>
      by_cases hA : k + 2 < s.size
      · have hA1 : decide ((k : Int) + 2 < (s.size : Int)) = true := by simp; omega
        have hb1 : (k : Int) + 1 < (s.size : Int) := by omega
        have hb2 : (k : Int) + 2 < (s.size : Int) := by omega
        have hb3 : (0 : Int) ≤ (k : Int) + 1 := by omega
        have hb4 : (0 : Int) ≤ (k : Int) + 2 := by omega
        by_cases h45 : s[k + 1] = 45
        · have hq45 : ((s[k + 1].toNat : Int) == 45) = true := by rw [beq_byte _ 45 45 rfl]; simpa using h45
          by_cases h9 : s[k + 2] = 93
          · have hq9 : ((s[k + 2].toNat : Int) != 93) = false := by rw [bne_byte _ 93 93 rfl]; simpa using h9
            have HSP := Lib.hid (sp_no s k (fun _ _ => h9))
            clear h45 h9
            go_wp2_with fail
            go_meet
            exact ⟨false, rfl, rfl, HSP⟩
          · have hq9 : ((s[k + 2].toNat : Int) != 93) = true := by rw [bne_byte _ 93 93 rfl]; simpa using h9
            have HSP := Lib.hid (sp_yes s k hA h45 h9)
            clear h45 h9
            go_wp2_with fail
            go_meet
            exact ⟨true, rfl, rfl, HSP⟩
        · have hq45 : ((s[k + 1].toNat : Int) == 45) = false := by rw [beq_byte _ 45 45 rfl]; simpa using h45
          have HSP := Lib.hid (sp_no s k (fun _ h => absurd h h45))
          clear h45
          go_wp2_with fail
          go_meet
          exact ⟨false, rfl, rfl, HSP⟩
      · have hA1 : decide ((k : Int) + 2 < (s.size : Int)) = false := by simp; omega
        have HSP := Lib.hid (sp_no s k (fun h => absurd h hA))
        clear hA
        go_wp2_with fail
        go_meet
        exact ⟨false, rfl, rfl, HSP⟩
    case rest =>
    obtain ⟨sp, rfl, rfl, HSP⟩ := hcut
    go_upto_if 60 with fail
    go_cut [9, 10] (fun t st wx => ∃ (e : UInt8) (d : Nat), t = .int .u8 (e.toNat : Int) ∧ st = .int .i64 (d : Nat) ∧ wx = wc ∧ 1 ≤ d ∧ k + d ≤ s.size ∧ Hid (PlAt s k hlt e d))
    case first =>
      cases sp with
      | true =>
        have hA := sp_room s k HSP.out
        have hb2 : (k : Int) + 2 < (s.size : Int) := by omega
        have hb4 : (0 : Int) ≤ (k : Int) + 2 := by omega
        have HPL := Lib.hid (pl_span s k hlt hA HSP.out)
        go_wp2_with fail
        go_meet
        exact ⟨s[k + 2], 3, rfl, rfl, rfl, by omega, by omega, HPL⟩
      | false =>
        have HPL := Lib.hid (pl_one s k hlt HSP.out)
        go_wp2_with fail
        go_meet
        exact ⟨s[k], 1, rfl, rfl, rfl, by omega, by omega, HPL⟩
    case rest =>
    obtain ⟨e, d, rfl, rfl, rfl, hd1, hd2, HPL⟩ := hcut
    obtain ⟨mb, hmbf⟩ : ∃ mb : UInt8 → Bool, ∀ c, mb c = memberB c := ⟨memberB, fun _ => rfl⟩
    have MB := Lib.hid (fun c W => okay_f mb hmbf c W)
    have HMB := Lib.hid hmbf
    clear hmbf
    obtain ⟨hT4, ⟨A6, c6, hT6, hown⟩, hbw, hsz⟩ := HT.out
    obtain ⟨⟨z0, z1, z2, z3⟩, ⟨g0, g1, g2, g3⟩⟩ := cells4 hT4
    obtain ⟨⟨y0, y1, y2, y3⟩, ⟨x0, x1, x2, x3⟩⟩ := cells4 hT6
    clear hT4 hT6 hown hbw hsz
    cases hmb : memberB s[k] with
    | false =>
      have HNONE : Hid (classB ((L s).drop p) = none) := HCL.out.trans (read_stop s false p k f HR.out hlt H93.out (by rw [drop_cons s k hlt]; exact setF_no f _ _ H93.out hmb))
      have hm1 : mb s[k] = false := (HMB.out _).trans hmb
      clear hmb
      go_wp2_with (go_at_call 150; refine (MB.out _ _).mono ?_; rintro e5 w5 ⟨rfl, rfl⟩)
      (try simp only [Exit.inBlock, Exit.then, Exit.noGoto_ret])
      refine mem_end _ rfl rfl (mem_fail HT.out).1 ⟨by rw [HNONE.out]; rfl, (mem_fail HT.out).2⟩
    | true =>
      have hm1 : mb s[k] = true := (HMB.out _).trans hmb
      have HST := Lib.hid (HPL.out f H93.out hmb)
      clear hmb
      cases hme : memberB e with
      | false =>
        have HNONE : Hid (classB ((L s).drop p) = none) := HCL.out.trans (read_stop s false p k f HR.out hlt H93.out (by rw [HST.out, if_pos (.inl hme)]))
        have hm2 : mb e = false := (HMB.out _).trans hme
        clear hme
        go_wp2_with (go_at_call 150; refine (MB.out _ _).mono ?_; rintro e5 w5 ⟨rfl, rfl⟩)
        (try simp only [Exit.inBlock, Exit.then, Exit.noGoto_ret])
        refine mem_end _ rfl rfl (mem_fail HT.out).1 ⟨by rw [HNONE.out]; rfl, (mem_fail HT.out).2⟩
      | true =>
        have hm2 : mb e = true := (HMB.out _).trans hme
        by_cases hle : e < s[k]
        · have HNONE : Hid (classB ((L s).drop p) = none) := HCL.out.trans (read_stop s false p k f HR.out hlt H93.out (by rw [HST.out, if_pos (.inr hle)]))
          have hqn : e.toNat < s[k].toNat := UInt8.lt_iff_toNat_lt.1 hle
          have hq : decide ((e.toNat : Int) < (s[k].toNat : Int)) = true := by simp; omega
          have hq2 : decide (e.toNat < s[k].toNat) = true := by simp; omega
          clear hme hle
          go_wp2_with (go_at_call 150; refine (MB.out _ _).mono ?_; rintro e5 w5 ⟨rfl, rfl⟩)
          (try simp only [Exit.inBlock, Exit.then, Exit.noGoto_ret])
          refine mem_end _ rfl rfl (mem_fail HT.out).1 ⟨by rw [HNONE.out]; rfl, (mem_fail HT.out).2⟩
        · have HSN := Lib.hid (read_more s false p k (k + d) f _ HR.out hlt H93.out (by omega) (by rw [HST.out, if_neg (by rw [hme]; simp; exact UInt8.not_lt.1 hle)]))
          have hlohi : s[k].toNat ≤ e.toNat := by rw [UInt8.lt_iff_toNat_lt] at hle; omega
          have hq : decide ((e.toNat : Int) < (s[k].toNat : Int)) = false := by simp; omega
          have hq2 : decide (e.toNat < s[k].toNat) = false := by simp; omega
          clear hme hle HST
          have hkb := s[k].toNat_lt
          have hb8 := e.toNat_lt
          have HS0 := Lib.hid (has_start inn f s[k].toNat HF.out)
          have HEE : Hid (∀ l, HasTo l f s[k].toNat (e.toNat + 1) → ∀ c, hasB l c = (withB f s[k] e c && c != 47)) := fun l h9 => has_end l f s[k] e h9
          go_wp2_with (go_at_call 150; refine (MB.out _ _).mono ?_; rintro e5 w5 ⟨rfl, rfl⟩)
          clear z0 z1 z2 z3 g0 g1 g2 g3 y0 y1 y2 y3 x0 x1 x2 x3
          go_loopg [11] (e.toNat + 1 - s[k].toNat) (fun g ci wq => ∃ (j : Nat) (l : Bs), g = e.toNat + 1 - j ∧ s[k].toNat ≤ j ∧ j ≤ e.toNat + 1 ∧ ci = .int .i64 j ∧ l.length + s[k].toNat ≤ inn.length + j ∧ Hid (HasTo l f s[k].toNat j) ∧ Hid (MemW w false l wq))
          case atStart => exact ⟨s[k].toNat, inn, rfl, Nat.le_refl _, by omega, by first | rfl | go_num, Nat.le_refl _, HS0.out, HT.out⟩
          case round =>
            obtain ⟨j, l, rfl, hj1, hj2, rfl, hll, HL, HJ⟩ := hrel
            clear HT HS0
            by_cases hjh : j ≤ e.toNat
            · have hjq : decide ((j : Int) ≤ (e.toNat : Int)) = true := by simp; omega
              have hj0 : (0 : Int) ≤ (j : Int) := Int.natCast_nonneg _
              have hj9 : (j : Int) < 256 := by omega
              by_cases h47 : j = 47
              · have hne : ((j : Int) != 47) = false := by subst h47; rfl
                have HLN := Lib.hid (has_skip l f _ j hj1 h47 HL.out)
                clear h47
                go_wp2_with fail
                go_roundg (e.toNat + 1 - (j + 1))
                case measure => omega
                case rel => exact ⟨j + 1, l, rfl, by omega, by omega, by go_num, by omega, HLN.out, HJ.out⟩
              · have hne : ((j : Int) != 47) = true := by simp; omega
                have HLN := Lib.hid (has_add l f _ j hj1 (by omega) h47 HL.out)
                have hwr : IntKind.u8.wrap (j : Int) = (j : Int) := wrap_byte j (by omega)
                obtain ⟨hT4, ⟨A6, c6, hT6, hown⟩, hbw, hsz⟩ := HJ.out
                obtain ⟨⟨y0, y1, y2, y3⟩, ⟨x0, x1, x2, x3⟩⟩ := cells4 hT6
                have HT4 := Lib.hid hT4
                have HT6 := Lib.hid hT6
                have HBW := Lib.hid hbw
                clear hT4 hT6 h47 hbw
                go_wp2_with (at_builtin; refine wpList_app1 rfl _ _ 160 rfl elem_byte rfl (hown.alloc _) (cs := [.int .u8 (j : Int)]) rfl (heap_alloc_new _ _) rfl (by intro u8 hu8; simp at hu8; subst hu8; rfl) (by omega) (by omega) (by simp only [World.size_alloc]; omega) ?_; intro g9 cap9 w9 hown9 hgr9 hb9; have HT9 := Lib.hid (mem_app (l := l) HT4.out HT6.out HBW.out hsz hown9 hb9 (by omega)); obtain ⟨hd9, hf9, hc9⟩ := HT9.out)
                go_roundg (e.toNat + 1 - (j + 1))
                case measure => omega
                case rel => exact ⟨j + 1, l ++ [j.toUInt8], rfl, by omega, by omega, by go_num, by simp; omega, HLN.out, hc9⟩
            · have hjq : decide ((j : Int) ≤ (e.toNat : Int)) = false := by simp; omega
              obtain rfl : j = e.toNat + 1 := by omega
              have HJE := Lib.hid (HEE.out l HL.out)
              clear HEE HL
              go_wp2_with fail
              go_roundg (s.size - (k + d))
              case measure => omega
              case rel => exact ⟨k + d, n + 1, _, l, rfl, by omega, by omega, by go_num, by go_num, by omega, by omega, HSN.out, HJE.out, by omega, HJ.out⟩
end Go.Proofs.Ytcapaiiegfedmaa
namespace Go.Proofs.Ytcapaiiegfedmaa
open Go.RowKit Go.Shelf
theorem rmem_walk (s : ByteArray) (hs : s.size ≤ 64) (p : Nat) (hp : p ≤ s.size) (w : World) : Calls Try.prog 135 #[.string s, .int .i64 p] w fun e w' => MemRes s (classB ((L s).drop p)) e w' ∧ Below w.heap.size w w' := by
  by_cases hps : p < s.size
  · by_cases h33 : s[p] = 33
    · exact rmem_not s hs p hps h33 w
    · exact rmem_in s hs p hps h33 w
  · obtain rfl : p = s.size := by omega
    exact rmem_out s hs w
end Go.Proofs.Ytcapaiiegfedmaa
