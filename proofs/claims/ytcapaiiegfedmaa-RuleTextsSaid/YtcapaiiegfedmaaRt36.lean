/- The walk of flittinglaw03.RuleTexts. -/
import Derived.Test.YtcapaiiegfedmaaRt35
namespace Go.Proofs.Ytcapaiiegfedmaa
open Go.RowKit Go.Shelf
theorem parseR_len (f n : Nat) (s : Bs) (hn : n ≤ 17) : (parseR f n s).1.length + n ≤ 17 := by
  induction f generalizing n s with
  | zero => show 0 + n ≤ 17; omega
  | succ f ih =>
    rw [parseR_eq]
    by_cases h0 : s = []
    · rw [if_pos h0]; show 0 + n ≤ 17; omega
    · rw [if_neg h0]
      by_cases h1 : 16 < n
      · rw [if_pos h1]; show 0 + n ≤ 17; omega
      · rw [if_neg h1]
        by_cases h2 : 10 ∉ s ∨ okL (before 10 s) = false
        · rw [if_pos h2]; show 0 + n ≤ 17; omega
        · rw [if_neg h2]
          by_cases h3 : ruleC (before 10 s |>.drop 2) ≠ 0
          · rw [if_pos h3]; show 0 + n ≤ 17; omega
          · rw [if_neg h3]
            have h := ih (n + 1) (after 10 s) (by omega)
            unfold preR
            split
            · simp only [List.singleton_append, List.length_cons]; omega
            · show 0 + n ≤ 17; omega
theorem text_mem (l : List RuleD) (r : RuleD) (h : r ∈ l) : r.2.length ≤ (textR l).length := by
  induction l with
  | nil => cases h
  | cons x t ih =>
    rw [text_cons, List.length_append]
    rcases List.mem_cons.1 h with rfl | h
    · unfold lineR; simp; omega
    · have := ih h; omega
/-- what was read of a text: how many, how long -/
theorem read_small (s : Bs) (ra : List RuleD) (rn re : Int) (h : readR 1 s = (ra, rn, re)) : ra.length ≤ 16 ∧ (∀ r ∈ ra, r.2.length ≤ s.length) ∧ (re = 0 → textR ra = s) := by
  have h1 := parseR_len (s.length + 1) 1 s (by omega)
  have h2 := parseR_shape (s.length + 1) 1 s
  change readR 1 s = _ at h
  have h3 : parseR (s.length + 1) 1 s = (ra, rn, re) := h
  rw [h3] at h1 h2
  have h4 : re = 0 → textR ra = s := fun e => by
    have := readR_text s (by rw [h]; exact e)
    rw [h] at this
    exact this
  refine ⟨by simp only at h1; omega, fun r hr => ?_, h4⟩
  rcases h2 with h2 | h2
  · rw [← h4 h2]
    exact text_mem ra r hr
  · simp only at h2
    rw [h2] at hr; cases hr
def tenR (r : RuleD) : Bool := hasB r.2 10
theorem no_ten (rs : List RuleD) (h : rs.any tenR = false) : ∀ r ∈ rs, 10 ∉ r.2 := by
  intro r hr hm
  rw [List.any_eq_false] at h
  refine h r hr ?_
  unfold tenR hasB
  rw [List.contains_iff_mem]
  exact hm
set_option maxRecDepth 100000 in
set_option maxHeartbeats 8000000 in
theorem ruleTexts_walk (A : Option Addr) (c : Nat) (rs : List RuleD) (s : ByteArray) (hbig : rs.length ≤ maxLen) (w : World) (hx : Slc w A (rs.flatMap rV)) :
    Calls Try.prog 18 #[.slice A rs.length c, .string s] w fun e w' => e = .returned (.bool true) ∧ Below w.heap.size w w' := by
  have SM := Lib.hid (smallR_walk A c rs w hx hbig)
  have AW := Lib.hid (fun W => rawake_walk W)
  have HX := Lib.hid hx
  clear hx
  cases hsm : smallR rs with
  | false =>
    rw [hsm] at SM
    clear hsm
    go_enter Try.func18, Try.ntmps18
    go_wp2_with (first | (go_at_call 69; refine SM.out.mono ?_; rintro e w1 ⟨rfl, rfl⟩) | (go_at_call 70; refine (AW.out _).mono ?_; rintro e w2 ⟨rfl, hb⟩))
    go_ret
    exact ⟨rfl, hb⟩
  | true =>
    have hl := small_len hsm
    have HR := Lib.hid (fun r hr => Nat.le_trans (small_all hsm r hr) (show 100 ≤ 100000 by omega))
    have HS := Lib.hid (small_all hsm)
    rw [hsm] at SM
    clear hsm
    by_cases h2000 : s.size ≤ 2000
    case neg =>
      have hq : decide ((2000 : Int) < (s.size : Int)) = true := by simp; omega
      go_enter Try.func18, Try.ntmps18
      go_wp2_with (first | (go_at_call 69; refine SM.out.mono ?_; rintro e w1 ⟨rfl, rfl⟩) | (go_at_call 70; refine (AW.out _).mono ?_; rintro e w2 ⟨rfl, hb⟩))
      go_ret
      exact ⟨rfl, hb⟩
    have hq : decide ((2000 : Int) < (s.size : Int)) = false := by simp; omega
    have T1 := Lib.hid (ruleText_walk A c rs (by omega) HR.out w HX.out)
    have T2 := Lib.hid (fun W h => text3_walk A c rs (by omega) HR.out W h)
    obtain ⟨⟨ra, rn, re⟩, hR⟩ : ∃ R, readR 1 (L s) = R := ⟨_, rfl⟩
    have P1 := Lib.hid (fun W => ruleParse_walk s (by omega) W)
    have P2 := Lib.hid (fun W => rparse3_walk s (by omega) W)
    rw [hR] at P1 P2
    simp only at P1 P2
    obtain ⟨hra, hrl, hrt⟩ := read_small (L s) ra rn re hR
    rw [L_len] at hrl
    have HRL := Lib.hid (fun r hr => Nat.le_trans (hrl r hr) (show s.size ≤ 100000 by omega))
    have HRT := Lib.hid hrt
    have htl : (textR rs).length ≤ 2060 := by
      have : ∀ l : List RuleD, (∀ r ∈ l, r.2.length ≤ 100) → (textR l).length ≤ 103 * l.length := by
        intro l
        induction l with
        | nil => intro _; simp [textR]
        | cons r t ih =>
          intro h
          have h1 := h r (by simp)
          have h2 := ih (fun x hx => h x (by simp [hx]))
          rw [text_cons, List.length_append, List.length_cons]
          have h3 : (lineR r).length = r.2.length + 3 := by unfold lineR; simp
          omega
      have := this rs HS.out
      omega
    clear hR hrl hrt
    obtain ⟨tx, htx⟩ : ∃ tx, textR rs = tx := ⟨_, rfl⟩
    rw [htx] at T1 T2 htl
    have HTX := Lib.hid htx
    clear htx
    go_enter Try.func18, Try.ntmps18
    go_upto_region 6 with (first
      | (go_at_call 69; refine SM.out.mono ?_; rintro e w1 ⟨rfl, rfl⟩)
      | (go_at_call 81; refine T1.out.mono ?_; rintro e w1 ⟨rfl, hb1⟩)
      | (go_at_call 82; refine (P1.out _).mono ?_; rintro e w2 ⟨A2, c2, rfl, hc2, hs2, hb2⟩; have hc := hb1.trans (hb2.mono hb1.size); clear hc2)
      | (go_at_call 83; refine (P2.out _).mono ?_; rintro e w3 ⟨A3, c3, rfl, hc3, hs3, hb3⟩; have hs2 := hs2.keep hb3; have hc := hc.trans (hb3.mono hc.size); clear hc3))
    go_cut [70] (fun b wx => b = .bool false ∧ Hid (Below w.heap.size w wx))
    case first =>
      have HS2 := Lib.hid hs2
      have HS3 := Lib.hid hs3
      have E1 := Lib.hid (same3_walk A2 A3 c2 c3 ra ra w3 hs2 hs3 (by omega) (by omega))
      rw [show eqRu ra ra = true by unfold eqRu; simp] at E1
      have HT3 := Lib.hid (T2.out w3 (HX.out.keep hc))
      have HC := Lib.hid hc
      clear hs2 hs3
      by_cases hre : re = 0
      · subst hre
        have T4 := Lib.hid (fun W h => ruleText_walk A2 c2 ra (by omega) HRL.out W h)
        rw [HRT.out rfl, B_L] at T4
        go_wp2_with (first | (go_at_call 84; refine HT3.out.mono ?_; rintro e w4 ⟨rfl, hw4⟩; subst hw4) | (go_at_call 85; refine E1.out.mono ?_; rintro e w5 ⟨rfl, hb5⟩) | (go_at_call 81; refine (T4.out _ (HS2.out.keep hb5)).mono ?_; rintro e w6 ⟨rfl, hb6⟩))
        go_meet
        exact ⟨rfl, (HC.out.trans (hb5.mono HC.out.size)).trans (hb6.mono (Nat.le_trans HC.out.size hb5.size))⟩
      · have hq9 : (re == 0) = false := by simpa using hre
        clear hre
        go_wp2_with (first | (go_at_call 84; refine HT3.out.mono ?_; rintro e w4 ⟨rfl, hw4⟩; subst hw4) | (go_at_call 85; refine E1.out.mono ?_; rintro e w5 ⟨rfl, hb5⟩))
        go_meet
        exact ⟨rfl, HC.out.trans (hb5.mono HC.out.size)⟩
    case rest =>
      obtain ⟨rfl, HB⟩ := hcut
      clear hb1 hb2 hb3 hc hs2 hs3 SM P1 P2 T1 T2
      have HSL := Lib.hid (HX.out.keep HB.out)
      go_wp2_with fail
      go_loop [12, 13] (fun v i => ∃ (k : Nat) (b : Bool), k ≤ rs.length ∧ i = .int .i64 k ∧ v = .bool b ∧ Hid ((rs.take k).any tenR = b)) (fun _ i => rs.length - (intOf i).toNat)
      case atStart => exact ⟨0, false, Nat.zero_le _, rfl, rfl, (show _ = _ by rw [List.take_zero]; rfl)⟩
      case round =>
        obtain ⟨k, b, hk, rfl, rfl, HBK⟩ := hrel
        by_cases hlt : k < rs.length
        · obtain ⟨r, hrk⟩ : ∃ r, rs[k]? = some r := ⟨_, List.getElem?_eq_getElem hlt⟩
          have hrl := HR.out r (List.mem_of_getElem? hrk)
          obtain ⟨b0, o, rfl, hlb, c0, c1⟩ := two_at rV (fun _ => rfl) HSL.out hrk rfl
          unfold strV at c1
          have hnx := any_next rs tenR k r hrk
          have hi0 : (0 : Int) ≤ (k : Int) := Int.natCast_nonneg _
          have hi1 : (k : Int) < (rs.length : Int) := by omega
          have HN : Hid ((rs.take (k + 1)).any tenR = (b || hasB (L (B r.2)) 10)) := by show _ = _; rw [hnx, HBK.out, L_B]; rfl
          have hsz : (B r.2).size ≤ 100000 := by rw [B_size]; exact hrl
          clear hrk hnx hrl c0 HBK
          generalize B r.2 = pt at *
          go_wp2_with fail
          go_loop [12, 14] (fun v i => ∃ (m : Nat) (b' : Bool), m ≤ pt.size ∧ i = .int .i64 m ∧ v = .bool b' ∧ Hid ((b || hasB ((L pt).take m) 10) = b')) (fun _ i => pt.size - (intOf i).toNat)
          case atStart => exact ⟨0, b, Nat.zero_le _, rfl, rfl, (show _ = _ by rw [List.take_zero]; simp [hasB])⟩
          case round =>
            obtain ⟨m, b', hm, rfl, rfl, HBM⟩ := hrel
            have hm0 : (0 : Int) ≤ (m : Int) := Int.natCast_nonneg _
            by_cases hmt : m < pt.size
            · have hm1 : (m : Int) < (pt.size : Int) := by omega
              have hmore := has_more (L pt) m pt[m] 10 (by rw [getL, List.getElem?_eq_getElem])
              cases b' with
              | true =>
                have HMN : Hid ((b || hasB ((L pt).take (m + 1)) 10) = true) := by show _ = _; rw [hmore, ← Bool.or_assoc, HBM.out]; rfl
                clear hmore
                go_wp2_with fail
                go_round
                case rel => exact ⟨m + 1, true, by omega, by go_num, rfl, HMN⟩
                case measure => simp [intOf]; omega
              | false =>
                have HMN : Hid ((b || hasB ((L pt).take (m + 1)) 10) = ((pt[m].toNat : Int) == 10)) := by show _ = _; rw [hmore, ← Bool.or_assoc, HBM.out, beq_byte _ 10 10 rfl]; rfl
                clear hmore
                go_wp2_with fail
                go_round
                case rel => exact ⟨m + 1, _, by omega, by go_num, rfl, HMN⟩
                case measure => simp [intOf]; omega
            · obtain rfl : m = pt.size := by omega
              have HF : Hid ((rs.take (k + 1)).any tenR = b') := by
                show _ = _
                rw [HN.out, ← HBM.out, List.take_of_length_le (by rw [L_len]; exact Nat.le_refl _)]
              go_wp2_with fail
              go_round
              case rel => exact ⟨k + 1, b', by omega, by go_num, rfl, HF⟩
              case measure => simp [intOf]; omega
        · obtain rfl : k = rs.length := by omega
          rw [List.take_length] at HBK
          have hsz : (B tx).size ≤ 100000 := by rw [B_size]; omega
          have CA := Lib.hid (fun W h => checkAll3_walk rparse_walk A c rs (by omega) HR.out W h)
          cases b with
          | true =>
            obtain ⟨⟨rb, rk, rf⟩, hRB⟩ : ∃ R, readR 1 (L (B tx)) = R := ⟨_, rfl⟩
            have P3 := Lib.hid (fun W => ruleParse_walk (B tx) hsz W)
            rw [hRB] at P3
            simp only at P3
            clear hRB hsz
            go_wp2_with (first | (go_at_call 82; refine (P3.out _).mono ?_; rintro e w7 ⟨A7, c7, rfl, hc7, hs7, hb7⟩; have hc := HB.out.trans (hb7.mono HB.out.size)) | (go_at_call 70; refine (AW.out _).mono ?_; rintro e w8 ⟨rfl, hb8⟩))
            go_ret
            exact ⟨rfl, hc.trans (hb8.mono hc.size)⟩
          | false =>
            by_cases hrc : rulesC rs = 0
            · obtain ⟨h16, hok⟩ := rules_ok rs hrc
              have hRB : readR 1 (L (B tx)) = (rs, 0, 0) := by rw [L_B, ← HTX.out]; exact readR_back rs h16 (no_ten rs HBK.out) hok
              have P3 := Lib.hid (fun W => ruleParse_walk (B tx) hsz W)
              rw [hRB] at P3
              simp only at P3
              rw [hrc] at CA
              have E2 := Lib.hid (fun A7 c7 W h1 h2 => same3_walk A7 A c7 c rs rs W h1 h2 (by omega) (by omega))
              rw [show eqRu rs rs = true by unfold eqRu; simp] at E2
              clear hRB hsz hrc h16 hok
              go_wp2_with (first | (go_at_call 82; refine (P3.out _).mono ?_; rintro e w7 ⟨A7, c7, rfl, hc7, hs7, hb7⟩; have hc := HB.out.trans (hb7.mono HB.out.size)) | (go_at_call 70; refine (AW.out _).mono ?_; rintro e w8 ⟨rfl, hb8⟩; have hs7 := hs7.keep hb8; have hc := hc.trans (hb8.mono hc.size)) | (go_at_call 80; refine (CA.out _ (HX.out.keep hc)).mono ?_; rintro e w9 ⟨rfl, hb9⟩; have hs7 := hs7.keep hb9; have hc := hc.trans (hb9.mono hc.size)) | (go_at_call 85; refine (E2.out _ _ _ hs7 (HX.out.keep hc)).mono ?_; rintro e w10 ⟨rfl, hb10⟩))
              go_ret
              exact ⟨rfl, hc.trans (hb10.mono hc.size)⟩
            · obtain ⟨⟨rb, rk, rf⟩, hRB⟩ : ∃ R, readR 1 (L (B tx)) = R := ⟨_, rfl⟩
              have P3 := Lib.hid (fun W => ruleParse_walk (B tx) hsz W)
              rw [hRB] at P3
              simp only at P3
              have hqc : (rulesC rs != 0) = true := by simpa using hrc
              clear hRB hsz hrc
              generalize rulesC rs = rc at *
              go_wp2_with (first | (go_at_call 82; refine (P3.out _).mono ?_; rintro e w7 ⟨A7, c7, rfl, hc7, hs7, hb7⟩; have hc := HB.out.trans (hb7.mono HB.out.size)) | (go_at_call 70; refine (AW.out _).mono ?_; rintro e w8 ⟨rfl, hb8⟩; have hc := hc.trans (hb8.mono hc.size)) | (go_at_call 80; refine (CA.out _ (HX.out.keep hc)).mono ?_; rintro e w9 ⟨rfl, hb9⟩))
              go_ret
              exact ⟨rfl, hc.trans (hb9.mono hc.size)⟩
end Go.Proofs.Ytcapaiiegfedmaa
