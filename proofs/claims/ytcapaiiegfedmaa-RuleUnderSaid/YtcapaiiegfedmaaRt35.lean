/- The walk of flittinglaw03.RuleUnder. · flittingref03.Parse, by the contract of flittingref02.Parse. (printed by gen_r3parse.py) -/
import Derived.Deep.DeepCutAuto
import Derived.Test.YtcapaiiegfedmaaRt34
namespace Go.Proofs.Ytcapaiiegfedmaa
open Go.RowKit Go.Shelf Go.WideShapes Go.ChangeShapes
theorem slice_cap0 {H : Type} {enc : TypeId × Value → H} {P : Program} {W : World} {t e : TypeId} {A : Option Addr} {l c : Nat} {d : DataW H} {p : List MemPlace} (ht : P.underlying t = some (.slice e)) (h : DataW.Trod enc P W 0 (fun _ => true) true t (.slice A l c) d p) : A = none → c = 0 := by
  obtain ⟨fuel, hfu⟩ := h
  rcases Deep.open_slice ht hfu with ⟨hcs, _⟩ | ⟨a, l', c', m, k, D, Pl, hcs, _⟩
  · simp only [Value.cells, List.cons.injEq, Value.slice.injEq, and_true] at hcs
    exact fun _ => hcs.2.2
  · simp only [Value.cells, List.cons.injEq, Value.slice.injEq, and_true] at hcs
    intro h
    rw [hcs.1] at h
    cases h
theorem L_path (p q : ByteArray) : L (p ++ ({ data := #[47] } : ByteArray) ++ q) = L p ++ 47 :: L q := by
  rw [L_app, L_app, show L ({ data := #[47] } : ByteArray) = [47] from rfl]
  simp
theorem size_path (p q : ByteArray) : (p ++ ({ data := #[47] } : ByteArray) ++ q).size = p.size + 1 + q.size := by
  rw [← L_len, L_path]
  simp [L_len]; omega
theorem any_next (rs : List RuleD) (f : RuleD → Bool) (k : Nat) (r : RuleD) (h : rs[k]? = some r) : (rs.take (k + 1)).any f = ((rs.take k).any f || f r) := by
  rw [take_one_more rs k r h, List.any_append]
  simp
theorem rule_one (rs : List RuleD) : ∀ u ∈ rs.flatMap rV, u.oneCell' = true := by
  intro u hu
  rw [List.mem_flatMap] at hu
  obtain ⟨r, _, hr⟩ := hu
  simp [rV, strV] at hr
  rcases hr with rfl | rfl <;> rfl
theorem rules_len (rs : List RuleD) : (rs.flatMap rV).length = rs.length * 2 := by
  induction rs with
  | nil => rfl
  | cons r t ih => rw [List.flatMap_cons, List.length_append, ih, List.length_cons]; simp [rV]; omega
set_option maxRecDepth 100000 in
set_option maxHeartbeats 8000000 in
theorem ruleUnder_walk (A : Option Addr) (c : Nat) (rs : List RuleD) (p q : ByteArray) (hbig : rs.length ≤ maxLen) (hnil : A = none → c = 0) (w : World) (hx : Slc w A (rs.flatMap rV)) :
    Calls Try.prog 16 #[.slice A rs.length c, .string p, .string q] w fun e w' => e = .returned (.bool true) ∧ Below w.heap.size w w' := by
  have SM := Lib.hid (smallR_walk A c rs w hx hbig)
  have AW := Lib.hid (fun W => rawake_walk W)
  have HX := Lib.hid hx
  clear hx
  cases hsm : smallR rs with
  | false =>
    rw [hsm] at SM
    clear hsm
    go_enter Try.func16, Try.ntmps16
    go_wp2_with (first | (go_at_call 69; refine SM.out.mono ?_; rintro e w1 ⟨rfl, rfl⟩) | (go_at_call 70; refine (AW.out _).mono ?_; rintro e w2 ⟨rfl, hb⟩))
    go_ret
    exact ⟨rfl, hb⟩
  | true =>
    have hl := small_len hsm
    have HR := Lib.hid (fun r hr => Nat.le_trans (small_all hsm r hr) (show 100 ≤ 100000 by omega))
    rw [hsm] at SM
    clear hsm
    by_cases h100 : p.size ≤ 100
    case neg =>
      have hq : decide ((100 : Int) < (p.size : Int)) = true := by simp; omega
      go_enter Try.func16, Try.ntmps16
      go_wp2_with (first | (go_at_call 69; refine SM.out.mono ?_; rintro e w1 ⟨rfl, rfl⟩) | (go_at_call 70; refine (AW.out _).mono ?_; rintro e w2 ⟨rfl, hb⟩))
      go_ret
      exact ⟨rfl, hb⟩
    have hq1 : decide ((100 : Int) < (p.size : Int)) = false := by simp; omega
    by_cases h101 : q.size ≤ 100
    case neg =>
      have hq : decide ((100 : Int) < (q.size : Int)) = true := by simp; omega
      go_enter Try.func16, Try.ntmps16
      go_wp2_with (first | (go_at_call 69; refine SM.out.mono ?_; rintro e w1 ⟨rfl, rfl⟩) | (go_at_call 70; refine (AW.out _).mono ?_; rintro e w2 ⟨rfl, hb⟩))
      go_ret
      exact ⟨rfl, hb⟩
    have hq2 : decide ((100 : Int) < (q.size : Int)) = false := by simp; omega
    obtain ⟨rr, hrr⟩ : ∃ rr : ByteArray → Bool, ∀ x, rr x = rightB (L x) := ⟨fun x => rightB (L x), fun _ => rfl⟩
    have R1 : Hid (∀ (x : ByteArray) (h : x.size ≤ 100000) W, Calls Try.prog 25 #[.string x] W fun e w' => e = .returned (.bool (rr x)) ∧ Below W.heap.size W w') := fun x h W => by rw [hrr]; exact rright_walk x h W
    have HRR := Lib.hid hrr
    clear hrr
    cases hrp : rightB (L p) with
    | false =>
      have hrq : rr p = false := (HRR.out _).trans hrp
      clear hrp
      go_enter Try.func16, Try.ntmps16
      go_wp2_with (first | (go_at_call 69; refine SM.out.mono ?_; rintro e w1 ⟨rfl, rfl⟩) | (go_at_call 25; refine (R1.out _ (by omega) _).mono ?_; rintro e w3 ⟨rfl, hb3⟩) | (go_at_call 70; refine (AW.out _).mono ?_; rintro e w2 ⟨rfl, hb⟩))
      go_ret
      exact ⟨rfl, hb3.trans (hb.mono hb3.size)⟩
    | true =>
    have hrq : rr p = true := (HRR.out _).trans hrp
    have HRP := Lib.hid hrp
    clear hrp
    by_cases he : L p = []
    · have hE1 : p.toList.isEmpty = true := by rw [L_toList, he]; rfl
      have hE2 : (p.toList == []) = true := by rw [L_toList, he]; rfl
      clear he
      go_enter Try.func16, Try.ntmps16
      go_wp2_with (first | (go_at_call 69; refine SM.out.mono ?_; rintro e w1 ⟨rfl, rfl⟩) | (go_at_call 25; refine (R1.out _ (by omega) _).mono ?_; rintro e w3 ⟨rfl, hb3⟩) | (go_at_call 70; refine (AW.out _).mono ?_; rintro e w2 ⟨rfl, hb⟩))
      go_ret
      exact ⟨rfl, hb3.trans (hb.mono hb3.size)⟩
    have hE1 : p.toList.isEmpty = false := by rw [L_toList]; simpa using he
    have hE2 : (p.toList == []) = false := by rw [L_toList]; simpa using he
    have HE := Lib.hid he
    clear he
    obtain ⟨sh, hsh⟩ : ∃ sh : ByteArray → Bool → Bool, ∀ x d, sh x d = shutB rs (L x) d := ⟨fun x d => shutB rs (L x) d, fun _ _ => rfl⟩
    have S1 : Hid (∀ (x : ByteArray) (h : x.size ≤ 100000) d W (h : Slc W A (rs.flatMap rV)), Calls Try.prog 73 #[.slice A rs.length c, .string x, .bool d] W fun e w' => e = .returned (.bool (sh x d)) ∧ Below W.heap.size W w') := fun x h d W h2 => by rw [hsh]; exact shut_walk A c rs x d h (by omega) HR.out W h2
    have HSH := Lib.hid hsh
    clear hsh
    have HXP := Lib.hid (L_path p q)
    have hxs := size_path p q
    go_enter Try.func16, Try.ntmps16
    go_upto_region 4 with (first | (go_at_call 69; refine SM.out.mono ?_; rintro e w1 ⟨rfl, rfl⟩) | (go_at_call 25; refine (R1.out _ (by omega) _).mono ?_; rintro e w3 ⟨rfl, hb3⟩))
    obtain ⟨x, hx⟩ : ∃ x, x = p ++ ({ data := #[47] } : ByteArray) ++ q := ⟨_, rfl⟩
    rw [← hx] at HXP hxs ⊢
    clear hx
    have hxl : x.size ≤ 100000 := by omega
    have HXS := Lib.hid hxs
    clear hxs
    go_cut [56] (fun b wx => b = .bool false ∧ Hid (Below w.heap.size w wx))
    case first =>
      cases hrx : rightB (L x) with
      | false =>
        have hf1 : rr x = false := (HRR.out _).trans hrx
        clear hrx
        go_wp2_with (go_at_call 25; refine (R1.out _ (by omega) _).mono ?_; rintro e w4 ⟨rfl, hb4⟩)
        go_meet
        exact ⟨rfl, hb3.trans (hb4.mono hb3.size)⟩
      | true =>
        have hf1 : rr x = true := (HRR.out _).trans hrx
        cases hs1 : shutB rs (L p) true with
        | false =>
          have hf2 : sh p true = false := (HSH.out _ _).trans hs1
          clear hrx hs1
          have HX3 := Lib.hid (HX.out.keep hb3)
          go_wp2_with (first | (go_at_call 25; refine (R1.out _ (by omega) _).mono ?_; rintro e w4 ⟨rfl, hb4⟩) | (go_at_call 73; refine (S1.out _ (by omega) _ _ (HX3.out.keep hb4)).mono ?_; rintro e w5 ⟨rfl, hb5⟩))
          go_meet
          exact ⟨rfl, (hb3.trans (hb4.mono hb3.size)).trans (hb5.mono (Nat.le_trans hb3.size hb4.size))⟩
        | true =>
          have hf2 : sh p true = true := (HSH.out _ _).trans hs1
          have hu := fun d => shut_under rs (L p) (L q) d HRP.out HE.out (by rw [← HXP.out]; exact hrx) hs1
          have hf3 : sh x true = true := (HSH.out _ _).trans (by rw [HXP.out]; exact hu true)
          have hf4 : sh x false = true := (HSH.out _ _).trans (by rw [HXP.out]; exact hu false)
          clear hrx hs1 hu
          have HX3 := Lib.hid (HX.out.keep hb3)
          go_wp2_with (first | (go_at_call 25; refine (R1.out _ (by omega) _).mono ?_; rintro e w4 ⟨rfl, hb4⟩; have hsl := HX3.out.keep hb4; have hc := hb3.trans (hb4.mono hb3.size)) | (go_at_call 73; refine (S1.out _ (by omega) _ _ hsl).mono ?_; rintro e w5 ⟨rfl, hb5⟩; have hsl := hsl.keep hb5; have hc := hc.trans (hb5.mono hc.size)))
          go_meet
          exact ⟨rfl, hc⟩
    case rest =>
      obtain ⟨rfl, HB⟩ := hcut
      clear hb3 hxl HXS HXP
      have hbs := HB.out.size
      have hsl := HX.out.keep HB.out
      have hown := World.ownsRow_made (base := w.heap.size) (e := 102) (size := 2) wc #[] 0 hbs (by unfold maxLen; omega) rfl
      have hsl1 := hsl.keep ((Below.refl _ _).alloc (Nat.le_refl _) (.cells #[] 102))
      have HK1 := Lib.hid (HB.out.alloc hbs (.cells #[] 102))
      go_wp2_with (first
        | (at_builtin; refine wpList_app1 rfl _ _ 98 rfl elem_rule rfl (hown1.alloc _) (cs := [.bool false, .string ({ data := #[42, 42] } : ByteArray)]) rfl (heap_alloc_new _ _) rfl (by intro u hu; simp at hu; rcases hu with rfl | rfl <;> rfl) (by omega) (by omega) (by have := HK4.out.size; simp only [World.size_alloc]; omega) ?_; intro g9 cap9 w9 hown9 hgr9 hb9)
        | (at_builtin; refine wpList_appN rfl _ _ 98 rfl elem_rule rfl hown rfl hsl1 (rules_len rs) (rule_one rs) hnil (by omega) (by omega) (by simp only [World.size_alloc]; omega) ?_; intro v1 w4 hown1 hgr1 hb4; have HK4 := Lib.hid (HK1.out.trans hb4); clear hown hgr1 hb4))
      have hsl9 : Slc w9 (some ⟨g9, 0, none⟩) ((rs ++ [((false, [42, 42]) : RuleD)]).flatMap rV) := by
        obtain ⟨A9, c9, he9, _, hs9⟩ := own_form hown9
        cases he9
        rw [rulesV_app]
        exact hs9
      have HS9 := Lib.hid hsl9
      have hbw9 : Below w.heap.size w w9 := (HK4.out.alloc HK4.out.size _).trans hb9
      have HW9 := Lib.hid hbw9
      have KA : Hid (∀ W (h : Slc W (some ⟨g9, 0, none⟩) ((rs ++ [((false, [42, 42]) : RuleD)]).flatMap rV)), Calls Try.prog 71 #[.slice (some ⟨g9, 0, none⟩) (rs.length + 1) cap9, .string p, .bool false] W fun e w' => e = .returned (.bool (rs.any (fun r => matchesB r.2 (L p) false) && keepsB rs (L p) false)) ∧ Below W.heap.size W w') := fun W h => by
        have h2 := keeps_walk (some ⟨g9, 0, none⟩) cap9 (rs ++ [((false, [42, 42]) : RuleD)]) p false (by omega) (by rw [List.length_append, List.length_singleton]; omega) (fun r hr => by
          rcases List.mem_append.1 hr with hr | hr
          · exact HR.out r hr
          · rw [List.mem_singleton] at hr; subst hr; show (2 : Nat) ≤ 100000; omega) W h
        rw [List.length_append, List.length_singleton, keeps_stars rs (L p) HRP.out HE.out] at h2
        exact h2
      have K1 := Lib.hid (fun W h => keeps_walk A c rs p false (by omega) (by omega) HR.out W h)
      have N1 : Hid (∀ W, Calls Try.prog 73 #[.slice none 0 0, .string p, .bool true] W fun e w' => e = .returned (.bool false) ∧ Below W.heap.size W w') := fun W => by
        have h2 := shut_walk none 0 [] p true (by omega) (by decide) (fun r hr => by cases hr) W (.inl rfl)
        rw [shut_nil] at h2
        exact h2
      have M2 := Lib.hid (fun k (r : ByteArray) (h : r.size ≤ 100000) W => rmatches3_walk rparse_walk k r p false h (by omega) W)
      clear hsl9 hbw9 hown1 hown9 hgr9 hb9 HK4 HK1 hsl hsl1 hbs HB
      obtain ⟨fm, hfm⟩ : ∃ fm : RuleD → Bool, ∀ r, fm r = matchesB r.2 (L p) false := ⟨fun r => matchesB r.2 (L p) false, fun _ => rfl⟩
      have hfe : (fun r : RuleD => matchesB r.2 (L p) false) = fm := funext fun r => (hfm r).symm
      rw [hfe] at KA
      have HFM := Lib.hid hfm
      clear hfm hfe
      generalize keepsB rs (L p) false = kb at *
      go_loopw [9, 10] (fun v i wr => ∃ (k : Nat) (b : Bool), k ≤ rs.length ∧ i = .int .i64 k ∧ v = .bool b ∧ Hid ((rs.take k).any fm = b) ∧ Below w9.heap.size w9 wr) (fun _ i _ => rs.length - (intOf i).toNat)
      case atStart => exact ⟨0, false, Nat.zero_le _, rfl, rfl, (show _ = _ by rw [List.take_zero]; rfl), Below.refl _ _⟩
      case round =>
        obtain ⟨k, b, hk, rfl, rfl, HBK, hbr⟩ := hrel
        have hwr := HW9.out.trans (hbr.mono HW9.out.size)
        by_cases hlt : k < rs.length
        · obtain ⟨r, hrk⟩ : ∃ r, rs[k]? = some r := ⟨_, List.getElem?_eq_getElem hlt⟩
          have hrl := HR.out r (List.mem_of_getElem? hrk)
          obtain ⟨b0, o, rfl, hlb, c0, c1⟩ := two_at rV (fun _ => rfl) (HX.out.keep hwr) hrk rfl
          unfold strV at c1
          have hnx := any_next rs fm k r hrk
          have hi0 : (0 : Int) ≤ (k : Int) := Int.natCast_nonneg _
          have hi1 : (k : Int) < (rs.length : Int) := by omega
          cases b with
          | true =>
            have HN : Hid ((rs.take (k + 1)).any fm = true) := by show _ = _; rw [hnx, HBK.out]; rfl
            clear hrk hnx hrl hwr
            go_wp2_with fail
            go_roundw
            case rel => exact ⟨k + 1, true, by omega, by go_num, rfl, HN, hbr⟩
            case measure => simp [intOf]; omega
          | false =>
            have HN : Hid ((rs.take (k + 1)).any fm = fm r) := by show _ = _; rw [hnx, HBK.out]; rfl
            have D2 := Lib.hid (M2.out r.1 (B r.2) (by rw [B_size]; exact hrl))
            rw [L_B, ← HFM.out r] at D2
            clear hrk hnx hrl hwr
            generalize fm r = fr at *
            go_wp2_with (go_at_call 75; refine (D2.out _).mono ?_; rintro e w8 ⟨rfl, hb8⟩)
            go_roundw
            case rel => exact ⟨k + 1, fr, by omega, by go_num, rfl, HN, hbr.trans (hb8.mono hbr.size)⟩
            case measure => simp [intOf]; omega
        · obtain rfl : k = rs.length := by omega
          rw [List.take_length] at HBK
          rw [HBK.out] at KA
          have HWR := Lib.hid hwr
          have hs9 := HS9.out.keep hbr
          clear hwr HBK
          cases b with
          | true =>
            cases kb
            all_goals
              go_wp2_with (first | (go_at_call 70; refine (AW.out _).mono ?_; rintro e w2 ⟨rfl, hb2⟩; have hc := HWR.out.trans (hb2.mono HWR.out.size); have hs9 := hs9.keep hb2) | (go_at_call 73; refine (N1.out _).mono ?_; rintro e w3 ⟨rfl, hb3⟩; have hc := hc.trans (hb3.mono hc.size); have hs9 := hs9.keep hb3) | (go_at_call 71; refine (KA.out _ hs9).mono ?_; rintro e w5 ⟨rfl, hb5⟩; have hc := hc.trans (hb5.mono hc.size); clear KA) | (go_at_call 71; refine (K1.out _ (HX.out.keep hc)).mono ?_; rintro e w6 ⟨rfl, hb6⟩; have hc := hc.trans (hb6.mono hc.size)))
              go_ret
              exact ⟨rfl, hc⟩
          | false =>
            cases kb
            all_goals
              go_wp2_with (first | (go_at_call 70; refine (AW.out _).mono ?_; rintro e w2 ⟨rfl, hb2⟩; have hc := HWR.out.trans (hb2.mono HWR.out.size); have hs9 := hs9.keep hb2) | (go_at_call 73; refine (N1.out _).mono ?_; rintro e w3 ⟨rfl, hb3⟩; have hc := hc.trans (hb3.mono hc.size); have hs9 := hs9.keep hb3) | (go_at_call 71; refine (KA.out _ hs9).mono ?_; rintro e w5 ⟨rfl, hb5⟩; have hc := hc.trans (hb5.mono hc.size); clear KA))
              go_ret
              exact ⟨rfl, hc⟩
end Go.Proofs.Ytcapaiiegfedmaa
namespace Go.Proofs.Ytcapaiiegfedmaa
open Go.RowKit Go.Shelf
/-- the bytes of a line, from k up to j -/
def lineAt (s : ByteArray) (k j : Nat) : Bs := ((L s).drop k).take (j - k)
theorem line_none (s : ByteArray) (k : Nat) : lineAt s k k = [] := by unfold lineAt; rw [Nat.sub_self, List.take_zero]
theorem line_full (s : ByteArray) (k : Nat) : lineAt s k s.size = (L s).drop k := by
  unfold lineAt
  exact List.take_of_length_le (by rw [List.length_drop, L_len]; exact Nat.le_refl _)
theorem line_more (s : ByteArray) (k j : Nat) (hk : k ≤ j) (hj : j < s.size) : lineAt s k (j + 1) = lineAt s k j ++ [s[j]] := by
  unfold lineAt
  have h : ((L s).drop k)[j - k]? = some s[j] := by
    rw [List.getElem?_drop, show k + (j - k) = j by omega, getL, List.getElem?_eq_getElem]
  rw [show j + 1 - k = j - k + 1 by omega]
  exact take_one_more _ _ _ h
theorem line_cut (s : ByteArray) (k j : Nat) (hk : k ≤ j) (hj : j < s.size) (h10 : s[j] = 10) : (L s).drop k = lineAt s k j ++ 10 :: (L s).drop (j + 1) := by
  unfold lineAt
  have h := drop_cons s j hj
  rw [h10] at h
  rw [← h, ← show ((L s).drop k).drop (j - k) = (L s).drop j by rw [List.drop_drop, show k + (j - k) = j by omega], List.take_append_drop]
theorem line_len (s : ByteArray) (k j : Nat) (hk : k ≤ j) (hj : j ≤ s.size) : (lineAt s k j).length = j - k := by
  unfold lineAt
  rw [List.length_take, List.length_drop, L_len]; omega
theorem line_two (s : ByteArray) (k j : Nat) (h : k + 2 ≤ j) (hj : j ≤ s.size) : lineAt s k j = s[k] :: s[k + 1] :: L (s.extract (k + 2) j) := by
  unfold lineAt
  rw [extract_B, L_B, drop_cons s k (by omega), drop_cons s (k + 1) (by omega), show j - k = j - (k + 2) + 1 + 1 by omega, List.take_succ_cons, List.take_succ_cons]
theorem okL_at (s : ByteArray) (k j : Nat) (h : k + 2 ≤ j) (hj : j ≤ s.size) : okL (lineAt s k j) = ((s[k] == 43 || s[k] == 45) && s[k + 1] == 32) := by
  rw [line_two s k j h hj]
  unfold okL
  simp
theorem okL_lack (s : ByteArray) (k j : Nat) (h : ¬ k + 2 ≤ j) (hk : k ≤ j) (hj : j ≤ s.size) : okL (lineAt s k j) = false := by
  unfold okL
  rw [line_len s k j hk hj]
  rw [show decide (2 ≤ j - k) = false by simp; omega]
  rfl
theorem ofL_at (s : ByteArray) (k j : Nat) (h : k + 2 ≤ j) (hj : j ≤ s.size) : ofL (lineAt s k j) = (s[k] == 43, L (s.extract (k + 2) j)) := by
  rw [line_two s k j h hj]
  unfold ofL
  simp
theorem two_at_line (s : ByteArray) (k j : Nat) (h : k + 2 ≤ j) (hj : j ≤ s.size) : (lineAt s k j).drop 2 = L (s.extract (k + 2) j) := by
  rw [line_two s k j h hj]
  rfl
set_option maxRecDepth 100000 in
set_option maxHeartbeats 8000000 in
theorem rparse3_walk (s : ByteArray) (hs : s.size ≤ 100000) (w : World) : Calls Try.prog 83 #[.string s] w fun e w' =>
    ∃ A c, e = .returned (.tuple #[.slice A (readR 1 (L s)).1.length c, .int .i64 (readR 1 (L s)).2.1, .int .i64 (readR 1 (L s)).2.2]) ∧ (readR 1 (L s)).1.length ≤ c ∧ Slc w' A ((readR 1 (L s)).1.flatMap rV) ∧ Below w.heap.size w w' := by
  have K1 := Lib.hid (fun k (r : ByteArray) (h : r.size ≤ 100000) W => rcheck3_walk rparse_walk k r h W)
  go_enter Try.func83, Try.ntmps83
  go_wp2_with fail
  go_loopw [5, 6, 7] (fun o v i wr => ∃ (k : Nat) (acc : List RuleD) (n : Nat), k ≤ s.size ∧ v = .int .i64 k ∧ i = .int .i64 n ∧ 1 ≤ n ∧ n ≤ 17 ∧ acc.length + 1 = n ∧ Hid (readR 1 (L s) = preR acc (readR n ((L s).drop k))) ∧
      (∃ A c, o = .slice A acc.length c ∧ wr.ownsRow w.heap.size 102 2 (.slice A acc.length c) acc.length (acc.flatMap rV)) ∧ Hid (Below w.heap.size w wr)) (fun _ v _ _ => s.size - (intOf v).toNat)
  case atStart => exact ⟨0, [], 1, Nat.zero_le _, rfl, rfl, Nat.le_refl _, by omega, rfl, (show _ = _ by rw [List.drop_zero]; exact (preR_nil (readR 1 (L s)) (parseR_shape _ _ _)).symm), ⟨none, 0, rfl, World.ownsRow_nil _ _ _ _⟩, Below.refl _ _⟩
  case round =>
    obtain ⟨k, acc, n, hk, rfl, rfl, hn1, hn2, hna, HR, ⟨A1, c1, rfl, hown⟩, HBR⟩ := hrel
    have hbrs := HBR.out.size
    by_cases hlt : k < s.size
    case neg =>
      obtain rfl : k = s.size := by omega
      have HE : Hid (readR 1 (L s) = (acc, 0, 0)) := by show _ = _; rw [HR.out, drop_none s _ (Nat.le_refl _), readR_nil]; simp [preR]
      obtain ⟨A2, c2, he2, hcap, hsl⟩ := own_form hown
      cases he2
      have HSL := Lib.hid hsl
      clear hown hsl
      go_wp2_with fail
      refine bodyPost_ret (results_tmp3 rfl _ _ _) rfl ?_
      rw [HE.out]
      exact ⟨A1, c1, rfl, hcap, HSL.out, HBR.out⟩
    have he : (L s).drop k ≠ [] := by rw [drop_cons s k hlt]; simp
    have hi0 : (0 : Int) ≤ (k : Int) := Int.natCast_nonneg _
    have hi1 : (k : Int) < (s.size : Int) := by omega
    by_cases h16 : 16 < n
    · have HE : Hid (readR 1 (L s) = ([], (n : Int), 5)) := by show _ = _; rw [HR.out, readR_many n _ he h16, preR_bad _ _ _ (by decide)]
      have hq : decide ((16 : Int) < (n : Int)) = true := by simp; omega
      clear he h16
      go_wp2_with fail
      refine bodyPost_ret (results_tmp3 rfl _ _ _) rfl ?_
      rw [HE.out]
      exact ⟨none, 0, rfl, Nat.le_refl _, .inl rfl, HBR.out⟩
    have hq : decide ((16 : Int) < (n : Int)) = false := by simp; omega
    have hn16 : n ≤ 16 := by omega
    have HNE := Lib.hid he
    clear h16 he
    go_wp2_with fail
    go_loop [8] (fun v => ∃ j : Nat, k ≤ j ∧ j ≤ s.size ∧ v = .int .i64 j ∧ Hid (10 ∉ lineAt s k j)) (fun v => s.size - (intOf v).toNat)
    case atStart => exact ⟨k, Nat.le_refl _, hk, rfl, (show 10 ∉ _ by rw [line_none]; simp)⟩
    case round =>
      obtain ⟨j, hkj, hjs, rfl, HL⟩ := hrel
      have hj0 : (0 : Int) ≤ (j : Int) := Int.natCast_nonneg _
      by_cases hjl : j < s.size
      case neg =>
        obtain rfl : j = s.size := by omega
        have hjq : ((s.size : Int) == (s.size : Int)) = true := by simp
        have HE : Hid (readR 1 (L s) = ([], (n : Int), 3)) := by
          show _ = _
          have h := HL.out
          rw [line_full] at h
          rw [HR.out, readR_form n _ HNE.out hn16 (.inl h), preR_bad _ _ _ (by decide)]
        clear hown
        go_wp2_with fail
        refine bodyPost_ret (results_tmp3 rfl _ _ _) rfl ?_
        rw [HE.out]
        exact ⟨none, 0, rfl, Nat.le_refl _, .inl rfl, HBR.out⟩
      have hj1 : (j : Int) < (s.size : Int) := by omega
      by_cases h10 : s[j] = 10
      case neg =>
        have hq10 : ((s[j].toNat : Int) != 10) = true := by rw [bne_byte _ 10 10 rfl]; simpa using h10
        have HLN : Hid (10 ∉ lineAt s k (j + 1)) := by
          show 10 ∉ _
          rw [line_more s k j hkj hjl, List.mem_append, List.mem_singleton]
          rintro (h | h)
          · exact HL.out h
          · exact h10 h.symm
        clear h10
        go_wp2_with fail
        go_round
        case rel => exact ⟨j + 1, by omega, by omega, by go_num, HLN⟩
        case measure => simp [intOf]; omega
      have hq10 : ((s[j].toNat : Int) != 10) = false := by rw [bne_byte _ 10 10 rfl]; simpa using h10
      have hjq : ((j : Int) == (s.size : Int)) = false := by simp; omega
      have hcut := line_cut s k j hkj hjl h10
      have hmem : 10 ∈ (L s).drop k := by rw [hcut]; simp
      obtain ⟨hbe, haf⟩ := before_app 10 (lineAt s k j) ((L s).drop (j + 1)) HL.out
      rw [← hcut] at hbe haf
      have HFORM : Hid (okL (lineAt s k j) = false → readR 1 (L s) = ([], (n : Int), 3)) := fun h => by
        rw [HR.out, readR_form n _ HNE.out hn16 (.inr (by rw [hbe]; exact h)), preR_bad _ _ _ (by decide)]
      have HGO : Hid (okL (lineAt s k j) = true → readR 1 (L s) = preR acc (if ruleC ((lineAt s k j).drop 2) = 0 then preR [ofL (lineAt s k j)] (readR (n + 1) ((L s).drop (j + 1))) else ([], (n : Int), ruleC ((lineAt s k j).drop 2)))) := fun h => by
        rw [HR.out]
        by_cases h0 : ruleC ((lineAt s k j).drop 2) = 0
        · rw [if_pos h0, readR_step n _ hn16 hmem (by rw [hbe]; exact h) (by rw [hbe]; exact h0), hbe, haf]
        · rw [if_neg h0, readR_bad n _ hn16 hmem (by rw [hbe]; exact h) (by rw [hbe]; exact h0), hbe]
      clear hcut hmem hbe haf h10 HNE HL
      by_cases h2 : k + 2 ≤ j
      case neg =>
        have hq2 : decide ((j : Int) - (k : Int) < 2) = true := by simp; omega
        have HE := Lib.hid (HFORM.out (okL_lack s k j h2 hkj hjs))
        clear h2 hown
        go_wp2_with fail
        refine bodyPost_ret (results_tmp3 rfl _ _ _) rfl ?_
        rw [HE.out]
        exact ⟨none, 0, rfl, Nat.le_refl _, .inl rfl, HBR.out⟩
      have hq2 : decide ((j : Int) - (k : Int) < 2) = false := by simp; omega
      have hok := okL_at s k j h2 hjs
      have hk1 : (k : Int) + 1 < (s.size : Int) := by omega
      have hk0 : (0 : Int) ≤ (k : Int) + 1 := by omega
      have b0 := bne_byte s[k] 43 43 rfl
      have b1 := bne_byte s[k] 45 45 rfl
      have b2 := bne_byte s[k + 1] 32 32 rfl
      have b3 := beq_byte s[k] 43 43 rfl
      cases hok2 : okL (lineAt s k j) with
      | false =>
        have HE := Lib.hid (HFORM.out hok2)
        rw [hok2] at hok
        clear hown
        cases e0 : (s[k] == 43) with
        | true =>
          have e2 : (s[k + 1] != 32) = true := by
            rw [e0] at hok
            simp only [Bool.true_or, Bool.true_and] at hok
            simp [bne, ← hok]
          have e1 : (s[k] != 43) = false := by simp [bne, e0]
          rw [e1] at b0
          rw [e2] at b2
          clear hok hok2 b1 b3 e0 e1 e2
          go_wp2_with fail
          refine bodyPost_ret (results_tmp3 rfl _ _ _) rfl ?_
          rw [HE.out]
          exact ⟨none, 0, rfl, Nat.le_refl _, .inl rfl, HBR.out⟩
        | false =>
          have e1 : (s[k] != 43) = true := by simp [bne, e0]
          rw [e1] at b0
          cases e3 : (s[k] == 45) with
          | true =>
            have e2 : (s[k + 1] != 32) = true := by
              rw [e0, e3] at hok
              simp only [Bool.false_or, Bool.true_and] at hok
              simp [bne, ← hok]
            have e4 : (s[k] != 45) = false := by simp [bne, e3]
            rw [e4] at b1
            rw [e2] at b2
            clear hok hok2 b3 e0 e1 e2 e3 e4
            go_wp2_with fail
            refine bodyPost_ret (results_tmp3 rfl _ _ _) rfl ?_
            rw [HE.out]
            exact ⟨none, 0, rfl, Nat.le_refl _, .inl rfl, HBR.out⟩
          | false =>
            have e4 : (s[k] != 45) = true := by simp [bne, e3]
            rw [e4] at b1
            clear hok hok2 b3 e0 e1 e3 e4 b2
            go_wp2_with fail
            refine bodyPost_ret (results_tmp3 rfl _ _ _) rfl ?_
            rw [HE.out]
            exact ⟨none, 0, rfl, Nat.le_refl _, .inl rfl, HBR.out⟩
      | true =>
        have HG := Lib.hid (HGO.out hok2)
        rw [hok2] at hok
        have HOF := Lib.hid (ofL_at s k j h2 hjs)
        have HEX := Lib.hid (two_at_line s k j h2 hjs)
        have e2 : (s[k + 1] != 32) = false := by
          rw [eq_comm, Bool.and_eq_true] at hok
          simp only [beq_iff_eq] at hok
          simp [bne, hok.2]
        rw [e2] at b2
        have hX0 : (0 : Int) ≤ (k : Int) + 2 := by omega
        have hX2 : (k : Int) + 2 ≤ (j : Int) := by omega
        have hX3 : (j : Int) ≤ (s.size : Int) := by omega
        have hpl : (s.extract (k + 2) j).size ≤ 100000 := by rw [extract_B, B_size, List.length_take, List.length_drop, L_len]; omega
        cases e0 : (s[k] == 43) with
        | true =>
          have e1 : (s[k] != 43) = false := by simp [bne, e0]
          rw [e1] at b0
          rw [e0] at b3 HOF
          clear b1 e0 e1 e2
          have K2 := Lib.hid (K1.out true (s.extract (k + 2) j) hpl)
          obtain ⟨wq, hwq⟩ : ∃ wq, wq = wr := ⟨_, rfl⟩
          have HBQ : Hid (Below w.heap.size w wq) := by rw [hwq]; exact HBR
          have hownq : wq.ownsRow w.heap.size 102 2 (.slice A1 acc.length c1) acc.length (acc.flatMap rV) := by rw [hwq]; exact hown
          rw [← hwq]
          clear hwq hown hok hok2
          have hA := two_fresh wq
          obtain ⟨hA0, hA1, hA2, hA3⟩ := hA
          go_wp2_with fail
          go_region
          all_goals
            have HPE : Hid ((lineAt s k j).drop 2 = L (s.extract (k + 2) j)) := HEX
            by_cases h0 : ruleC (L (s.extract (k + 2) j)) = 0
            · have HN : Hid (readR 1 (L s) = preR (acc ++ [(true, L (s.extract (k + 2) j))]) (readR (n + 1) ((L s).drop (j + 1)))) := by
                show _ = _
                rw [HG.out, HEX.out, if_pos h0, preR_pre, HOF.out]
              rw [h0] at K2
              clear h0
              generalize s.extract (k + 2) j = pat at *
              go_wp2_with (first | (go_at_call 77; refine (K2.out _).mono ?_; rintro e w8 ⟨rfl, hb8⟩; have hX8 := (hb8.block wq.heap.size (by show wq.heap.size < (wq.alloc _).heap.size; simp)).trans (World.alloc_heap_new wq (.cells #[.bool true, .string pat] 102)); obtain ⟨y0, y1⟩ := two_new2 hX8; have hb88 : Below w.heap.size w w8 := (HBQ.out.alloc HBQ.out.size (.cells #[.bool true, .string pat] 102)).trans ⟨hb8.os, hb8.tape, hb8.output, hb8.size, fun k hk => hb8.block k (by have h5 := HBQ.out.size; show k < (wq.alloc _).heap.size; simp; omega)⟩; have hown8 := own_keep (hownq.alloc (.cells #[.bool true, .string pat] 102)) (⟨hb8.os, hb8.tape, hb8.output, hb8.size, hb8.block⟩ : Below (wq.alloc (.cells #[.bool true, .string pat] 102)).heap.size (wq.alloc (.cells #[.bool true, .string pat] 102)) w8)) | (at_builtin; refine wpList_app1 rfl _ _ 98 rfl elem_rule rfl (hown8.alloc _) (cs := [.bool true, .string pat]) rfl (heap_alloc_new _ _) rfl (by intro u hu; simp at hu; rcases hu with rfl | rfl <;> rfl) (by omega) (by omega) (by have := hb88.size; simp only [World.size_alloc]; omega) ?_; intro g9 cap9 w9 hown9 hgr9 hb9))
              go_roundw
              case rel =>
                refine ⟨j + 1, acc ++ [(true, L pat)], n + 1, by omega, by go_num, by go_num, by omega, by omega, by simp; omega, HN.out, ⟨some ⟨g9, 0, none⟩, cap9, by rw [List.length_append, List.length_singleton, hna], ?_⟩, (hb88.alloc hb88.size _).trans hb9⟩
                rw [rulesV_app, List.length_append]
                have h9 := hown9
                rw [show [Value.bool true, .string pat] = [((true, L pat) : RuleD)].flatMap rV by simp [rV, strV, B_L]] at h9
                exact h9
              case measure => simp [intOf]; omega
            · have HE : Hid (readR 1 (L s) = ([], (n : Int), ruleC (L (s.extract (k + 2) j)))) := by
                show _ = _
                rw [HG.out, HEX.out, if_neg h0, preR_bad _ _ _ h0]
              have hqc : (ruleC (L (s.extract (k + 2) j)) != 0) = true := by simpa using h0
              clear h0
              generalize ruleC (L (s.extract (k + 2) j)) = cc at *
              generalize s.extract (k + 2) j = pat at *
              go_wp2_with (first | (go_at_call 77; refine (K3.out _).mono ?_; rintro e w9 ⟨rfl, hb9⟩) | (go_at_call 77; refine (K2.out _).mono ?_; rintro e w8 ⟨rfl, hb8⟩; have hX8 := (hb8.block wq.heap.size (by show wq.heap.size < (wq.alloc _).heap.size; simp)).trans (World.alloc_heap_new wq (.cells #[.bool true, .string pat] 102)); obtain ⟨y0, y1⟩ := two_new2 hX8; have hb88 : Below w.heap.size w w8 := (HBQ.out.alloc HBQ.out.size (.cells #[.bool true, .string pat] 102)).trans ⟨hb8.os, hb8.tape, hb8.output, hb8.size, fun k hk => hb8.block k (by have h5 := HBQ.out.size; show k < (wq.alloc _).heap.size; simp; omega)⟩; have hown8 := own_keep (hownq.alloc (.cells #[.bool true, .string pat] 102)) (⟨hb8.os, hb8.tape, hb8.output, hb8.size, hb8.block⟩ : Below (wq.alloc (.cells #[.bool true, .string pat] 102)).heap.size (wq.alloc (.cells #[.bool true, .string pat] 102)) w8); have K3 := K2; clear K2))
              refine bodyPost_ret (results_tmp3 rfl _ _ _) rfl ?_
              rw [HE.out]
              exact ⟨none, 0, rfl, Nat.le_refl _, .inl rfl, hb88.trans (hb9.mono hb88.size)⟩
        | false =>
          have e1 : (s[k] != 43) = true := by simp [bne, e0]
          have e3 : (s[k] != 45) = false := by
            rw [e0, eq_comm, Bool.and_eq_true, Bool.false_or] at hok
            simp [bne, hok.1]
          rw [e1] at b0
          rw [e3] at b1
          rw [e0] at b3 HOF
          clear e0 e1 e2 e3
          have K2 := Lib.hid (K1.out false (s.extract (k + 2) j) hpl)
          obtain ⟨wq, hwq⟩ : ∃ wq, wq = wr := ⟨_, rfl⟩
          have HBQ : Hid (Below w.heap.size w wq) := by rw [hwq]; exact HBR
          have hownq : wq.ownsRow w.heap.size 102 2 (.slice A1 acc.length c1) acc.length (acc.flatMap rV) := by rw [hwq]; exact hown
          rw [← hwq]
          clear hwq hown hok hok2
          have hA := two_fresh wq
          obtain ⟨hA0, hA1, hA2, hA3⟩ := hA
          go_wp2_with fail
          go_region
          all_goals
            have HPE : Hid ((lineAt s k j).drop 2 = L (s.extract (k + 2) j)) := HEX
            by_cases h0 : ruleC (L (s.extract (k + 2) j)) = 0
            · have HN : Hid (readR 1 (L s) = preR (acc ++ [(false, L (s.extract (k + 2) j))]) (readR (n + 1) ((L s).drop (j + 1)))) := by
                show _ = _
                rw [HG.out, HEX.out, if_pos h0, preR_pre, HOF.out]
              rw [h0] at K2
              clear h0
              generalize s.extract (k + 2) j = pat at *
              go_wp2_with (first | (go_at_call 77; refine (K2.out _).mono ?_; rintro e w8 ⟨rfl, hb8⟩; have hX8 := (hb8.block wq.heap.size (by show wq.heap.size < (wq.alloc _).heap.size; simp)).trans (World.alloc_heap_new wq (.cells #[.bool false, .string pat] 102)); obtain ⟨y0, y1⟩ := two_new2 hX8; have hb88 : Below w.heap.size w w8 := (HBQ.out.alloc HBQ.out.size (.cells #[.bool false, .string pat] 102)).trans ⟨hb8.os, hb8.tape, hb8.output, hb8.size, fun k hk => hb8.block k (by have h5 := HBQ.out.size; show k < (wq.alloc _).heap.size; simp; omega)⟩; have hown8 := own_keep (hownq.alloc (.cells #[.bool false, .string pat] 102)) (⟨hb8.os, hb8.tape, hb8.output, hb8.size, hb8.block⟩ : Below (wq.alloc (.cells #[.bool false, .string pat] 102)).heap.size (wq.alloc (.cells #[.bool false, .string pat] 102)) w8)) | (at_builtin; refine wpList_app1 rfl _ _ 98 rfl elem_rule rfl (hown8.alloc _) (cs := [.bool false, .string pat]) rfl (heap_alloc_new _ _) rfl (by intro u hu; simp at hu; rcases hu with rfl | rfl <;> rfl) (by omega) (by omega) (by have := hb88.size; simp only [World.size_alloc]; omega) ?_; intro g9 cap9 w9 hown9 hgr9 hb9))
              go_roundw
              case rel =>
                refine ⟨j + 1, acc ++ [(false, L pat)], n + 1, by omega, by go_num, by go_num, by omega, by omega, by simp; omega, HN.out, ⟨some ⟨g9, 0, none⟩, cap9, by rw [List.length_append, List.length_singleton, hna], ?_⟩, (hb88.alloc hb88.size _).trans hb9⟩
                rw [rulesV_app, List.length_append]
                have h9 := hown9
                rw [show [Value.bool false, .string pat] = [((false, L pat) : RuleD)].flatMap rV by simp [rV, strV, B_L]] at h9
                exact h9
              case measure => simp [intOf]; omega
            · have HE : Hid (readR 1 (L s) = ([], (n : Int), ruleC (L (s.extract (k + 2) j)))) := by
                show _ = _
                rw [HG.out, HEX.out, if_neg h0, preR_bad _ _ _ h0]
              have hqc : (ruleC (L (s.extract (k + 2) j)) != 0) = true := by simpa using h0
              clear h0
              generalize ruleC (L (s.extract (k + 2) j)) = cc at *
              generalize s.extract (k + 2) j = pat at *
              go_wp2_with (first | (go_at_call 77; refine (K3.out _).mono ?_; rintro e w9 ⟨rfl, hb9⟩) | (go_at_call 77; refine (K2.out _).mono ?_; rintro e w8 ⟨rfl, hb8⟩; have hX8 := (hb8.block wq.heap.size (by show wq.heap.size < (wq.alloc _).heap.size; simp)).trans (World.alloc_heap_new wq (.cells #[.bool false, .string pat] 102)); obtain ⟨y0, y1⟩ := two_new2 hX8; have hb88 : Below w.heap.size w w8 := (HBQ.out.alloc HBQ.out.size (.cells #[.bool false, .string pat] 102)).trans ⟨hb8.os, hb8.tape, hb8.output, hb8.size, fun k hk => hb8.block k (by have h5 := HBQ.out.size; show k < (wq.alloc _).heap.size; simp; omega)⟩; have hown8 := own_keep (hownq.alloc (.cells #[.bool false, .string pat] 102)) (⟨hb8.os, hb8.tape, hb8.output, hb8.size, hb8.block⟩ : Below (wq.alloc (.cells #[.bool false, .string pat] 102)).heap.size (wq.alloc (.cells #[.bool false, .string pat] 102)) w8); have K3 := K2; clear K2))
              refine bodyPost_ret (results_tmp3 rfl _ _ _) rfl ?_
              rw [HE.out]
              exact ⟨none, 0, rfl, Nat.le_refl _, .inl rfl, hb88.trans (hb9.mono hb88.size)⟩
end Go.Proofs.Ytcapaiiegfedmaa
