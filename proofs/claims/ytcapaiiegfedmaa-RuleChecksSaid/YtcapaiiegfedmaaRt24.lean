/- rule.Parse: rules read of lines. · flittinglaw03: Small, awake. -/
import Derived.Deep.RegionHeld3
import Derived.Test.YtcapaiiegfedmaaRt23
namespace Go.Proofs.Ytcapaiiegfedmaa
open Go.RowKit Go.Shelf
theorem elem_rule : Elem Try.prog 98 102 2 24 := elem_mk (z := .agg #[.bool false, .string ⟨#[]⟩]) Try.underlying98 (by kernel_rfl) rfl (by omega)
def strN : Value → Nat
  | .string s => s.size
  | _ => 0
theorem okL_bytes (s : ByteArray) (h : 2 ≤ s.size) : okL (L s) = ((s[0] == 43 || s[0] == 45) && s[1] == 32) := by
  have h0 := drop_cons s 0 (by omega)
  have h1 := drop_cons s 1 (by omega)
  rw [List.drop_zero] at h0
  have hl : decide (2 ≤ (L s).length) = true := by rw [L_len]; simpa using h
  unfold okL
  rw [hl, h0, h1]
  simp
theorem okL_short (s : ByteArray) (h : ¬ 2 ≤ s.size) : okL (L s) = false := by
  unfold okL
  rw [L_len]
  simp [h]
theorem ofL_bytes (s : ByteArray) (h : 2 ≤ s.size) : ofL (L s) = (s[0] == 43, L (s.extract 2 s.size)) := by
  have h0 := drop_cons s 0 (by omega)
  rw [List.drop_zero] at h0
  unfold ofL
  rw [extract_B, L_B, List.take_of_length_le (by simp [L_len])]
  refine Prod.ext ?_ rfl
  show ((L s).head? == some 43) = _
  rw [h0]
  simp
theorem preR_shape (a : List RuleD) (r : ReadR) : (preR a r).2.2 = 0 ∨ (preR a r).1 = [] := by
  unfold preR
  split
  · exact .inl (by assumption)
  · exact .inr rfl
theorem parseR_shape (f n : Nat) (s : Bs) : (parseR f n s).2.2 = 0 ∨ (parseR f n s).1 = [] := by
  cases f with
  | zero => exact .inl rfl
  | succ f =>
    rw [parseR_eq]
    repeat' split
    all_goals first | exact .inl rfl | exact .inr rfl | exact preR_shape _ _
theorem two_fresh (W : World) : (W.drew.alloc (.cells #[.bool false, .string ⟨#[]⟩] 102)).cell? ⟨W.heap.size, 0, none⟩ = some (.bool false) ∧ (W.drew.alloc (.cells #[.bool false, .string ⟨#[]⟩] 102)).cell? ⟨W.heap.size, 1, none⟩ = some (.string ⟨#[]⟩) ∧
    (W.drew.alloc (.cells #[.bool false, .string ⟨#[]⟩] 102)).frozen? ⟨W.heap.size, 0, none⟩ = false ∧ (W.drew.alloc (.cells #[.bool false, .string ⟨#[]⟩] 102)).frozen? ⟨W.heap.size, 1, none⟩ = false := by
  have h : (W.drew.alloc (.cells #[.bool false, .string ⟨#[]⟩] 102)).heap[W.heap.size]? = some (.cells #[.bool false, .string ⟨#[]⟩] 102 (0, 0)) := World.alloc_heap_new W.drew (.cells #[.bool false, .string ⟨#[]⟩] 102)
  generalize W.drew.alloc (.cells #[.bool false, .string ⟨#[]⟩] 102) = X at h ⊢
  simp [World.cell?, World.frozen?, h]
theorem rulesV_app (a b : List RuleD) : (a ++ b).flatMap rV = a.flatMap rV ++ b.flatMap rV := List.flatMap_append
set_option maxRecDepth 100000 in
set_option maxHeartbeats 8000000 in
theorem ruleParse_walk (s : ByteArray) (hs : s.size ≤ 100000) (w : World) : Calls Try.prog 82 #[.string s] w fun e w' =>
    ∃ A c, e = .returned (.tuple #[.slice A (readR 1 (L s)).1.length c, .int .i64 (readR 1 (L s)).2.1, .int .i64 (readR 1 (L s)).2.2]) ∧ (readR 1 (L s)).1.length ≤ c ∧ Slc w' A ((readR 1 (L s)).1.flatMap rV) ∧ Below w.heap.size w w' := by
  have K1 := Lib.hid (fun k (r : ByteArray) (h : r.size ≤ 100000) W => rcheck_walk k r h W)
  go_enter Try.func82, Try.ntmps82
  go_wp2_with fail
  go_loopw [0, 5, 6] (fun v o i wr => ∃ (rest : ByteArray) (acc : List RuleD) (n : Nat), v = .string rest ∧ i = .int .i64 n ∧ 1 ≤ n ∧ n ≤ 17 ∧ acc.length + 1 = n ∧ rest.size ≤ 100000 ∧ Hid (readR 1 (L s) = preR acc (readR n (L rest))) ∧
      (∃ A c, o = .slice A acc.length c ∧ wr.ownsRow w.heap.size 102 2 (.slice A acc.length c) acc.length (acc.flatMap rV)) ∧ Hid (Below w.heap.size w wr)) (fun v _ _ _ => strN v)
  case atStart => exact ⟨s, [], 1, rfl, rfl, Nat.le_refl _, by omega, rfl, hs, (show _ = _ from (preR_nil (readR 1 (L s)) (parseR_shape _ _ _)).symm), ⟨none, 0, rfl, World.ownsRow_nil _ _ _ _⟩, Below.refl _ _⟩
  case round =>
    obtain ⟨rest, acc, n, rfl, rfl, hn1, hn2, hna, hrs, HR, ⟨A1, c1, rfl, hown⟩, HBR⟩ := hrel
    have hbrs := HBR.out.size
    by_cases he : L rest = []
    · have hemp : rest.toList.isEmpty = true := by rw [L_toList, he]; rfl
      have HE : Hid (readR 1 (L s) = (acc, 0, 0)) := by show _ = _; rw [HR.out, he, readR_nil]; simp [preR]
      obtain ⟨A2, c2, he2, hcap, hsl⟩ := own_form hown
      cases he2
      have HSL := Lib.hid hsl
      clear hown hsl he
      go_wp2_with fail
      refine bodyPost_ret (results_tmp3 rfl _ _ _) rfl ?_
      rw [HE.out]
      exact ⟨A1, c1, rfl, hcap, HSL.out, HBR.out⟩
    · have hemp : rest.toList.isEmpty = false := by rw [L_toList]; simpa using he
      by_cases h16 : 16 < n
      · have HE : Hid (readR 1 (L s) = ([], (n : Int), 5)) := by show _ = _; rw [HR.out, readR_many n _ he h16, preR_bad _ _ _ (by decide)]
        have hq : decide ((16 : Int) < (n : Int)) = true := by simp; omega
        clear he h16
        go_wp2_with fail
        refine bodyPost_ret (results_tmp3 rfl _ _ _) rfl ?_
        rw [HE.out]
        exact ⟨none, 0, rfl, Nat.le_refl _, .inl rfl, HBR.out⟩
      · have hq : decide ((16 : Int) < (n : Int)) = false := by simp; omega
        have C1 := Lib.hid (fun X => cut1_walk rest hrs 10 X)
        have hn16 : n ≤ 16 := by omega
        clear h16
        rcases idx_at 10 (L rest) with ⟨_, hno⟩ | ⟨a, t, hat, hno, _⟩
        · have HE : Hid (readR 1 (L s) = ([], (n : Int), 3)) := by show _ = _; rw [HR.out, readR_form n _ he hn16 (.inl hno), preR_bad _ _ _ (by decide)]
          rw [show decide (10 ∈ L rest) = false by simpa using hno] at C1
          clear he hno
          go_wp2_with (go_at_call 118; refine (C1.out _).mono ?_; rintro e w1 ⟨rfl, nd, rfl⟩)
          refine bodyPost_ret (results_tmp3 rfl _ _ _) rfl ?_
          rw [HE.out]
          exact ⟨none, 0, rfl, Nat.le_refl _, .inl rfl, below_draw HBR.out⟩
        · have hba := before_app 10 a t hno
          have hmem : 10 ∈ L rest := by rw [hat]; simp
          have hal : a.length + 1 + t.length = rest.size := by rw [← L_len, hat]; simp; omega
          have hbe : before 10 (L rest) = a := by rw [hat]; exact hba.1
          have haf : after 10 (L rest) = t := by rw [hat]; exact hba.2
          rw [hbe, haf, show decide (10 ∈ L rest) = true by simpa using hmem] at C1
          obtain ⟨one, hone⟩ : ∃ one, B a = one := ⟨_, rfl⟩
          have hla : a = L one := by rw [← hone, L_B]
          rw [hone] at C1
          have hos : one.size = a.length := by rw [← hone, B_size]
          have hform : okL (L one) = false → readR 1 (L s) = ([], (n : Int), 3) := fun h => by
            rw [HR.out, readR_form n _ he hn16 (.inr (by rw [hbe, hla]; exact h)), preR_bad _ _ _ (by decide)]
          have hgo : okL (L one) = true → readR 1 (L s) = preR acc (if ruleC ((L one).drop 2) = 0 then preR [ofL (L one)] (readR (n + 1) t) else ([], (n : Int), ruleC ((L one).drop 2))) := fun h => by
            rw [HR.out]
            by_cases h0 : ruleC ((L one).drop 2) = 0
            · rw [if_pos h0, readR_step n _ hn16 hmem (by rw [hbe, hla]; exact h) (by rw [hbe, hla]; exact h0), hbe, haf, hla]
            · rw [if_neg h0, readR_bad n _ hn16 hmem (by rw [hbe, hla]; exact h) (by rw [hbe, hla]; exact h0), hbe, hla]
          have HFORM := Lib.hid hform
          have HGO := Lib.hid hgo
          have hol : one.size + 1 + t.length = rest.size := by omega
          clear hos hal
          clear hform hgo hba hmem hbe haf hat hno hone hla he
          by_cases h2 : 2 ≤ one.size
          · have hok := okL_bytes one h2
            have hq2 : decide ((one.size : Int) < 2) = false := by simp; omega
            have i0 : (0 : Int) < (one.size : Int) := by omega
            have i1 : (1 : Int) < (one.size : Int) := by omega
            have b0 := bne_byte one[0] 43 43 rfl
            have b1 := bne_byte one[0] 45 45 rfl
            have b2 := bne_byte one[1] 32 32 rfl
            have b3 := beq_byte one[0] 43 43 rfl
            cases hok2 : okL (L one) with
            | false =>
              have HE := Lib.hid (HFORM.out hok2)
              rw [hok2] at hok
              cases e0 : (one[0] == 43) with
              | true =>
                have e2 : (one[1] != 32) = true := by
                  rw [e0] at hok
                  simp only [Bool.true_or, Bool.true_and] at hok
                  simp [bne, ← hok]
                have e1 : (one[0] != 43) = false := by simp [bne, e0]
                rw [e1] at b0
                rw [e2] at b2
                clear hok hok2 b1 b3 e0 e1 e2
                go_wp2_with (go_at_call 118; refine (C1.out _).mono ?_; rintro e w1 ⟨rfl, nd, rfl⟩)
                refine bodyPost_ret (results_tmp3 rfl _ _ _) rfl ?_
                rw [HE.out]
                exact ⟨none, 0, rfl, Nat.le_refl _, .inl rfl, below_draw HBR.out⟩
              | false =>
                have e1 : (one[0] != 43) = true := by simp [bne, e0]
                rw [e1] at b0
                cases e3 : (one[0] == 45) with
                | true =>
                  have e2 : (one[1] != 32) = true := by
                    rw [e0, e3] at hok
                    simp only [Bool.false_or, Bool.true_and] at hok
                    simp [bne, ← hok]
                  have e4 : (one[0] != 45) = false := by simp [bne, e3]
                  rw [e4] at b1
                  rw [e2] at b2
                  clear hok hok2 b3 e0 e1 e2 e3 e4
                  go_wp2_with (go_at_call 118; refine (C1.out _).mono ?_; rintro e w1 ⟨rfl, nd, rfl⟩)
                  refine bodyPost_ret (results_tmp3 rfl _ _ _) rfl ?_
                  rw [HE.out]
                  exact ⟨none, 0, rfl, Nat.le_refl _, .inl rfl, below_draw HBR.out⟩
                | false =>
                  have e4 : (one[0] != 45) = true := by simp [bne, e3]
                  rw [e4] at b1
                  clear hok hok2 b3 e0 e1 e3 e4 b2
                  go_wp2_with (go_at_call 118; refine (C1.out _).mono ?_; rintro e w1 ⟨rfl, nd, rfl⟩)
                  refine bodyPost_ret (results_tmp3 rfl _ _ _) rfl ?_
                  rw [HE.out]
                  exact ⟨none, 0, rfl, Nat.le_refl _, .inl rfl, below_draw HBR.out⟩
            | true =>
              have HG := Lib.hid (HGO.out hok2)
              rw [hok2] at hok
              have HOF := Lib.hid (ofL_bytes one h2)
              have HEX : Hid ((L one).drop 2 = L (one.extract 2 one.size)) := by show _ = _; rw [extract_B, L_B, List.take_of_length_le (by simp [L_len])]
              have e2 : (one[1] != 32) = false := by
                rw [eq_comm, Bool.and_eq_true] at hok
                simp only [beq_iff_eq] at hok
                simp [bne, hok.2]
              rw [e2] at b2
              cases e0 : (one[0] == 43) with
              | true =>
                have e1 : (one[0] != 43) = false := by simp [bne, e0]
                rw [e1] at b0
                rw [e0] at b3 HOF
                clear hok hok2 b1 e0 e1 e2
                have hX2 : (2 : Int) ≤ (one.size : Int) := by omega
                have K2 := Lib.hid (K1.out true (one.extract 2 one.size) (by rw [extract_B, B_size, List.length_take, List.length_drop, L_len]; omega))
                go_wp2_with (go_at_call 118; refine (C1.out _).mono ?_; rintro e w1 ⟨rfl, nd, rfl⟩)
                have HBQ : Hid (Below w.heap.size w (wr.drewN nd)) := below_draw HBR.out
                have hownq : World.ownsRow (wr.drewN nd) _ _ _ _ _ _ := hown
                generalize wr.drewN nd = wq at *
                have hA := two_fresh wq
                obtain ⟨hA0, hA1, hA2, hA3⟩ := hA
                go_region_held3 (fun _ => True) (trivial) (fail)
                all_goals
                  have HPE : Hid (L (one.extract 2 one.size) = (L one).drop 2) := HEX.out.symm
                  by_cases h0 : ruleC (L (one.extract 2 one.size)) = 0
                  · have HN : Hid (readR 1 (L s) = preR (acc ++ [(true, L (one.extract 2 one.size))]) (readR (n + 1) (L (B t)))) := by
                      show _ = _
                      rw [HG.out, HEX.out, if_pos h0, preR_pre, HOF.out, L_B]
                    rw [h0] at K2
                    clear h0
                    go_wp2_with (first | (go_at_call 76; refine (K2.out _).mono ?_; rintro e w8 ⟨rfl, hb8⟩; have hX8 := (hb8.block wq.heap.size (by show wq.heap.size < (wq.alloc _).heap.size; simp)).trans (World.alloc_heap_new wq (.cells #[.bool true, .string (one.extract 2 one.size)] 102)); obtain ⟨y0, y1⟩ := two_new2 hX8; have hb88 : Below w.heap.size w w8 := (HBQ.out.alloc HBQ.out.size (.cells #[.bool true, .string (one.extract 2 one.size)] 102)).trans ⟨hb8.os, hb8.tape, hb8.output, hb8.size, fun k hk => hb8.block k (by have h5 := HBQ.out.size; show k < (wq.alloc _).heap.size; simp; omega)⟩; have hown8 := own_keep (hownq.alloc (.cells #[.bool true, .string (one.extract 2 one.size)] 102)) (⟨hb8.os, hb8.tape, hb8.output, hb8.size, hb8.block⟩ : Below (wq.alloc (.cells #[.bool true, .string (one.extract 2 one.size)] 102)).heap.size (wq.alloc (.cells #[.bool true, .string (one.extract 2 one.size)] 102)) w8)) | (at_builtin; refine wpList_app1 rfl _ _ 98 rfl elem_rule rfl (hown8.alloc _) (cs := [.bool true, .string (one.extract 2 one.size)]) rfl (heap_alloc_new _ _) rfl (by intro u hu; simp at hu; rcases hu with rfl | rfl <;> rfl) (by omega) (by omega) (by have := hb88.size; simp only [World.size_alloc]; omega) ?_; intro g9 cap9 w9 hown9 hgr9 hb9))
                    refine ⟨⟨B t, acc ++ [(true, L (one.extract 2 one.size))], n + 1, rfl, by first | rfl | go_num, by omega, by omega, by simp; omega, by rw [B_size]; omega, HN.out, ⟨some ⟨g9, 0, none⟩, cap9, by rw [List.length_append, List.length_singleton, hna], ?_⟩, (hb88.alloc hb88.size _).trans hb9⟩, by simp [strN]; omega⟩
                    rw [rulesV_app, List.length_append]
                    have h9 := hown9
                    rw [show [Value.bool true, .string (one.extract 2 one.size)] = [(true, L (one.extract 2 one.size))].flatMap rV by simp [rV, strV, B_L]] at h9
                    exact h9
                  · have HE : Hid (readR 1 (L s) = ([], (n : Int), ruleC (L (one.extract 2 one.size)))) := by
                      show _ = _
                      rw [HG.out, HEX.out, if_neg h0, preR_bad _ _ _ h0]
                    have hqc : (ruleC (L (one.extract 2 one.size)) != 0) = true := by simpa using h0
                    clear h0
                    generalize ruleC (L (one.extract 2 one.size)) = cc at *
                    go_wp2_with (go_at_call 76; refine (K2.out _).mono ?_; rintro e w8 ⟨rfl, hb8⟩; have hX8 := (hb8.block wq.heap.size (by show wq.heap.size < (wq.alloc _).heap.size; simp)).trans (World.alloc_heap_new wq (.cells #[.bool true, .string (one.extract 2 one.size)] 102)); obtain ⟨y0, y1⟩ := two_new2 hX8; have hb88 : Below w.heap.size w w8 := (HBQ.out.alloc HBQ.out.size (.cells #[.bool true, .string (one.extract 2 one.size)] 102)).trans ⟨hb8.os, hb8.tape, hb8.output, hb8.size, fun k hk => hb8.block k (by have h5 := HBQ.out.size; show k < (wq.alloc _).heap.size; simp; omega)⟩; have hown8 := own_keep (hownq.alloc (.cells #[.bool true, .string (one.extract 2 one.size)] 102)) (⟨hb8.os, hb8.tape, hb8.output, hb8.size, hb8.block⟩ : Below (wq.alloc (.cells #[.bool true, .string (one.extract 2 one.size)] 102)).heap.size (wq.alloc (.cells #[.bool true, .string (one.extract 2 one.size)] 102)) w8))
                    refine bodyPost_ret (results_tmp3 rfl _ _ _) rfl ?_
                    rw [HE.out]
                    exact ⟨none, 0, rfl, Nat.le_refl _, .inl rfl, hb88⟩
              | false =>
                have e1 : (one[0] != 43) = true := by simp [bne, e0]
                have e3 : (one[0] != 45) = false := by
                  rw [e0, eq_comm, Bool.and_eq_true, Bool.false_or] at hok
                  simp [bne, hok.1]
                rw [e1] at b0
                rw [e3] at b1
                rw [e0] at b3 HOF
                clear hok hok2 e0 e1 e2 e3
                have hX2 : (2 : Int) ≤ (one.size : Int) := by omega
                have K2 := Lib.hid (K1.out false (one.extract 2 one.size) (by rw [extract_B, B_size, List.length_take, List.length_drop, L_len]; omega))
                go_wp2_with (go_at_call 118; refine (C1.out _).mono ?_; rintro e w1 ⟨rfl, nd, rfl⟩)
                have HBQ : Hid (Below w.heap.size w (wr.drewN nd)) := below_draw HBR.out
                have hownq : World.ownsRow (wr.drewN nd) _ _ _ _ _ _ := hown
                generalize wr.drewN nd = wq at *
                have hA := two_fresh wq
                obtain ⟨hA0, hA1, hA2, hA3⟩ := hA
                go_region_held3 (fun _ => True) (trivial) (fail)
                all_goals
                  have HPE : Hid (L (one.extract 2 one.size) = (L one).drop 2) := HEX.out.symm
                  by_cases h0 : ruleC (L (one.extract 2 one.size)) = 0
                  · have HN : Hid (readR 1 (L s) = preR (acc ++ [(false, L (one.extract 2 one.size))]) (readR (n + 1) (L (B t)))) := by
                      show _ = _
                      rw [HG.out, HEX.out, if_pos h0, preR_pre, HOF.out, L_B]
                    rw [h0] at K2
                    clear h0
                    go_wp2_with (first | (go_at_call 76; refine (K2.out _).mono ?_; rintro e w8 ⟨rfl, hb8⟩; have hX8 := (hb8.block wq.heap.size (by show wq.heap.size < (wq.alloc _).heap.size; simp)).trans (World.alloc_heap_new wq (.cells #[.bool false, .string (one.extract 2 one.size)] 102)); obtain ⟨y0, y1⟩ := two_new2 hX8; have hb88 : Below w.heap.size w w8 := (HBQ.out.alloc HBQ.out.size (.cells #[.bool false, .string (one.extract 2 one.size)] 102)).trans ⟨hb8.os, hb8.tape, hb8.output, hb8.size, fun k hk => hb8.block k (by have h5 := HBQ.out.size; show k < (wq.alloc _).heap.size; simp; omega)⟩; have hown8 := own_keep (hownq.alloc (.cells #[.bool false, .string (one.extract 2 one.size)] 102)) (⟨hb8.os, hb8.tape, hb8.output, hb8.size, hb8.block⟩ : Below (wq.alloc (.cells #[.bool false, .string (one.extract 2 one.size)] 102)).heap.size (wq.alloc (.cells #[.bool false, .string (one.extract 2 one.size)] 102)) w8)) | (at_builtin; refine wpList_app1 rfl _ _ 98 rfl elem_rule rfl (hown8.alloc _) (cs := [.bool false, .string (one.extract 2 one.size)]) rfl (heap_alloc_new _ _) rfl (by intro u hu; simp at hu; rcases hu with rfl | rfl <;> rfl) (by omega) (by omega) (by have := hb88.size; simp only [World.size_alloc]; omega) ?_; intro g9 cap9 w9 hown9 hgr9 hb9))
                    refine ⟨⟨B t, acc ++ [(false, L (one.extract 2 one.size))], n + 1, rfl, by first | rfl | go_num, by omega, by omega, by simp; omega, by rw [B_size]; omega, HN.out, ⟨some ⟨g9, 0, none⟩, cap9, by rw [List.length_append, List.length_singleton, hna], ?_⟩, (hb88.alloc hb88.size _).trans hb9⟩, by simp [strN]; omega⟩
                    rw [rulesV_app, List.length_append]
                    have h9 := hown9
                    rw [show [Value.bool false, .string (one.extract 2 one.size)] = [(false, L (one.extract 2 one.size))].flatMap rV by simp [rV, strV, B_L]] at h9
                    exact h9
                  · have HE : Hid (readR 1 (L s) = ([], (n : Int), ruleC (L (one.extract 2 one.size)))) := by
                      show _ = _
                      rw [HG.out, HEX.out, if_neg h0, preR_bad _ _ _ h0]
                    have hqc : (ruleC (L (one.extract 2 one.size)) != 0) = true := by simpa using h0
                    clear h0
                    generalize ruleC (L (one.extract 2 one.size)) = cc at *
                    go_wp2_with (go_at_call 76; refine (K2.out _).mono ?_; rintro e w8 ⟨rfl, hb8⟩; have hX8 := (hb8.block wq.heap.size (by show wq.heap.size < (wq.alloc _).heap.size; simp)).trans (World.alloc_heap_new wq (.cells #[.bool false, .string (one.extract 2 one.size)] 102)); obtain ⟨y0, y1⟩ := two_new2 hX8; have hb88 : Below w.heap.size w w8 := (HBQ.out.alloc HBQ.out.size (.cells #[.bool false, .string (one.extract 2 one.size)] 102)).trans ⟨hb8.os, hb8.tape, hb8.output, hb8.size, fun k hk => hb8.block k (by have h5 := HBQ.out.size; show k < (wq.alloc _).heap.size; simp; omega)⟩; have hown8 := own_keep (hownq.alloc (.cells #[.bool false, .string (one.extract 2 one.size)] 102)) (⟨hb8.os, hb8.tape, hb8.output, hb8.size, hb8.block⟩ : Below (wq.alloc (.cells #[.bool false, .string (one.extract 2 one.size)] 102)).heap.size (wq.alloc (.cells #[.bool false, .string (one.extract 2 one.size)] 102)) w8))
                    refine bodyPost_ret (results_tmp3 rfl _ _ _) rfl ?_
                    rw [HE.out]
                    exact ⟨none, 0, rfl, Nat.le_refl _, .inl rfl, hb88⟩
          · have hq2 : decide ((one.size : Int) < 2) = true := by simp; omega
            have HE := Lib.hid (HFORM.out (okL_short one h2))
            clear h2
            go_wp2_with (go_at_call 118; refine (C1.out _).mono ?_; rintro e w1 ⟨rfl, nd, rfl⟩)
            refine bodyPost_ret (results_tmp3 rfl _ _ _) rfl ?_
            rw [HE.out]
            exact ⟨none, 0, rfl, Nat.le_refl _, .inl rfl, below_draw HBR.out⟩
end Go.Proofs.Ytcapaiiegfedmaa
namespace Go.Proofs.Ytcapaiiegfedmaa
open Go.RowKit Go.Shelf
def slimR (r : RuleD) : Bool := decide (r.2.length ≤ 100)
def smallR (rs : List RuleD) : Bool := decide (rs.length ≤ 20) && rs.all slimR
set_option maxRecDepth 100000 in
set_option maxHeartbeats 2000000 in
theorem smallR_walk (A : Option Addr) (c : Nat) (rs : List RuleD) (w : World) (hx : Slc w A (rs.flatMap rV)) (hn : rs.length ≤ maxLen) :
    Calls Try.prog 69 #[.slice A rs.length c] w fun e w' => e = .returned (.bool (smallR rs)) ∧ w = w' := by
  have HX := Lib.hid hx
  clear hx
  by_cases h20 : rs.length ≤ 20
  case neg =>
    have hq : decide ((20 : Int) < (rs.length : Int)) = true := by simp; omega
    have HF : Hid (smallR rs = false) := by show _ = _; unfold smallR; simp [h20]
    go_enter Try.func69, Try.ntmps69
    go_wp2_with fail
    go_ret
    rw [HF.out]
    exact ⟨rfl, rfl⟩
  have hq : decide ((20 : Int) < (rs.length : Int)) = false := by simp; omega
  have HF : Hid (smallR rs = rs.all slimR) := by show _ = _; unfold smallR; simp [h20]
  go_enter Try.func69, Try.ntmps69
  go_wp2_with fail
  go_loop [3] (fun i => ∃ k : Nat, k ≤ rs.length ∧ i = .int .i64 k ∧ Hid ((rs.take k).all slimR = true)) (fun i => rs.length - (intOf i).toNat)
  case atStart => exact ⟨0, Nat.zero_le _, rfl, by rw [List.take_zero]; rfl⟩
  case round =>
    obtain ⟨k, hk, rfl, HP⟩ := hrel
    by_cases hlt : k < rs.length
    · obtain ⟨r, hrk⟩ : ∃ r, rs[k]? = some r := ⟨_, List.getElem?_eq_getElem hlt⟩
      obtain ⟨b, o, rfl, hlb, c0, c1⟩ := two_at rV (fun _ => rfl) HX.out hrk rfl
      have HT := Lib.hid (take_one_more rs k r hrk)
      have hm := List.mem_of_getElem? hrk
      have HE : Hid (slimR r = false → rs.all slimR = false) := by
        intro h
        rw [← Bool.not_eq_true, List.all_eq_true]
        intro h2
        rw [h2 r hm] at h; cases h
      have hi0 : (0 : Int) ≤ (k : Int) := Int.natCast_nonneg _
      have hi1 : (k : Int) < (rs.length : Int) := by omega
      have s1 : (B r.2).size = r.2.length := B_size _
      unfold strV at c1
      clear hrk hm c0
      generalize B r.2 = f at *
      by_cases h1 : f.size ≤ 100
      · have q1 : decide ((100 : Int) < (f.size : Int)) = false := by simp; omega
        have HN : Hid ((rs.take (k + 1)).all slimR = true) := by
          show _ = _
          rw [HT.out, List.all_append, HP.out]
          simp [slimR]; omega
        clear s1
        go_wp2_with fail
        go_round
        case rel => exact ⟨k + 1, by omega, by go_num, HN.out⟩
        case measure => simp [intOf]; omega
      · have q1 : decide ((100 : Int) < (f.size : Int)) = true := by simp; omega
        have HR := Lib.hid (HE.out (by unfold slimR; simp; omega))
        clear s1
        go_wp2_with fail
        go_ret
        rw [HF.out, HR.out]
        exact ⟨rfl, rfl⟩
    · obtain rfl : k = rs.length := by omega
      rw [List.take_length] at HP
      go_wp2_with fail
      go_ret
      rw [HF.out, HP.out]
      exact ⟨rfl, rfl⟩
def awR : List RuleD := [(false, [98, 47])]
set_option maxRecDepth 100000 in
theorem aw1 : readR 1 (L ⟨#[45, 32, 98, 47, 10]⟩) = (awR, 0, 0) := by decide +kernel
set_option maxRecDepth 100000 in
theorem aw2 : shutB awR (L ⟨#[97, 47, 98]⟩) true = true ∧ shutB awR (L ⟨#[97, 47, 98, 47, 99]⟩) false = true ∧ shutB awR (L ⟨#[97, 47, 98]⟩) false = false ∧ matchesB (L ⟨#[47, 98]⟩) (L ⟨#[97, 47, 98]⟩) true = false := by decide +kernel
theorem aw_parse (w : World) : Calls Try.prog 82 #[.string ⟨#[45, 32, 98, 47, 10]⟩] w fun e w' => ∃ A c, e = .returned (.tuple #[.slice A 1 c, .int .i64 0, .int .i64 0]) ∧ Slc w' A (awR.flatMap rV) ∧ Below w.heap.size w w' :=
  (ruleParse_walk ⟨#[45, 32, 98, 47, 10]⟩ (by decide) w).mono fun e w' ⟨A, c, he, _, hsl, hb⟩ => by
    rw [aw1] at he hsl
    exact ⟨A, c, he, hsl, hb⟩
theorem aw_shut (sh : ByteArray → Bool → Bool) (hsh : ∀ p d, sh p d = shutB awR (L p) d) (A : Option Addr) (c : Nat) (p : ByteArray) (d : Bool) (w : World) (hp : p.size ≤ 100000) (hx : Slc w A (awR.flatMap rV)) :
    Calls Try.prog 73 #[.slice A 1 c, .string p, .bool d] w fun e w' => e = .returned (.bool (sh p d)) ∧ Below w.heap.size w w' := by
  rw [hsh]
  exact shut_walk A c awR p d hp (by decide) (by decide) w hx
theorem aw_match (w : World) : Calls Try.prog 78 #[.agg #[.bool false, .string ⟨#[47, 98]⟩], .string ⟨#[97, 47, 98]⟩, .bool true] w fun e w' => e = .returned (.bool false) ∧ Below w.heap.size w w' := by
  have h := rmatches_walk false ⟨#[47, 98]⟩ ⟨#[97, 47, 98]⟩ true (by decide) (by decide) w
  rw [aw2.2.2.2] at h
  exact h
set_option maxRecDepth 100000 in
set_option maxHeartbeats 1000000 in
theorem rawake_walk (w : World) : Calls Try.prog 70 #[] w fun e w' => e = .returned (.bool true) ∧ Below w.heap.size w w' := by
  obtain ⟨sh, hsh⟩ : ∃ sh : ByteArray → Bool → Bool, ∀ p d, sh p d = shutB awR (L p) d := ⟨fun p d => shutB awR (L p) d, fun _ _ => rfl⟩
  have P1 := Lib.hid (fun W => aw_parse W)
  have S1 := Lib.hid (fun A c p d W hp hx => aw_shut sh hsh A c p d W hp hx)
  have M1 := Lib.hid (fun W => aw_match W)
  have a1 : sh ⟨#[97, 47, 98]⟩ true = true := (hsh _ _).trans aw2.1
  have a2 : sh ⟨#[97, 47, 98, 47, 99]⟩ false = true := (hsh _ _).trans aw2.2.1
  have a3 : sh ⟨#[97, 47, 98]⟩ false = false := (hsh _ _).trans aw2.2.2.1
  clear hsh
  go_enter Try.func70, Try.ntmps70
  go_wp2_with (first | (go_at_call 82; refine (P1.out _).mono ?_; rintro e w1 ⟨A, c, rfl, hsl, hb⟩) | (go_at_call 73; refine (S1.out _ _ _ _ _ (by decide) hsl).mono ?_; rintro e w2 ⟨rfl, hb2⟩; have hsl := hsl.keep hb2; have hb := hb.trans (hb2.mono hb.size)) | (go_at_call 78; refine (M1.out _).mono ?_; rintro e w3 ⟨rfl, hb3⟩))
  go_ret
  exact ⟨rfl, hb.trans (hb3.mono hb.size)⟩
end Go.Proofs.Ytcapaiiegfedmaa
