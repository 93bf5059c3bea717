/- rule.open, rule.Check: a rule taken apart. · journal: numbers, one line. -/
import Derived.Test.YtcapaiiegfedmaaRt17
namespace Go.Proofs.Ytcapaiiegfedmaa
open Go.RowKit Go.Shelf
def formV (c : Bs) (w d : Bool) (s : Value) : Value := .agg #[.string (B c), .bool w, .bool d, s]
def OpenRes (p : Bs) (e : Ending) (w' : World) : Prop :=
  match openB p with
  | none => e = .returned (.tuple #[.agg #[.string ⟨#[]⟩, .bool false, .bool false, .slice none 0 0], .int .i64 (ruleC p)])
  | some l => ∃ A c, e = .returned (.tuple #[.agg #[.string (B (coreB p)), .bool (wholeB p), .bool (dirB p), .slice A l.length c], .int .i64 0]) ∧ l.length ≤ c ∧ Slc w' A (partsV l)
theorem three_new (w : World) (x y z : Obj) : (((w.alloc x).alloc y).alloc z).heap[w.heap.size]? = some x ∧ (((w.alloc x).alloc y).alloc z).heap[w.heap.size + 1]? = some y ∧ (((w.alloc x).alloc y).alloc z).heap[w.heap.size + 1 + 1]? = some z := by
  have k1 : ∀ (W : World) (o o' : Obj) (b : Nat), W.heap[b]? = some o → (W.alloc o').heap[b]? = some o := fun W o o' b h => (Below.heap_alloc _ _ _ (Array.getElem?_eq_some_iff.1 h).1).trans h
  have k2 : ∀ (W : World) (o o' : Obj), ((W.alloc o).alloc o').heap[W.heap.size + 1]? = some o' := fun W o o' => by have := World.alloc_heap_new (W.alloc o) o'; rwa [World.size_alloc] at this
  refine ⟨k1 _ _ _ _ (k1 _ _ _ _ (World.alloc_heap_new w x)), k1 _ _ _ _ (k2 _ _ _), ?_⟩
  have := k2 (w.alloc x) y z
  rwa [World.size_alloc] at this
theorem cells4 {w : World} {b : Nat} {v0 v1 v2 v3 : Value} {t : TypeId} (h : w.heap[b]? = some (.cells #[v0, v1, v2, v3] t (0, 0))) :
    (w.cell? ⟨b, 0, none⟩ = some v0 ∧ w.cell? ⟨b, 1, none⟩ = some v1 ∧ w.cell? ⟨b, 2, none⟩ = some v2 ∧ w.cell? ⟨b, 3, none⟩ = some v3) ∧ (w.frozen? ⟨b, 0, none⟩ = false ∧ w.frozen? ⟨b, 1, none⟩ = false ∧ w.frozen? ⟨b, 2, none⟩ = false ∧ w.frozen? ⟨b, 3, none⟩ = false) := by
  simp [World.cell?, World.frozen?, h]
theorem set4_0 {w : World} {b : Nat} {u0 u1 u2 u3 : Value} {t : TypeId} (h : w.heap[b]? = some (.cells #[u0, u1, u2, u3] t (0, 0))) (v : Value) : (w.setCell ⟨b, 0, none⟩ v).heap[b]? = some (.cells #[v, u1, u2, u3] t (0, 0)) := by simp [World.setCell, Array.getElem?_modify, h]
theorem set4_1 {w : World} {b : Nat} {u0 u1 u2 u3 : Value} {t : TypeId} (h : w.heap[b]? = some (.cells #[u0, u1, u2, u3] t (0, 0))) (v : Value) : (w.setCell ⟨b, 1, none⟩ v).heap[b]? = some (.cells #[u0, v, u2, u3] t (0, 0)) := by simp [World.setCell, Array.getElem?_modify, h]
theorem set4_2 {w : World} {b : Nat} {u0 u1 u2 u3 : Value} {t : TypeId} (h : w.heap[b]? = some (.cells #[u0, u1, u2, u3] t (0, 0))) (v : Value) : (w.setCell ⟨b, 2, none⟩ v).heap[b]? = some (.cells #[u0, u1, v, u3] t (0, 0)) := by simp [World.setCell, Array.getElem?_modify, h]
theorem set4_3 {w : World} {b : Nat} {u0 u1 u2 u3 : Value} {t : TypeId} (h : w.heap[b]? = some (.cells #[u0, u1, u2, u3] t (0, 0))) (v : Value) : (w.setCell ⟨b, 3, none⟩ v).heap[b]? = some (.cells #[u0, u1, u2, v] t (0, 0)) := by simp [World.setCell, Array.getElem?_modify, h]
theorem set_far {w : World} {b b' i : Nat} {o : Obj} {v : Value} (h : w.heap[b']? = some o) (hne : b' ≠ b) : (w.setCell ⟨b, i, none⟩ v).heap[b']? = some o := (Below.heap_setCell w ⟨b, i, none⟩ v b' hne).trans h
theorem partsV_len (l : List Part) : (partsV l).length = 257 * l.length := by
  induction l with
  | nil => rfl
  | cons p t ih => rw [show partsV (p :: t) = (partV p).toList ++ partsV t from rfl, List.length_append, ih, Array.length_toList, partV_size]; simp only [List.length_cons]; omega
theorem parts_set {W : World} {A : Option Addr} {l : List Part} {b i : Nat} {v v0 v1 v2 v3 : Value} {t : TypeId} (h : Slc W A (partsV l)) (hb : W.heap[b]? = some (.cells #[v0, v1, v2, v3] t (0, 0))) : Slc (W.setCell ⟨b, i, none⟩ v) A (partsV l) := by
  rcases h with h | ⟨g, o, rfl, hlt, hcell⟩
  · exact .inl h
  · by_cases hl : l = []
    · subst hl; exact .inl rfl
    · have hlen := partsV_len l
      have hpos := List.length_pos_iff.2 hl
      have hgb : g ≠ b := by
        rintro rfl
        have h2 := hcell 256 ((partsV l)[256]'(by omega)) (List.getElem?_eq_getElem (by omega))
        simp only [World.cell?, hb] at h2
        rw [Array.getElem?_eq_none (by simp)] at h2
        cases h2
      refine .inr ⟨g, o, rfl, by simpa [World.setCell] using hlt, fun j u hu => ?_⟩
      have h3 := hcell j u hu
      have h4 := Below.heap_setCell W ⟨b, i, none⟩ v g hgb
      unfold World.cell? at h3 ⊢
      simp only at h3 ⊢
      rw [h4]; exact h3
theorem open_long (p : Bs) (h : 64 < p.length) : openB p = none ∧ ruleC p = 5 := ⟨by unfold openB; rw [if_pos h], by unfold ruleC; rw [if_pos h]⟩
theorem open_bad (p : Bs) (h : ¬ 64 < p.length) (h2 : parseB (coreB p) = none ∨ coreB p = []) : openB p = none ∧ ruleC p = 3 := by
  have h3 : openB p = none := by
    unfold openB
    rw [if_neg h]
    rcases h2 with h2 | h2
    · split
      · rfl
      · exact h2
    · rw [if_pos h2]
  exact ⟨h3, by unfold ruleC; rw [if_neg h, h3]⟩
theorem open_good (p : Bs) (l : List Part) (h : ¬ 64 < p.length) (h2 : parseB (coreB p) = some l) (h3 : coreB p ≠ []) : openB p = some l ∧ ruleC p = 0 := by
  have h4 : openB p = some l := by unfold openB; rw [if_neg h, if_neg h3, h2]
  exact ⟨h4, by unfold ruleC; rw [if_neg h, h4]⟩
theorem core1_len (p : Bs) : (core1 p).length ≤ p.length := by
  unfold core1
  split <;> simp
theorem core_len (p : Bs) : (coreB p).length ≤ p.length := by
  unfold coreB core1
  split <;> split <;> simp <;> omega
theorem new2 (W : World) (o o' : Obj) : ((W.alloc o).alloc o').heap[W.heap.size + 1]? = some o' := by have := World.alloc_heap_new (W.alloc o) o'; rwa [World.size_alloc] at this
theorem lt_o {w : World} {b : Nat} {o : Obj} (h : w.heap[b]? = some o) : b < w.heap.size := (Array.getElem?_eq_some_iff.1 h).1
theorem kept_o {w : World} {b : Nat} {o : Obj} (h : w.heap[b]? = some o) (x : Obj) : (w.alloc x).heap[b]? = some o := (Below.heap_alloc _ _ _ (lt_o h)).trans h
theorem open_end {W : World} {b : Nat} {v0 v1 v2 v3 : Value} {n : Int} {R : Ending → World → Prop} (tmps : Array Value) (h2 : tmps.getD 2 undef = .pointer (some ⟨b, 0, none⟩)) (h3 : tmps.getD 3 undef = .int .i64 n)
    (hX : W.heap[b]? = some (.cells #[v0, v1, v2, v3] 156 (0, 0))) (hR : R (.returned (.tuple #[.agg #[v0, v1, v2, v3], .int .i64 n])) W) :
    bodyPost Try.prog Try.f114 R .ret { tmps := tmps, defers := [] } W := by
  refine bodyPost_ret (v := .tuple #[.agg #[v0, v1, v2, v3], .int .i64 n]) ?_ rfl hR
  obtain ⟨⟨z0, z1, z2, z3⟩, _⟩ := cells4 hX
  simp only [Array.getD_eq_getD_getElem?] at h2 h3
  simp [results, Try.results114, h2, h3, go_sem, z0, z1, z2, z3, loadVar]
theorem openRes_none {p : Bs} {n : Int} {w : World} (h : openB p = none ∧ ruleC p = n) : OpenRes p (.returned (.tuple #[.agg #[.string ⟨#[]⟩, .bool false, .bool false, .slice none 0 0], .int .i64 n])) w := by
  unfold OpenRes; rw [h.1, h.2]
theorem openRes_some {p : Bs} {l : List Part} {w : World} (h : openB p = some l) {c : Bs} {wh d : Bool} {A : Option Addr} {cap : Nat} (hc : c = coreB p) (hw : wh = wholeB p) (hd : d = dirB p) (hl : l.length ≤ cap) (hs : Slc w A (partsV l)) :
    OpenRes p (.returned (.tuple #[.agg #[.string (B c), .bool wh, .bool d, .slice A l.length cap], .int .i64 0])) w := by
  unfold OpenRes; rw [h, hc, hw, hd]; exact ⟨A, cap, rfl, hl, hs⟩
set_option maxRecDepth 100000 in
set_option maxHeartbeats 4000000 in
theorem ropen_walk (k : Bool) (p : ByteArray) (hp : p.size ≤ 100000) (w : World) : Calls Try.prog 114 #[.agg #[.bool k, .string p]] w fun e w' => OpenRes (L p) e w' ∧ Below w.heap.size w w' := by
  by_cases h64 : 64 < p.size
  · have hq : decide ((64 : Int) < (p.size : Int)) = true := by simp; omega
    have HO := Lib.hid (open_long (L p) (by rw [L_len]; exact h64))
    go_enter Try.func114, Try.ntmps114
    go_wp2_with fail
    exact open_end _ rfl rfl (new2 _ _ _) ⟨openRes_none HO.out, ((Below.refl _ w).alloc (Nat.le_refl _) _).alloc (by simp) _⟩
  · have hq : decide ((64 : Int) < (p.size : Int)) = false := by simp; omega
    have HN64 := Lib.hid (show ¬ 64 < (L p).length by rw [L_len]; exact h64)
    have S1 := Lib.hid (fun W => scp_walk p hp W)
    have hl1 : (B (core1 (L p))).size ≤ 100000 := by rw [B_size]; have h := core1_len (L p); rw [L_len] at h; omega
    have S2 := Lib.hid (fun W => scs_walk (B (core1 (L p))) hl1 W)
    rw [L_B, ← dirB_eq, ← coreB_eq] at S2
    have hl2 : (B (coreB (L p))).size ≤ 64 := by have := core_len (L p); rw [L_len] at this; rw [B_size]; omega
    have P1 := Lib.hid (fun W => parse_walk (B (coreB (L p))) (by omega) W)
    rw [L_B] at P1
    have h5 : ¬ 64 < (B (coreB (L p))).size := by omega
    have hemp : ((B (coreB (L p))).toList == []) = decide (coreB (L p) = []) := by rw [L_toList, L_B]; cases coreB (L p) <;> simp
    obtain ⟨W, hW⟩ : ∃ W, ((w.alloc (.cells #[.bool k, .string p] 102)).alloc (.cells #[.string ⟨#[]⟩, .bool false, .bool false, .slice none 0 0] 156)).alloc (.cells #[.string ⟨#[]⟩, .bool false, .bool false, .slice none 0 0] 156) = W := ⟨_, rfl⟩
    have hX := three_new w (.cells #[.bool k, .string p] 102) (.cells #[.string ⟨#[]⟩, .bool false, .bool false, .slice none 0 0] 156) (.cells #[.string ⟨#[]⟩, .bool false, .bool false, .slice none 0 0] 156)
    rw [hW] at hX
    obtain ⟨hX0, hX1, hX2⟩ := hX
    have hbw : Below w.heap.size w W := by rw [← hW]; exact (((Below.refl _ w).alloc (Nat.le_refl _) _).alloc (by simp) _).alloc (by simp; omega) _
    have HW := Lib.hid hW
    clear hW h64 hl1 hl2
    obtain ⟨wh, hwh⟩ : ∃ wh, wholeB (L p) = wh := ⟨_, rfl⟩
    obtain ⟨di, hdi⟩ : ∃ di, dirB (L p) = di := ⟨_, rfl⟩
    rw [hwh] at S1
    rw [hdi] at S2
    have HWH := Lib.hid hwh
    have HDI := Lib.hid hdi
    clear hwh hdi
    obtain ⟨co, hco⟩ : ∃ co, coreB (L p) = co := ⟨_, rfl⟩
    rw [hco] at S2 P1 h5 hemp
    have HCO := Lib.hid hco
    clear hco
    generalize core1 (L p) = c1 at *
    generalize hs : w.heap.size = s at *
    obtain ⟨⟨z0, z1, z2, z3⟩, ⟨f0, f1, f2, f3⟩⟩ := cells4 hX2
    obtain ⟨X, hXe⟩ : ∃ X, (((W.setCell ⟨s + 1 + 1, 0, none⟩ (.string (B c1))).setCell ⟨s + 1 + 1, 1, none⟩ (.bool wh)).setCell ⟨s + 1 + 1, 0, none⟩ (.string (B co))).setCell ⟨s + 1 + 1, 2, none⟩ (.bool di) = X := ⟨_, rfl⟩
    have hY2 := set4_2 (set4_0 (set4_1 (set4_0 hX2 (.string (B c1))) (.bool wh)) (.string (B co))) (.bool di)
    have hY1 := set_far (b := s + 1 + 1) (i := 2) (v := .bool di) (set_far (b := s + 1 + 1) (i := 0) (v := .string (B co)) (set_far (b := s + 1 + 1) (i := 1) (v := .bool wh) (set_far (b := s + 1 + 1) (i := 0) (v := .string (B c1)) hX1 (by omega)) (by omega)) (by omega)) (by omega)
    have hbx := (((hbw.setCell (p := ⟨s + 1 + 1, 0, none⟩) (by show s ≤ s + 1 + 1; omega) (.string (B c1))).setCell (p := ⟨s + 1 + 1, 1, none⟩) (by show s ≤ s + 1 + 1; omega) (.bool wh)).setCell (p := ⟨s + 1 + 1, 0, none⟩) (by show s ≤ s + 1 + 1; omega) (.string (B co))).setCell (p := ⟨s + 1 + 1, 2, none⟩) (by show s ≤ s + 1 + 1; omega) (.bool di)
    rw [hXe] at hY1 hY2 hbx
    obtain ⟨⟨t0, t1, t2, t3⟩, _⟩ := cells4 hY2
    cases hpa : parseB co with
    | none =>
      have HO := Lib.hid (open_bad (L p) HN64.out (.inl (by rw [HCO.out]; exact hpa)))
      have P2 : Hid (∀ W, Calls Try.prog 86 #[.string (B co)] W fun e w' => e = .returned (.tuple #[.agg #[.slice none 0 0], .int .i64 3]) ∧ Below W.heap.size W w') := fun W => (P1.out W).mono fun e w' h => by
        rw [hpa] at h; unfold ParseRes at h; rw [if_neg h5] at h; exact h
      clear hpa P1 h5
      go_enter Try.func114, Try.ntmps114
      go_wp2_with (first | (go_at_call 137; refine (S1.out _).mono ?_; rintro e w1 ⟨rfl, rfl⟩; rw [HW.out]) | (go_at_call 138; refine (S2.out _).mono ?_; rintro e w2 ⟨rfl, rfl⟩) | (go_at_call 86; refine (P2.out _).mono ?_; rintro e w9 ⟨rfl, hb9⟩; obtain ⟨Z, hZ⟩ : ∃ Z, w9.alloc (.cells #[.slice none 0 0] 118) = Z := ⟨_, rfl⟩; have hZ1 : Z.heap[s + 1]? = some (.cells #[.string ⟨#[]⟩, .bool false, .bool false, .slice none 0 0] 156 (0, 0)) := (by rw [← hZ]; exact kept_o ((hb9.block _ (lt_o hY1)).trans hY1) _); have hZ2 : Z.heap[s + 1 + 1]? = some (.cells #[.string (B co), .bool wh, .bool di, .slice none 0 0] 156 (0, 0)) := (by rw [← hZ]; exact kept_o ((hb9.block _ (lt_o hY2)).trans hY2) _); have hZ5 : Z.heap[w9.heap.size]? = some (.cells #[.slice none 0 0] 118 (0, 0)) := (by rw [← hZ]; exact World.alloc_heap_new _ _); have hbz : Below s w Z := (by rw [← hZ]; exact (hbx.trans (hb9.mono (by have := hbx.size; omega))).alloc (by have := hbx.size; have := hb9.size; omega) _); have hz5 := cell1 hZ5; have hf5 := free1 hZ5; have hsz9 : s + 1 + 1 < w9.heap.size := (lt_o ((hb9.block _ (lt_o hY2)).trans hY2)); obtain ⟨Y, hY⟩ : ∃ Y, Z.setCell ⟨w9.heap.size, 0, none⟩ (.slice none 0 0) = Y := ⟨_, rfl⟩; have hV1 := set_far (b := w9.heap.size) (i := 0) (v := .slice none 0 0) hZ1 (by omega); have hV2 := set_far (b := w9.heap.size) (i := 0) (v := .slice none 0 0) hZ2 (by omega); have hbz := hbz.setCell (p := ⟨w9.heap.size, 0, none⟩) (by show s ≤ w9.heap.size; omega) (.slice none 0 0); rw [hY] at hV1 hV2 hbz; obtain ⟨⟨y0, y1, y2, y3⟩, ⟨g0, g1, g2, g3⟩⟩ := cells4 hV2; obtain ⟨⟨x0, x1, x2, x3⟩, ⟨k0, k1, k2, k3⟩⟩ := cells4 hV1; clear hZ1 hZ2))
      have hF := set4_3 (set4_2 (set4_1 (set4_0 hV1 (.string ⟨#[]⟩)) (.bool false)) (.bool false)) (.slice none 0 0)
      refine open_end (n := 3) _ rfl rfl hF ?_
      exact ⟨openRes_none HO.out, (((hbz.setCell (p := ⟨s + 1, 0, none⟩) (by show s ≤ s + 1; omega) _).setCell (p := ⟨s + 1, 1, none⟩) (by show s ≤ s + 1; omega) _).setCell (p := ⟨s + 1, 2, none⟩) (by show s ≤ s + 1; omega) _).setCell (p := ⟨s + 1, 3, none⟩) (by show s ≤ s + 1; omega) _⟩
    | some l =>
      have P2 : Hid (∀ W, Calls Try.prog 86 #[.string (B co)] W fun e w' => (∃ A c, e = .returned (.tuple #[.agg #[.slice A l.length c], .int .i64 0]) ∧ l.length ≤ c ∧ Slc w' A (partsV l)) ∧ Below W.heap.size W w') := fun W => (P1.out W).mono fun e w' h => by
        rw [hpa] at h; exact h
      by_cases hco : co = []
      · have HO := Lib.hid (open_bad (L p) HN64.out (.inr (by rw [HCO.out]; exact hco)))
        have hem2 : ((B co).toList == []) = true := by rw [hemp]; simpa using hco
        clear hpa P1 h5 hemp hco
        go_enter Try.func114, Try.ntmps114
        go_wp2_with (first | (go_at_call 137; refine (S1.out _).mono ?_; rintro e w1 ⟨rfl, rfl⟩; rw [HW.out]) | (go_at_call 138; refine (S2.out _).mono ?_; rintro e w2 ⟨rfl, rfl⟩) | (go_at_call 86; refine (P2.out _).mono ?_; rintro e w9 ⟨⟨A1, q1, rfl, hq1, hs1⟩, hb9⟩; obtain ⟨Z, hZ⟩ : ∃ Z, w9.alloc (.cells #[.slice A1 l.length q1] 118) = Z := ⟨_, rfl⟩; have hZ1 : Z.heap[s + 1]? = some (.cells #[.string ⟨#[]⟩, .bool false, .bool false, .slice none 0 0] 156 (0, 0)) := (by rw [← hZ]; exact kept_o ((hb9.block _ (lt_o hY1)).trans hY1) _); have hZ2 : Z.heap[s + 1 + 1]? = some (.cells #[.string (B co), .bool wh, .bool di, .slice none 0 0] 156 (0, 0)) := (by rw [← hZ]; exact kept_o ((hb9.block _ (lt_o hY2)).trans hY2) _); have hZ5 : Z.heap[w9.heap.size]? = some (.cells #[.slice A1 l.length q1] 118 (0, 0)) := (by rw [← hZ]; exact World.alloc_heap_new _ _); have hbz : Below s w Z := (by rw [← hZ]; exact (hbx.trans (hb9.mono (by have := hbx.size; omega))).alloc (by have := hbx.size; have := hb9.size; omega) _); have hz5 := cell1 hZ5; obtain ⟨⟨y0, y1, y2, y3⟩, ⟨g0, g1, g2, g3⟩⟩ := cells4 hZ2; obtain ⟨⟨x0, x1, x2, x3⟩, ⟨k0, k1, k2, k3⟩⟩ := cells4 hZ1))
        have hF := set4_3 (set4_2 (set4_1 (set4_0 hZ1 (.string ⟨#[]⟩)) (.bool false)) (.bool false)) (.slice none 0 0)
        refine open_end (n := 3) _ rfl rfl hF ?_
        exact ⟨openRes_none HO.out, (((hbz.setCell (p := ⟨s + 1, 0, none⟩) (by show s ≤ s + 1; omega) _).setCell (p := ⟨s + 1, 1, none⟩) (by show s ≤ s + 1; omega) _).setCell (p := ⟨s + 1, 2, none⟩) (by show s ≤ s + 1; omega) _).setCell (p := ⟨s + 1, 3, none⟩) (by show s ≤ s + 1; omega) _⟩
      · have HO := Lib.hid (open_good (L p) l HN64.out (by rw [HCO.out]; exact hpa) (by rw [HCO.out]; exact hco))
        have hem2 : ((B co).toList == []) = false := by rw [hemp]; simpa using hco
        clear hpa P1 h5 hemp hco
        go_enter Try.func114, Try.ntmps114
        go_wp2_with (first | (go_at_call 137; refine (S1.out _).mono ?_; rintro e w1 ⟨rfl, rfl⟩; rw [HW.out]) | (go_at_call 138; refine (S2.out _).mono ?_; rintro e w2 ⟨rfl, rfl⟩) | (go_at_call 86; refine (P2.out _).mono ?_; rintro e w9 ⟨⟨A1, q1, rfl, hq1, hs1⟩, hb9⟩; obtain ⟨Z, hZ⟩ : ∃ Z, w9.alloc (.cells #[.slice A1 l.length q1] 118) = Z := ⟨_, rfl⟩; have hZ1 : Z.heap[s + 1]? = some (.cells #[.string ⟨#[]⟩, .bool false, .bool false, .slice none 0 0] 156 (0, 0)) := (by rw [← hZ]; exact kept_o ((hb9.block _ (lt_o hY1)).trans hY1) _); have hZ2 : Z.heap[s + 1 + 1]? = some (.cells #[.string (B co), .bool wh, .bool di, .slice none 0 0] 156 (0, 0)) := (by rw [← hZ]; exact kept_o ((hb9.block _ (lt_o hY2)).trans hY2) _); have hZ5 : Z.heap[w9.heap.size]? = some (.cells #[.slice A1 l.length q1] 118 (0, 0)) := (by rw [← hZ]; exact World.alloc_heap_new _ _); have hbz : Below s w Z := (by rw [← hZ]; exact (hbx.trans (hb9.mono (by have := hbx.size; omega))).alloc (by have := hbx.size; have := hb9.size; omega) _); have hz5 := cell1 hZ5; obtain ⟨⟨y0, y1, y2, y3⟩, ⟨g0, g1, g2, g3⟩⟩ := cells4 hZ2; obtain ⟨⟨x0, x1, x2, x3⟩, ⟨k0, k1, k2, k3⟩⟩ := cells4 hZ1))
        have hF := set4_3 (set4_2 (set4_1 (set4_0 (set_far (b := s + 1 + 1) (i := 3) (v := .slice A1 l.length q1) hZ1 (by omega)) (.string (B co))) (.bool wh)) (.bool di)) (.slice A1 l.length q1)
        have hbe := ((((hbz.setCell (p := ⟨s + 1 + 1, 3, none⟩) (by show s ≤ s + 1 + 1; omega) (.slice A1 l.length q1)).setCell (p := ⟨s + 1, 0, none⟩) (by show s ≤ s + 1; omega) (.string (B co))).setCell (p := ⟨s + 1, 1, none⟩) (by show s ≤ s + 1; omega) (.bool wh)).setCell (p := ⟨s + 1, 2, none⟩) (by show s ≤ s + 1; omega) (.bool di)).setCell (p := ⟨s + 1, 3, none⟩) (by show s ≤ s + 1; omega) (.slice A1 l.length q1)
        have hq2 := set_far (b := s + 1 + 1) (i := 3) (v := .slice A1 l.length q1) hZ1 (by omega)
        have hq3 := set4_0 hq2 (.string (B co))
        have hq4 := set4_1 hq3 (.bool wh)
        have hq5 := set4_2 hq4 (.bool di)
        have hsZ : Slc Z A1 (partsV l) := by rw [← hZ]; exact hs1.keep ((Below.refl _ w9).alloc (Nat.le_refl _) _)
        have hsF := parts_set (i := 3) (v := .slice A1 l.length q1) (parts_set (i := 2) (v := .bool di) (parts_set (i := 1) (v := .bool wh) (parts_set (i := 0) (v := .string (B co)) (parts_set (i := 3) (v := .slice A1 l.length q1) hsZ hZ2) hq2) hq3) hq4) hq5
        refine open_end (n := 0) _ rfl rfl hF ?_
        exact ⟨openRes_some HO.out.1 HCO.out.symm HWH.out.symm HDI.out.symm hq1 hsF, hbe⟩
end Go.Proofs.Ytcapaiiegfedmaa
namespace Go.Proofs.Ytcapaiiegfedmaa
open Go.RowKit Go.Shelf
def valB (l : Bs) : Nat := l.foldl (fun n c => 10 * n + (c.toNat - 48)) 0
theorem valB_snoc (l : Bs) (c : UInt8) : valB (l ++ [c]) = 10 * valB l + (c.toNat - 48) := by unfold valB; rw [List.foldl_append]; rfl
theorem dg_nat (d : Nat) (h : d < 10) : (dg d).toNat = 48 + d := by
  unfold dg
  rw [UInt8.toNat_ofNat']; omega
theorem dig_ne (n : Nat) : digB n ≠ [] := by
  by_cases h : n < 10
  · rw [digB_lt n h]; simp
  · rw [digB_ge n h]; simp
theorem val_dig (n : Nat) : valB (digB n) = n := by
  induction n using Nat.strongRecOn with
  | _ n ih =>
    by_cases h : n < 10
    · rw [digB_lt n h, show [dg n] = [] ++ [dg n] from rfl, valB_snoc, dg_nat n h]
      show 10 * 0 + (48 + n - 48) = n
      omega
    · rw [digB_ge n h, valB_snoc, ih (n / 10) (by omega), dg_nat _ (by omega)]; omega
theorem dig_digit (n : Nat) : ∀ c ∈ digB n, 48 ≤ c.toNat ∧ c.toNat ≤ 57 := by
  induction n using Nat.strongRecOn with
  | _ n ih =>
    intro c hc
    by_cases h : n < 10
    · rw [digB_lt n h, List.mem_singleton] at hc
      rw [hc, dg_nat n h]; omega
    · rw [digB_ge n h, List.mem_append, List.mem_singleton] at hc
      rcases hc with hc | hc
      · exact ih (n / 10) (by omega) c hc
      · rw [hc, dg_nat _ (by omega)]; omega
theorem dig_front (n i : Nat) (h : i < (digB n).length) : valB ((digB n).take i) ≤ n / 10 := by
  induction n using Nat.strongRecOn generalizing i with
  | _ n ih =>
    by_cases h10 : n < 10
    · rw [digB_lt n h10] at h ⊢
      have : i = 0 := by simpa using h
      subst this; exact Nat.zero_le _
    · rw [digB_ge n h10] at h ⊢
      rw [List.length_append] at h
      by_cases hi : i < (digB (n / 10)).length
      · rw [List.take_append_of_le_length (by omega)]
        have := ih (n / 10) (by omega) i hi
        omega
      · have hi' : i = (digB (n / 10)).length := by simp at h; omega
        rw [hi', List.take_left, val_dig]; exact Nat.le_refl _
/-- what 'number' tells of a text -/
def NumIs (s : Bs) (n : Int) (ok : Bool) : Prop := (ok = true → ∃ m : Nat, n = (m : Int) ∧ m ≤ 2147483647 ∧ digB m = s) ∧ (ok = false → ∀ m : Nat, m ≤ 2147483647 → digB m ≠ s)
theorem val_next (s : ByteArray) (k : Nat) (h : k < s.size) : valB ((L s).take (k + 1)) = 10 * valB ((L s).take k) + (s[k].toNat - 48) := by rw [take_next s k h, valB_snoc]
theorem num_stop (s : ByteArray) (k : Nat) (h : k < s.size) (hc : s[k].toNat < 48 ∨ 57 < s[k].toNat ∨ 214748364 < valB ((L s).take k)) (n : Int) : NumIs (L s) n false := by
  refine ⟨by simp, fun _ m hm he => ?_⟩
  have hk : k < (L s).length := by rw [L_len]; exact h
  have hd := dig_digit m s[k] (by rw [he]; exact List.getElem_mem hk)
  have hf := dig_front m k (by rw [he]; exact hk)
  rw [he] at hf
  omega
theorem num_end (s : Bs) (ok : Bool) (h : ok = (decide (s ≠ []) && decide (valB s ≤ 2147483647) && decide (digB (valB s) = s))) : NumIs s (valB s : Int) ok := by
  subst h
  refine ⟨fun h => ?_, fun h m hm he => ?_⟩
  · simp only [Bool.and_eq_true, decide_eq_true_eq] at h
    exact ⟨valB s, rfl, h.1.2, h.2⟩
  · have h1 : valB s = m := by rw [← he, val_dig]
    have h2 : s ≠ [] := by rw [← he]; exact dig_ne m
    rw [h1, he] at h
    simp [h2, hm] at h
def NumRes (s : Bs) (e : Ending) : Prop := ∃ (n : Int) (ok : Bool), e = .returned (.tuple #[.int .i64 n, .bool ok]) ∧ NumIs s n ok
set_option maxRecDepth 100000 in
theorem number_walk (s : ByteArray) (hs : s.size ≤ 100000) (w : World) : Calls Try.prog 147 #[.string s] w fun e w' => NumRes (L s) e ∧ w = w' := by
  go_enter Try.func147, Try.ntmps147
  go_wp2_with fail
  go_loop [4, 8] (fun v i => ∃ k n : Nat, k ≤ s.size ∧ i = .int .i64 k ∧ v = .int .i64 n ∧ n = valB ((L s).take k) ∧ n ≤ 2147483649) (fun _ i => s.size - (intOf i).toNat)
  case atStart => exact ⟨0, 0, Nat.zero_le _, rfl, rfl, rfl, by omega⟩
  case round =>
    obtain ⟨k, n, hk, rfl, rfl, hn, hb⟩ := hrel
    by_cases hlt : k < s.size
    · have HV := Lib.hid (val_next s k hlt)
      have HS := Lib.hid (num_stop s k hlt)
      have hb8 := s[k].toNat_lt
      rw [← hn] at HV HS
      clear hn
      by_cases h1 : s[k].toNat < 48
      · have q1 : decide ((s[k].toNat : Int) < 48) = true := by simp; omega
        go_wp2_with fail
        go_ret2
        exact ⟨⟨_, _, rfl, HS.out (.inl h1) _⟩, rfl⟩
      · have q1 : decide ((s[k].toNat : Int) < 48) = false := by simp; omega
        by_cases h2 : 57 < s[k].toNat
        · have q2 : decide ((57 : Int) < (s[k].toNat : Int)) = true := by simp; omega
          go_wp2_with fail
          go_ret2
          exact ⟨⟨_, _, rfl, HS.out (.inr (.inl h2)) _⟩, rfl⟩
        · have q2 : decide ((57 : Int) < (s[k].toNat : Int)) = false := by simp; omega
          by_cases h3 : 214748364 < n
          · have q3 : decide ((214748364 : Int) < (n : Int)) = true := by simp; omega
            go_wp2_with fail
            go_ret2
            exact ⟨⟨_, _, rfl, HS.out (.inr (.inr h3)) _⟩, rfl⟩
          · have q3 : decide ((214748364 : Int) < (n : Int)) = false := by simp; omega
            obtain ⟨d, hd⟩ : ∃ d : Nat, s[k].toNat = 48 + d := ⟨s[k].toNat - 48, by omega⟩
            go_wp2_with fail
            go_round
            case rel => exact ⟨k + 1, 10 * n + d, by omega, by go_num, by go_num, by rw [HV.out]; omega, by omega⟩
            case measure => simp [intOf]; omega
    · have hk' : k = s.size := by omega
      subst hk'
      rw [take_whole] at hn
      have HN := Lib.hid (num_end (L s))
      rw [← hn] at HN
      clear hn hlt
      cases he : s.toList.isEmpty with
      | true =>
        have h0 : L s = [] := by rw [L_toList] at he; simpa using he
        have HF : Hid (NumIs (L s) (n : Int) false) := HN.out false (by rw [h0]; rfl)
        clear HN h0
        go_wp2_with fail
        go_ret2
        exact ⟨⟨_, _, rfl, HF.out⟩, rfl⟩
      | false =>
        have h0 : L s ≠ [] := by rw [L_toList] at he; simpa using he
        by_cases h4 : (n : Int) ≤ 2147483647
        · have HF : Hid (NumIs (L s) (n : Int) ((B (digB n)).toList == s.toList)) := HN.out _ (by
            rw [L_toList, L_toList, L_B, Bool.eq_iff_iff]; simp [h0]; intro _; omega)
          have D1 := Lib.hid (digits_walk n (by omega) w)
          clear HN h0
          generalize B (digB n) = d at *
          go_wp2_with fail
          refine D1.out.mono ?_
          rintro e w1 ⟨rfl, rfl⟩
          go_wp2_with fail
          go_ret2
          exact ⟨⟨_, _, rfl, HF.out⟩, rfl⟩
        · have q4 : decide ((n : Int) ≤ 2147483647) = false := by simp; omega
          have HF : Hid (NumIs (L s) (n : Int) false) := HN.out false (by
            have : decide (n ≤ 2147483647) = false := by simp; omega
            rw [this]; simp)
          clear HN h0
          go_wp2_with fail
          go_ret2
          exact ⟨⟨_, _, rfl, HF.out⟩, rfl⟩
end Go.Proofs.Ytcapaiiegfedmaa
