/- flittingref28.Read: the edit whose line it is. (printed by gen_r28read.py) -/
import Derived.Test.YtcapaiiegfedmaaDoorDP
import Derived.Deep.LoopGhost
namespace Go.Proofs.YtcapaiiegfedmaaDoor
open Go.RowKit Go.Shelf
def atT (k : Int) (w : List Bs) : Nat := if fromE k && decide (1 < w.length) then 2 else 1
def fOf (k : Int) (w : List Bs) : Bs := if fromE k && decide (1 < w.length) then (w[1]?).getD [] else []
def tOf (k : Int) (w : List Bs) : Bs := if toE k && decide (atT k w < w.length) then (w[atT k w]?).getD [] else []
theorem of_line (k : Int) (f t : Bs) (n : Int) (h : rightE k f t n = true) (s : Bs) (hs : lineE k f t n = s) : fOf k (splS s) = f ∧ tOf k (splS s) = t ∧ (splS s)[0]? = some (wordE k) := by
  subst hs
  rw [line_words k f t n h]
  obtain ⟨_, _, _, a4, a5, _⟩ := right_parts k f t n h
  unfold fOf tOf atT wordsL lineL
  cases hf : fromE k <;> cases ht : toE k <;> cases hn : nE k <;> simp only [hf, ht] at a4 a5 <;> simp at a4 a5 <;> simp [*]
def edV (o : Option EditD) : Array Value :=
  match o with
  | some e => #[.int .i64 e.1, .string (B e.2.1), .string (B e.2.2.1), .int .i64 e.2.2.2]
  | none => #[.int .i64 0, .string ⟨#[]⟩, .string ⟨#[]⟩, .int .i64 0]
theorem keep1 {w w' : World} {p : Addr} {v : Value} (hb : Below w.heap.size w w') (h : w.cell? p = some v) : w'.cell? p = some v := (hb.cell (World.block_lt_of_cell? w p h)).trans h
theorem far1 {w : World} {b i g x : Nat} {u v : Value} (hn : g ≠ b) (h : w.cell? ⟨g, x, none⟩ = some v) : (w.setCell ⟨b, i, none⟩ u).cell? ⟨g, x, none⟩ = some v := by
  have e : (w.setCell ⟨b, i, none⟩ u).heap[g]? = w.heap[g]? := Below.heap_setCell _ _ _ _ hn
  exact (World.cell?_of_block (a := ⟨g, x, none⟩) e).trans h
theorem far_block {w : World} {b i g : Nat} {u : Value} {ob : Obj} (hn : g ≠ b) (h : w.heap[g]? = some ob) : (w.setCell ⟨b, i, none⟩ u).heap[g]? = some ob := (Below.heap_setCell _ _ _ _ hn).trans h
theorem e4_0 {w : World} {b : Nat} {u0 u1 u2 u3 : Value} {t : TypeId} (h : w.heap[b]? = some (.cells #[u0, u1, u2, u3] t (0, 0))) (v : Value) : (w.setCell ⟨b, 0, none⟩ v).heap[b]? = some (.cells #[v, u1, u2, u3] t (0, 0)) := by simp [World.setCell, Array.getElem?_modify, h]
theorem e4_1 {w : World} {b : Nat} {u0 u1 u2 u3 : Value} {t : TypeId} (h : w.heap[b]? = some (.cells #[u0, u1, u2, u3] t (0, 0))) (v : Value) : (w.setCell ⟨b, 1, none⟩ v).heap[b]? = some (.cells #[u0, v, u2, u3] t (0, 0)) := by simp [World.setCell, Array.getElem?_modify, h]
theorem e4_2 {w : World} {b : Nat} {u0 u1 u2 u3 : Value} {t : TypeId} (h : w.heap[b]? = some (.cells #[u0, u1, u2, u3] t (0, 0))) (v : Value) : (w.setCell ⟨b, 2, none⟩ v).heap[b]? = some (.cells #[u0, u1, v, u3] t (0, 0)) := by simp [World.setCell, Array.getElem?_modify, h]
theorem e4_3 {w : World} {b : Nat} {u0 u1 u2 u3 : Value} {t : TypeId} (h : w.heap[b]? = some (.cells #[u0, u1, u2, u3] t (0, 0))) (v : Value) : (w.setCell ⟨b, 3, none⟩ v).heap[b]? = some (.cells #[u0, u1, u2, v] t (0, 0)) := by simp [World.setCell, Array.getElem?_modify, h]
theorem e4_all {w : World} {b : Nat} {v0 v1 v2 v3 : Value} {t : TypeId} (h : w.heap[b]? = some (.cells #[v0, v1, v2, v3] t (0, 0))) :
    (w.cell? ⟨b, 0, none⟩ = some v0 ∧ w.cell? ⟨b, 1, none⟩ = some v1 ∧ w.cell? ⟨b, 2, none⟩ = some v2 ∧ w.cell? ⟨b, 3, none⟩ = some v3) ∧ (w.frozen? ⟨b, 0, none⟩ = false ∧ w.frozen? ⟨b, 1, none⟩ = false ∧ w.frozen? ⟨b, 2, none⟩ = false ∧ w.frozen? ⟨b, 3, none⟩ = false) := by
  simp [World.cell?, World.frozen?, h]
def put4 (W : World) (b : Nat) (v0 v1 v2 v3 : Value) : World := (((W.setCell ⟨b, 0, none⟩ v0).setCell ⟨b, 1, none⟩ v1).setCell ⟨b, 2, none⟩ v2).setCell ⟨b, 3, none⟩ v3
theorem put4_heap {W : World} {b : Nat} {u0 u1 u2 u3 : Value} {t : TypeId} (h : W.heap[b]? = some (.cells #[u0, u1, u2, u3] t (0, 0))) (v0 v1 v2 v3 : Value) : (put4 W b v0 v1 v2 v3).heap[b]? = some (.cells #[v0, v1, v2, v3] t (0, 0)) := e4_3 (e4_2 (e4_1 (e4_0 h _) _) _) _
theorem put4_below {w W : World} {b : Nat} (hb : w.heap.size ≤ b) (h : Below w.heap.size w W) (v0 v1 v2 v3 : Value) : Below w.heap.size w (put4 W b v0 v1 v2 v3) := ((((h.setCell hb _).setCell hb _).setCell hb _).setCell hb _)
theorem rd_end {W : World} {b : Nat} {v0 v1 v2 v3 : Value} {ok : Bool} {R : Ending → World → Prop} (tmps : Array Value) (h2 : tmps.getD 2 undef = .pointer (some ⟨b, 0, none⟩)) (h3 : tmps.getD 3 undef = .bool ok)
    (hX : W.heap[b]? = some (.cells #[v0, v1, v2, v3] 23 (0, 0))) (hR : R (.returned (.tuple #[.agg #[v0, v1, v2, v3], .bool ok])) W) :
    bodyPost Tryd.prog Tryd.f14 R .ret { tmps := tmps, defers := [] } W := by
  refine bodyPost_ret (v := .tuple #[.agg #[v0, v1, v2, v3], .bool ok]) ?_ rfl hR
  obtain ⟨⟨z0, z1, z2, z3⟩, _⟩ := e4_all hX
  simp only [Array.getD_eq_getD_getElem?] at h2 h3
  simp [results, Tryd.results14, h2, h3, go_sem, z0, z1, z2, z3, loadVar]
def NoBefore (line : Bs) (i : Nat) : Prop := ∀ j : Nat, 1 ≤ j → j < i → ∀ f t n, rightE (j : Int) f t n = true → lineE (j : Int) f t n ≠ line
theorem none_end (line : Bs) (h : NoBefore line 10) : OneE line none := by
  intro k f t n hr
  obtain ⟨h1, _⟩ := right_parts k f t n hr
  by_cases hk : k < 1 ∨ 9 < k
  · exfalso
    apply h1
    by_cases h0 : k = 0
    · subst h0; rfl
    · exact wordE_out k (by omega)
  · have := h k.toNat (by omega) (by omega) f t n
    rw [show ((k.toNat : Nat) : Int) = k by omega] at this
    exact this hr
theorem none_word (line : Bs) (i : Nat) (x : Bs) (h : NoBefore line i) (hx : (splS line)[0]? = some x) (hne : x ≠ wordE (i : Int)) : NoBefore line (i + 1) := by
  intro j h1 h2 f t n hr he
  by_cases hj : j < i
  · exact h j h1 hj f t n hr he
  · obtain rfl : j = i := by omega
    have := (of_line _ f t n hr line he).2.2
    rw [hx] at this
    exact hne (by simpa using this)
theorem none_tried (line : Bs) (i m : Nat) (F T : Bs) (h : NoBefore line i) (hf : fOf (i : Int) (splS line) = F) (ht : tOf (i : Int) (splS line) = T) (hm : ∀ n : Nat, n < m → lineE (i : Int) F T (n : Int) ≠ line) (hm2 : m = 512 ∨ (nE (i : Int) = false ∧ 1 ≤ m)) : NoBefore line (i + 1) := by
  intro j h1 h2 f t n hr he
  by_cases hj : j < i
  · exact h j h1 hj f t n hr he
  · obtain rfl : j = i := by omega
    obtain ⟨a1, a2, _⟩ := of_line _ f t n hr line he
    obtain ⟨x, rfl, hx, hx0⟩ := right_num _ f t n hr
    rw [hf] at a1
    rw [ht] at a2
    subst a1; subst a2
    refine hm x ?_ he
    rcases hm2 with rfl | ⟨h3, h4⟩
    · omega
    · have := hx0 h3; omega
theorem some_end (line : Bs) (k : Int) (F T : Bs) (n : Int) (hl : line ≠ []) (h : lineE k F T n = line) : OneE line (some (k, F, T, n)) := by
  refine ⟨?_, h⟩
  show rightE k F T n = true
  cases hr : rightE k F T n with
  | true => rfl
  | false =>
    unfold lineE at h
    rw [hr] at h
    exact absurd h.symm hl
theorem line_some (line : Bs) (x : Bs) (hx : (splS line)[0]? = some x) (hn : x ≠ []) : line ≠ [] := by
  rintro rfl
  have : (splS [])[0]? = some ([] : Bs) := rfl
  rw [this] at hx
  exact hn (by simpa using hx.symm)
set_option maxRecDepth 100000 in
set_option maxHeartbeats 8000000 in
theorem rread_walk (s : ByteArray) (hs : s.size ≤ 1000) (w : World) :
    Calls Tryd.prog 14 #[.string s] w fun e w' => (∃ o, OneE (L s) o ∧ e = .returned (.tuple #[.agg (edV o), .bool o.isSome])) ∧ Below w.heap.size w w' := by
  have C1 := Lib.hid (fun W => wcut_walk s (by omega) W)
  obtain ⟨wd, hwd⟩ : ∃ wd : Int → ByteArray, ∀ k, wd k = B (wordE k) := ⟨fun k => B (wordE k), fun _ => rfl⟩
  have W1 : Hid (∀ k W, Calls Tryd.prog 12 #[.int .i64 k] W fun e w' => e = .returned (.string (wd k)) ∧ Below W.heap.size W w') := fun k W => by rw [hwd]; exact rword_walk k W
  have HWD := Lib.hid hwd
  clear hwd
  have i0 := index3_0
  have i1 := index3_1
  have i2 := index3_2
  have hsl0 : ∀ x ∈ splS (L s), x.length ≤ 1000 := fun x hx => by have := splS_len (L s) x hx; rw [L_len] at this; omega
  have HSL0 := Lib.hid hsl0
  clear hsl0
  have HZ := Lib.hid (World.alloc_heap_new w (.cells #[.int .i64 0, .string ⟨#[]⟩, .string ⟨#[]⟩, .int .i64 0] 23))
  have HB0 := Lib.hid ((Below.refl w.heap.size w).alloc (Nat.le_refl _) (.cells #[.int .i64 0, .string ⟨#[]⟩, .string ⟨#[]⟩, .int .i64 0] 23))
  go_enter Tryd.func14, Tryd.ntmps14
  go_wp2_with (go_at_call 32; refine (C1.out _).mono ?_; rintro e w2 ⟨A, c, rfl, ⟨hcc, hcn⟩, hsl, hb2⟩)
  have HZ2 := Lib.hid (kept_block HZ.out hb2)
  have HB2 := Lib.hid (HB0.out.trans (hb2.mono HB0.out.size))
  have HSL := Lib.hid hsl
  clear hsl hb2 HZ HB0 hcc hcn
  have hwn : 0 < (splS (L s)).length := List.length_pos_iff.2 (splS_ne _)
  have HWS : Hid (splS (L s) = splS (L s)) := rfl
  obtain ⟨ws, hws⟩ : ∃ ws, splS (L s) = ws := ⟨_, rfl⟩
  rw [hws] at HSL HSL0 hwn ⊢
  have HWW := Lib.hid hws
  clear hws HWS
  have hwl : ws.length ≤ 1001 := by have := splS_count2 (L s); rw [HWW.out, L_len] at this; omega
  go_loopg [5] 9 (fun g v wr => ∃ i : Nat, g = 10 - i ∧ 1 ≤ i ∧ i ≤ 10 ∧ v = .int .i64 i ∧ Hid (NoBefore (L s) i) ∧ Hid (Below w2.heap.size w2 wr))
  case atStart => exact ⟨1, rfl, Nat.le_refl _, by omega, rfl, (show NoBefore _ _ from fun j h1 h2 => by omega), Below.refl _ _⟩
  case round =>
    obtain ⟨i, rfl, hi1, hi2, rfl, HP, HBR⟩ := hrel
    have HZR := Lib.hid (kept_block HZ2.out HBR.out)
    have HBW := Lib.hid (HB2.out.trans (HBR.out.mono HB2.out.size))
    by_cases h10 : i ≤ 9
    case neg =>
      obtain rfl : i = 10 := by omega
      have HN := Lib.hid (none_end (L s) HP.out)
      obtain ⟨⟨z0, z1, z2, z3⟩, ⟨y0, y1, y2, y3⟩⟩ := e4_all HZR.out
      go_wp2_with fail
      refine rd_end _ rfl rfl (put4_heap HZR.out _ _ _ _) ⟨⟨none, HN.out, rfl⟩, put4_below (Nat.le_refl _) HBW.out _ _ _ _⟩
    have hq9 : decide ((i : Int) ≤ 9) = true := by simp; omega
    obtain ⟨x0, hx0⟩ : ∃ x, ws[0]? = some x := ⟨_, List.getElem?_eq_getElem hwn⟩
    obtain ⟨bb, oo, hA, hlb, q0⟩ := (HSL.out.keep HBR.out).str hx0
    subst hA
    simp only [Nat.add_zero] at q0
    have hwi : (0 : Int) < (ws.length : Int) := by omega
    have HX0 : Hid ((splS (L s))[0]? = some x0) := by show _ = _; rw [HWW.out]; exact hx0
    clear hx0
    have F1 := Lib.hid (fun W => rhas_walk (i : Int) W)
    go_wp2_with fail
    by_cases he : x0 = wordE (i : Int)
    case neg =>
      have h3 : ((B x0).toList == (wd (i : Int)).toList) = false := by rw [L_toList, L_toList, L_B, HWD.out, L_B]; simpa using he
      have h4 : ((B x0).toList != (wd (i : Int)).toList) = true := by simp [bne, h3]
      have HN := Lib.hid (none_word (L s) i x0 HP.out HX0.out he)
      clear he
      generalize B x0 = xs0 at *
      have hS : wr.cell? ⟨bb, oo, none⟩ = some (.string xs0) := q0
      go_region_held3 (fun w' => w'.cell? ⟨bb, oo, none⟩ = some (.string xs0)) (first | exact hS | (go_keep; done)) ((first | (go_at_call 12; refine (W1.out _ _).mono ?_; rintro e w5 ⟨rfl, hb5⟩; have hS := keep1 hb5 hS; have HB5 := Lib.hid (HBR.out.drew.trans (hb5.mono HBR.out.size)))))
      all_goals
        go_wp2_with fail
        go_roundg (10 - (i + 1))
        case measure => omega
        case rel => exact ⟨i + 1, rfl, by omega, by omega, by go_num, HN.out, HB5.out⟩
    have h3 : ((B x0).toList == (wd (i : Int)).toList) = true := by rw [L_toList, L_toList, L_B, HWD.out, L_B, he]; simp
    have h4 : ((B x0).toList != (wd (i : Int)).toList) = false := by simp [bne, h3]
    have hwe : wordE (i : Int) ≠ [] := by
      have : ∀ j : Fin 10, 1 ≤ j.val → wordE (j.val : Int) ≠ [] := by decide
      exact this ⟨i, by omega⟩ hi1
    have HLN := Lib.hid (line_some (L s) x0 HX0.out (by rw [he]; exact hwe))
    clear he hwe
    generalize B x0 = xs0 at *
    have hS : wr.cell? ⟨bb, oo, none⟩ = some (.string xs0) := q0
    go_region_held3 (fun w' => w'.cell? ⟨bb, oo, none⟩ = some (.string xs0)) (first | exact hS | (go_keep; done)) ((first | (go_at_call 12; refine (W1.out _ _).mono ?_; rintro e w5 ⟨rfl, hb5⟩; have hS := keep1 hb5 hS; have HB5 := Lib.hid (HBR.out.drew.trans (hb5.mono HBR.out.size)))))
    have HS5 := Lib.hid (HSL.out.keep HB5.out)
    have hlb5 : bb < w5.heap.size := World.block_lt_of_cell? _ _ hS
    have hbb : bb ≠ w5.heap.size := by omega
    have HX6 := Lib.hid (World.alloc_heap_new w5 (.cells #[.int .i64 (i : Int), .string ⟨#[]⟩, .string ⟨#[]⟩, .int .i64 0] 23))
    have HFO : Hid (fOf (i : Int) ws = if fromE (i : Int) && decide (1 < ws.length) then (ws[1]?).getD [] else []) := rfl
    have HAO : Hid (atT (i : Int) ws = if fromE (i : Int) && decide (1 < ws.length) then 2 else 1) := rfl
    have HTO : Hid (tOf (i : Int) ws = if toE (i : Int) && decide (atT (i : Int) ws < ws.length) then (ws[atT (i : Int) ws]?).getD [] else []) := rfl
    have HNN : Hid (∀ m F T, fOf (i : Int) ws = F → tOf (i : Int) ws = T → (∀ n : Nat, n < m → lineE (i : Int) F T (n : Int) ≠ L s) → (m = 512 ∨ (nE (i : Int) = false ∧ 1 ≤ m)) → NoBefore (L s) (i + 1)) := fun m F T h1 h2 h3 h4 => none_tried (L s) i m F T HP.out (by rw [HWW.out]; exact h1) (by rw [HWW.out]; exact h2) h3 h4
    have hw2 : w.heap.size < w2.heap.size := (Array.getElem?_eq_some_iff.1 HZ2.out).1
    clear hS q0 HP HZR HBW HX0 C1
    generalize fromE (i : Int) = fr at *
    generalize toE (i : Int) = tt at *
    generalize nE (i : Int) = nn at *
    cases fr with
    | false =>
      cases tt with
      | false =>
        have HFT : Hid (fOf (i : Int) ws = ([] : Bs) ∧ tOf (i : Int) ws = ([] : Bs)) := ⟨by rw [HFO.out]; rfl, by rw [HTO.out]; rfl⟩
        have hfz : ((⟨#[]⟩ : ByteArray)).size ≤ 1000 := by decide
        have htz : ((⟨#[]⟩ : ByteArray)).size ≤ 1000 := by decide
        have HLB : Hid (L ((⟨#[]⟩ : ByteArray)) = ([] : Bs) ∧ L ((⟨#[]⟩ : ByteArray)) = ([] : Bs)) := ⟨rfl, rfl⟩
        have LL : Hid (∀ (n : Int) W, Calls Tryd.prog 8 #[.agg #[.int .i64 (i : Int), .string ((⟨#[]⟩ : ByteArray)), .string ((⟨#[]⟩ : ByteArray)), .int .i64 n]] W fun e w' => e = .returned (.string (B (lineE (i : Int) (([] : Bs)) (([] : Bs)) n))) ∧ Below W.heap.size W w') := fun n W => by have h := rline_walk (i : Int) ((⟨#[]⟩ : ByteArray)) ((⟨#[]⟩ : ByteArray)) n hfz htz W; first | (rw [HLB.out.1, HLB.out.2] at h; exact h) | (rw [HLB.out.1] at h; exact h)
        go_wp2_with (first | (go_at_call 22; refine (F1.out _).mono ?_; rintro e w7 ⟨rfl, hb7⟩; have HX8 := Lib.hid (kept_block (HX7.out) hb7); have HB7 := Lib.hid (HB6.out.trans (hb7.mono (by have := HB6.out.size; have := HB5.out.size; simp [World.setCell]; omega))); obtain ⟨⟨a0, a1, a2, a3⟩, ⟨g0, g1, g2, g3⟩⟩ := e4_all HX8.out; clear HX7 hb7) | (go_at_call 22; refine (F1.out _).mono ?_; rintro e w6 ⟨rfl, hb6⟩; have HX7 := Lib.hid (kept_block HX6.out hb6); have HB6 := Lib.hid ((HB5.out.alloc HB5.out.size (.cells #[.int .i64 (i : Int), .string ⟨#[]⟩, .string ⟨#[]⟩, .int .i64 0] 23)).trans (hb6.mono (by have := HB5.out.size; simp; omega))); obtain ⟨⟨a0, a1, a2, a3⟩, ⟨g0, g1, g2, g3⟩⟩ := e4_all HX7.out; clear HX6 hb6))
        have HX9 := Lib.hid (HX8.out)
        have HB9 : Hid (Below w2.heap.size w2 w7) := HB7.out
        clear a0 a1 a2 a3 g0 g1 g2 g3
        generalize w7 = wi0 at *
        generalize hb6n : w5.heap.size = b6 at *
        have hb6w : w2.heap.size ≤ b6 := by have := HB5.out.size; omega
        go_loopg [8] 512 (fun g v wq => ∃ (m : Nat) (z : Int), g = 512 - m ∧ m ≤ 512 ∧ v = .int .i64 m ∧ Hid (∀ n : Nat, n < m → lineE (i : Int) (([] : Bs)) (([] : Bs)) (n : Int) ≠ L s) ∧ Hid (wq.heap[b6]? = some (.cells #[.int .i64 (i : Int), .string ((⟨#[]⟩ : ByteArray)), .string ((⟨#[]⟩ : ByteArray)), .int .i64 z] 23 (0, 0))) ∧ Hid (Below w2.heap.size w2 wq))
        case atStart => exact ⟨0, 0, rfl, by omega, rfl, (show ∀ n : Nat, n < 0 → _ from fun n h => by omega), HX9.out, HB9.out⟩
        case round =>
          obtain ⟨m, z, rfl, hm, rfl, HM, HXQ, HBQ⟩ := hrel
          clear HX9 HB9
          obtain ⟨⟨a0, a1, a2, a3⟩, ⟨g0, g1, g2, g3⟩⟩ := e4_all HXQ.out
          by_cases hm5 : m < 512
          case neg =>
            obtain rfl : m = 512 := by omega
            have HN := Lib.hid (HNN.out 512 _ _ HFT.out.1 HFT.out.2 HM.out (.inl rfl))
            go_wp2_with fail
            go_roundg (10 - (i + 1))
            case measure => omega
            case rel => exact ⟨i + 1, rfl, by omega, by omega, by go_num, HN.out, HBQ.out⟩
          have hm5q : decide ((m : Int) < 512) = true := by simp; omega
          have HXS := Lib.hid (e4_3 HXQ.out (.int .i64 (m : Int)))
          have HBS := Lib.hid (HBQ.out.setCell (p := ⟨b6, 3, none⟩) hb6w (.int .i64 (m : Int)))
          obtain ⟨sl, hsl⟩ : ∃ sl, B (lineE (i : Int) (([] : Bs)) (([] : Bs)) (m : Int)) = sl := ⟨_, rfl⟩
          have L1 := Lib.hid (LL.out (m : Int))
          rw [hsl] at L1
          by_cases hle : lineE (i : Int) (([] : Bs)) (([] : Bs)) (m : Int) = L s
          · have h5 : (sl.toList == s.toList) = true := by rw [← hsl, L_toList, L_toList, L_B, hle]; simp
            have HO := Lib.hid (some_end (L s) (i : Int) (([] : Bs)) (([] : Bs)) (m : Int) HLN.out hle)
            clear hle hsl
            go_wp2_with (go_at_call 8; refine (L1.out _).mono ?_; rintro e w8 ⟨rfl, hb8⟩; have HX88 := Lib.hid (kept_block HXS.out hb8); have HB88 := Lib.hid (HBS.out.trans (hb8.mono HBS.out.size)); have HZ8 := Lib.hid (kept_block HZ2.out HB88.out); obtain ⟨⟨a0, a1, a2, a3⟩, ⟨g0, g1, g2, g3⟩⟩ := e4_all HX88.out; obtain ⟨⟨z0, z1, z2, z3⟩, ⟨y0, y1, y2, y3⟩⟩ := e4_all HZ8.out; clear hb8)
            refine rd_end _ rfl rfl (put4_heap HZ8.out _ _ _ _) ⟨⟨_, HO.out, ?_⟩, put4_below (Nat.le_refl _) (HB2.out.trans (HB88.out.mono HB2.out.size)) _ _ _ _⟩
            show _ = Ending.returned (.tuple #[.agg #[.int .i64 (i : Int), .string (B (([] : Bs))), .string (B (([] : Bs))), .int .i64 (m : Int)], .bool true])
            first | rfl | (rw [← HLB.out.1, ← HLB.out.2, B_L, B_L]) | (rw [← HLB.out.1, B_L])
          · have h5 : (sl.toList == s.toList) = false := by rw [← hsl, L_toList, L_toList, L_B]; simpa using hle
            have HMN : Hid (∀ n : Nat, n < m + 1 → lineE (i : Int) (([] : Bs)) (([] : Bs)) (n : Int) ≠ L s) := fun n h => by
              by_cases hn : n < m
              · exact HM.out n hn
              · obtain rfl : n = m := by omega
                exact hle
            clear hle hsl
            cases nn with
            | true =>
              go_wp2_with (first | (go_at_call 8; refine (L1.out _).mono ?_; rintro e w8 ⟨rfl, hb8⟩; have HX88 := Lib.hid (kept_block HXS.out hb8); have HB88 := Lib.hid (HBS.out.trans (hb8.mono HBS.out.size)); clear hb8) | (go_at_call 22; refine (F1.out _).mono ?_; rintro e w9 ⟨rfl, hb9⟩; have HX99 := Lib.hid (kept_block HX88.out hb9); have HB99 := Lib.hid (HB88.out.trans (hb9.mono HB88.out.size)); clear hb9))
              go_roundg (512 - (m + 1))
              case measure => omega
              case rel => exact ⟨m + 1, (m : Int), rfl, by omega, by go_num, HMN.out, HX99.out, HB99.out⟩
            | false =>
              have HN := Lib.hid (HNN.out (m + 1) _ _ HFT.out.1 HFT.out.2 HMN.out (.inr ⟨rfl, by omega⟩))
              go_wp2_with (first | (go_at_call 8; refine (L1.out _).mono ?_; rintro e w8 ⟨rfl, hb8⟩; have HB88 := Lib.hid (HBS.out.trans (hb8.mono HBS.out.size)); clear hb8) | (go_at_call 22; refine (F1.out _).mono ?_; rintro e w9 ⟨rfl, hb9⟩; have HB99 := Lib.hid (HB88.out.trans (hb9.mono HB88.out.size)); clear hb9))
              go_roundg (10 - (i + 1))
              case measure => omega
              case rel => exact ⟨i + 1, rfl, by omega, by omega, by go_num, HN.out, HB99.out⟩
      | true =>
        by_cases hat : 1 < ws.length
        · obtain ⟨x2, hx2⟩ : ∃ x, ws[1]? = some x := ⟨_, List.getElem?_eq_getElem hat⟩
          obtain ⟨bb2, oo2, hA2, _, c2⟩ := HS5.out.str hx2
          cases hA2
          have HX2 := Lib.hid hx2
          clear hx2
          have hatq : decide ((1 : Int) < (ws.length : Int)) = true := by simp; omega
          have hati : (1 : Int) < (ws.length : Int) := by omega
          have HFT : Hid (fOf (i : Int) ws = ([] : Bs) ∧ tOf (i : Int) ws = x2) := ⟨by rw [HFO.out]; rfl, by rw [HTO.out, (by rw [HAO.out]; rfl : atT (i : Int) ws = 1), decide_eq_true hat]; show (ws[1]?).getD [] = x2; rw [HX2.out]; rfl⟩
          have hfz : ((⟨#[]⟩ : ByteArray)).size ≤ 1000 := by decide
          have htz : (B x2).size ≤ 1000 := by rw [B_size]; exact HSL0.out x2 (List.mem_of_getElem? HX2.out)
          have HLB : Hid (L ((⟨#[]⟩ : ByteArray)) = ([] : Bs) ∧ L (B x2) = x2) := ⟨rfl, L_B _⟩
          have LL : Hid (∀ (n : Int) W, Calls Tryd.prog 8 #[.agg #[.int .i64 (i : Int), .string ((⟨#[]⟩ : ByteArray)), .string (B x2), .int .i64 n]] W fun e w' => e = .returned (.string (B (lineE (i : Int) (([] : Bs)) (x2) n))) ∧ Below W.heap.size W w') := fun n W => by have h := rline_walk (i : Int) ((⟨#[]⟩ : ByteArray)) (B x2) n hfz htz W; first | (rw [HLB.out.1, HLB.out.2] at h; exact h) | (rw [HLB.out.1] at h; exact h)
          go_wp2_with (first | (go_at_call 22; refine (F1.out _).mono ?_; rintro e w7 ⟨rfl, hb7⟩; have HX8 := Lib.hid (kept_block (HX7.out) hb7); have HB7 := Lib.hid (HB6.out.trans (hb7.mono (by have := HB6.out.size; have := HB5.out.size; simp [World.setCell]; omega))); obtain ⟨⟨a0, a1, a2, a3⟩, ⟨g0, g1, g2, g3⟩⟩ := e4_all HX8.out; have c2 := keep1 hb7 c2; clear HX7 hb7) | (go_at_call 22; refine (F1.out _).mono ?_; rintro e w6 ⟨rfl, hb6⟩; have HX7 := Lib.hid (kept_block HX6.out hb6); have HB6 := Lib.hid ((HB5.out.alloc HB5.out.size (.cells #[.int .i64 (i : Int), .string ⟨#[]⟩, .string ⟨#[]⟩, .int .i64 0] 23)).trans (hb6.mono (by have := HB5.out.size; simp; omega))); obtain ⟨⟨a0, a1, a2, a3⟩, ⟨g0, g1, g2, g3⟩⟩ := e4_all HX7.out; have c2 := keep1 hb6 (old_cell _ c2); clear HX6 hb6))
          have HX9 := Lib.hid (e4_2 HX8.out (.string (B x2)))
          have HB9 : Hid (Below w2.heap.size w2 (w7.setCell ⟨w5.heap.size, 2, none⟩ (.string (B x2)))) := (HB7.out.setCell (p := ⟨w5.heap.size, 2, none⟩) (HB5.out.size) (.string (B x2)))
          clear a0 a1 a2 a3 g0 g1 g2 g3
          generalize (w7.setCell ⟨w5.heap.size, 2, none⟩ (.string (B x2))) = wi0 at *
          generalize hb6n : w5.heap.size = b6 at *
          have hb6w : w2.heap.size ≤ b6 := by have := HB5.out.size; omega
          go_loopg [8] 512 (fun g v wq => ∃ (m : Nat) (z : Int), g = 512 - m ∧ m ≤ 512 ∧ v = .int .i64 m ∧ Hid (∀ n : Nat, n < m → lineE (i : Int) (([] : Bs)) (x2) (n : Int) ≠ L s) ∧ Hid (wq.heap[b6]? = some (.cells #[.int .i64 (i : Int), .string ((⟨#[]⟩ : ByteArray)), .string (B x2), .int .i64 z] 23 (0, 0))) ∧ Hid (Below w2.heap.size w2 wq))
          case atStart => exact ⟨0, 0, rfl, by omega, rfl, (show ∀ n : Nat, n < 0 → _ from fun n h => by omega), HX9.out, HB9.out⟩
          case round =>
            obtain ⟨m, z, rfl, hm, rfl, HM, HXQ, HBQ⟩ := hrel
            clear HX9 HB9
            obtain ⟨⟨a0, a1, a2, a3⟩, ⟨g0, g1, g2, g3⟩⟩ := e4_all HXQ.out
            by_cases hm5 : m < 512
            case neg =>
              obtain rfl : m = 512 := by omega
              have HN := Lib.hid (HNN.out 512 _ _ HFT.out.1 HFT.out.2 HM.out (.inl rfl))
              go_wp2_with fail
              go_roundg (10 - (i + 1))
              case measure => omega
              case rel => exact ⟨i + 1, rfl, by omega, by omega, by go_num, HN.out, HBQ.out⟩
            have hm5q : decide ((m : Int) < 512) = true := by simp; omega
            have HXS := Lib.hid (e4_3 HXQ.out (.int .i64 (m : Int)))
            have HBS := Lib.hid (HBQ.out.setCell (p := ⟨b6, 3, none⟩) hb6w (.int .i64 (m : Int)))
            obtain ⟨sl, hsl⟩ : ∃ sl, B (lineE (i : Int) (([] : Bs)) (x2) (m : Int)) = sl := ⟨_, rfl⟩
            have L1 := Lib.hid (LL.out (m : Int))
            rw [hsl] at L1
            by_cases hle : lineE (i : Int) (([] : Bs)) (x2) (m : Int) = L s
            · have h5 : (sl.toList == s.toList) = true := by rw [← hsl, L_toList, L_toList, L_B, hle]; simp
              have HO := Lib.hid (some_end (L s) (i : Int) (([] : Bs)) (x2) (m : Int) HLN.out hle)
              clear hle hsl
              go_wp2_with (go_at_call 8; refine (L1.out _).mono ?_; rintro e w8 ⟨rfl, hb8⟩; have HX88 := Lib.hid (kept_block HXS.out hb8); have HB88 := Lib.hid (HBS.out.trans (hb8.mono HBS.out.size)); have HZ8 := Lib.hid (kept_block HZ2.out HB88.out); obtain ⟨⟨a0, a1, a2, a3⟩, ⟨g0, g1, g2, g3⟩⟩ := e4_all HX88.out; obtain ⟨⟨z0, z1, z2, z3⟩, ⟨y0, y1, y2, y3⟩⟩ := e4_all HZ8.out; clear hb8)
              refine rd_end _ rfl rfl (put4_heap HZ8.out _ _ _ _) ⟨⟨_, HO.out, ?_⟩, put4_below (Nat.le_refl _) (HB2.out.trans (HB88.out.mono HB2.out.size)) _ _ _ _⟩
              show _ = Ending.returned (.tuple #[.agg #[.int .i64 (i : Int), .string (B (([] : Bs))), .string (B (x2)), .int .i64 (m : Int)], .bool true])
              first | rfl | (rw [← HLB.out.1, ← HLB.out.2, B_L, B_L]) | (rw [← HLB.out.1, B_L])
            · have h5 : (sl.toList == s.toList) = false := by rw [← hsl, L_toList, L_toList, L_B]; simpa using hle
              have HMN : Hid (∀ n : Nat, n < m + 1 → lineE (i : Int) (([] : Bs)) (x2) (n : Int) ≠ L s) := fun n h => by
                by_cases hn : n < m
                · exact HM.out n hn
                · obtain rfl : n = m := by omega
                  exact hle
              clear hle hsl
              cases nn with
              | true =>
                go_wp2_with (first | (go_at_call 8; refine (L1.out _).mono ?_; rintro e w8 ⟨rfl, hb8⟩; have HX88 := Lib.hid (kept_block HXS.out hb8); have HB88 := Lib.hid (HBS.out.trans (hb8.mono HBS.out.size)); clear hb8) | (go_at_call 22; refine (F1.out _).mono ?_; rintro e w9 ⟨rfl, hb9⟩; have HX99 := Lib.hid (kept_block HX88.out hb9); have HB99 := Lib.hid (HB88.out.trans (hb9.mono HB88.out.size)); clear hb9))
                go_roundg (512 - (m + 1))
                case measure => omega
                case rel => exact ⟨m + 1, (m : Int), rfl, by omega, by go_num, HMN.out, HX99.out, HB99.out⟩
              | false =>
                have HN := Lib.hid (HNN.out (m + 1) _ _ HFT.out.1 HFT.out.2 HMN.out (.inr ⟨rfl, by omega⟩))
                go_wp2_with (first | (go_at_call 8; refine (L1.out _).mono ?_; rintro e w8 ⟨rfl, hb8⟩; have HB88 := Lib.hid (HBS.out.trans (hb8.mono HBS.out.size)); clear hb8) | (go_at_call 22; refine (F1.out _).mono ?_; rintro e w9 ⟨rfl, hb9⟩; have HB99 := Lib.hid (HB88.out.trans (hb9.mono HB88.out.size)); clear hb9))
                go_roundg (10 - (i + 1))
                case measure => omega
                case rel => exact ⟨i + 1, rfl, by omega, by omega, by go_num, HN.out, HB99.out⟩
        · have hatq : decide ((1 : Int) < (ws.length : Int)) = false := by simp; omega
          have HFT : Hid (fOf (i : Int) ws = ([] : Bs) ∧ tOf (i : Int) ws = ([] : Bs)) := ⟨by rw [HFO.out]; rfl, by rw [HTO.out, (by rw [HAO.out]; rfl : atT (i : Int) ws = 1), decide_eq_false hat]; rfl⟩
          have hfz : ((⟨#[]⟩ : ByteArray)).size ≤ 1000 := by decide
          have htz : ((⟨#[]⟩ : ByteArray)).size ≤ 1000 := by decide
          have HLB : Hid (L ((⟨#[]⟩ : ByteArray)) = ([] : Bs) ∧ L ((⟨#[]⟩ : ByteArray)) = ([] : Bs)) := ⟨rfl, rfl⟩
          have LL : Hid (∀ (n : Int) W, Calls Tryd.prog 8 #[.agg #[.int .i64 (i : Int), .string ((⟨#[]⟩ : ByteArray)), .string ((⟨#[]⟩ : ByteArray)), .int .i64 n]] W fun e w' => e = .returned (.string (B (lineE (i : Int) (([] : Bs)) (([] : Bs)) n))) ∧ Below W.heap.size W w') := fun n W => by have h := rline_walk (i : Int) ((⟨#[]⟩ : ByteArray)) ((⟨#[]⟩ : ByteArray)) n hfz htz W; first | (rw [HLB.out.1, HLB.out.2] at h; exact h) | (rw [HLB.out.1] at h; exact h)
          go_wp2_with (first | (go_at_call 22; refine (F1.out _).mono ?_; rintro e w7 ⟨rfl, hb7⟩; have HX8 := Lib.hid (kept_block (HX7.out) hb7); have HB7 := Lib.hid (HB6.out.trans (hb7.mono (by have := HB6.out.size; have := HB5.out.size; simp [World.setCell]; omega))); obtain ⟨⟨a0, a1, a2, a3⟩, ⟨g0, g1, g2, g3⟩⟩ := e4_all HX8.out; clear HX7 hb7) | (go_at_call 22; refine (F1.out _).mono ?_; rintro e w6 ⟨rfl, hb6⟩; have HX7 := Lib.hid (kept_block HX6.out hb6); have HB6 := Lib.hid ((HB5.out.alloc HB5.out.size (.cells #[.int .i64 (i : Int), .string ⟨#[]⟩, .string ⟨#[]⟩, .int .i64 0] 23)).trans (hb6.mono (by have := HB5.out.size; simp; omega))); obtain ⟨⟨a0, a1, a2, a3⟩, ⟨g0, g1, g2, g3⟩⟩ := e4_all HX7.out; clear HX6 hb6))
          have HX9 := Lib.hid (HX8.out)
          have HB9 : Hid (Below w2.heap.size w2 w7) := HB7.out
          clear a0 a1 a2 a3 g0 g1 g2 g3
          generalize w7 = wi0 at *
          generalize hb6n : w5.heap.size = b6 at *
          have hb6w : w2.heap.size ≤ b6 := by have := HB5.out.size; omega
          go_loopg [8] 512 (fun g v wq => ∃ (m : Nat) (z : Int), g = 512 - m ∧ m ≤ 512 ∧ v = .int .i64 m ∧ Hid (∀ n : Nat, n < m → lineE (i : Int) (([] : Bs)) (([] : Bs)) (n : Int) ≠ L s) ∧ Hid (wq.heap[b6]? = some (.cells #[.int .i64 (i : Int), .string ((⟨#[]⟩ : ByteArray)), .string ((⟨#[]⟩ : ByteArray)), .int .i64 z] 23 (0, 0))) ∧ Hid (Below w2.heap.size w2 wq))
          case atStart => exact ⟨0, 0, rfl, by omega, rfl, (show ∀ n : Nat, n < 0 → _ from fun n h => by omega), HX9.out, HB9.out⟩
          case round =>
            obtain ⟨m, z, rfl, hm, rfl, HM, HXQ, HBQ⟩ := hrel
            clear HX9 HB9
            obtain ⟨⟨a0, a1, a2, a3⟩, ⟨g0, g1, g2, g3⟩⟩ := e4_all HXQ.out
            by_cases hm5 : m < 512
            case neg =>
              obtain rfl : m = 512 := by omega
              have HN := Lib.hid (HNN.out 512 _ _ HFT.out.1 HFT.out.2 HM.out (.inl rfl))
              go_wp2_with fail
              go_roundg (10 - (i + 1))
              case measure => omega
              case rel => exact ⟨i + 1, rfl, by omega, by omega, by go_num, HN.out, HBQ.out⟩
            have hm5q : decide ((m : Int) < 512) = true := by simp; omega
            have HXS := Lib.hid (e4_3 HXQ.out (.int .i64 (m : Int)))
            have HBS := Lib.hid (HBQ.out.setCell (p := ⟨b6, 3, none⟩) hb6w (.int .i64 (m : Int)))
            obtain ⟨sl, hsl⟩ : ∃ sl, B (lineE (i : Int) (([] : Bs)) (([] : Bs)) (m : Int)) = sl := ⟨_, rfl⟩
            have L1 := Lib.hid (LL.out (m : Int))
            rw [hsl] at L1
            by_cases hle : lineE (i : Int) (([] : Bs)) (([] : Bs)) (m : Int) = L s
            · have h5 : (sl.toList == s.toList) = true := by rw [← hsl, L_toList, L_toList, L_B, hle]; simp
              have HO := Lib.hid (some_end (L s) (i : Int) (([] : Bs)) (([] : Bs)) (m : Int) HLN.out hle)
              clear hle hsl
              go_wp2_with (go_at_call 8; refine (L1.out _).mono ?_; rintro e w8 ⟨rfl, hb8⟩; have HX88 := Lib.hid (kept_block HXS.out hb8); have HB88 := Lib.hid (HBS.out.trans (hb8.mono HBS.out.size)); have HZ8 := Lib.hid (kept_block HZ2.out HB88.out); obtain ⟨⟨a0, a1, a2, a3⟩, ⟨g0, g1, g2, g3⟩⟩ := e4_all HX88.out; obtain ⟨⟨z0, z1, z2, z3⟩, ⟨y0, y1, y2, y3⟩⟩ := e4_all HZ8.out; clear hb8)
              refine rd_end _ rfl rfl (put4_heap HZ8.out _ _ _ _) ⟨⟨_, HO.out, ?_⟩, put4_below (Nat.le_refl _) (HB2.out.trans (HB88.out.mono HB2.out.size)) _ _ _ _⟩
              show _ = Ending.returned (.tuple #[.agg #[.int .i64 (i : Int), .string (B (([] : Bs))), .string (B (([] : Bs))), .int .i64 (m : Int)], .bool true])
              first | rfl | (rw [← HLB.out.1, ← HLB.out.2, B_L, B_L]) | (rw [← HLB.out.1, B_L])
            · have h5 : (sl.toList == s.toList) = false := by rw [← hsl, L_toList, L_toList, L_B]; simpa using hle
              have HMN : Hid (∀ n : Nat, n < m + 1 → lineE (i : Int) (([] : Bs)) (([] : Bs)) (n : Int) ≠ L s) := fun n h => by
                by_cases hn : n < m
                · exact HM.out n hn
                · obtain rfl : n = m := by omega
                  exact hle
              clear hle hsl
              cases nn with
              | true =>
                go_wp2_with (first | (go_at_call 8; refine (L1.out _).mono ?_; rintro e w8 ⟨rfl, hb8⟩; have HX88 := Lib.hid (kept_block HXS.out hb8); have HB88 := Lib.hid (HBS.out.trans (hb8.mono HBS.out.size)); clear hb8) | (go_at_call 22; refine (F1.out _).mono ?_; rintro e w9 ⟨rfl, hb9⟩; have HX99 := Lib.hid (kept_block HX88.out hb9); have HB99 := Lib.hid (HB88.out.trans (hb9.mono HB88.out.size)); clear hb9))
                go_roundg (512 - (m + 1))
                case measure => omega
                case rel => exact ⟨m + 1, (m : Int), rfl, by omega, by go_num, HMN.out, HX99.out, HB99.out⟩
              | false =>
                have HN := Lib.hid (HNN.out (m + 1) _ _ HFT.out.1 HFT.out.2 HMN.out (.inr ⟨rfl, by omega⟩))
                go_wp2_with (first | (go_at_call 8; refine (L1.out _).mono ?_; rintro e w8 ⟨rfl, hb8⟩; have HB88 := Lib.hid (HBS.out.trans (hb8.mono HBS.out.size)); clear hb8) | (go_at_call 22; refine (F1.out _).mono ?_; rintro e w9 ⟨rfl, hb9⟩; have HB99 := Lib.hid (HB88.out.trans (hb9.mono HB88.out.size)); clear hb9))
                go_roundg (10 - (i + 1))
                case measure => omega
                case rel => exact ⟨i + 1, rfl, by omega, by omega, by go_num, HN.out, HB99.out⟩
    | true =>
      by_cases h1l : 1 < ws.length
      · obtain ⟨x1, hx1⟩ : ∃ x, ws[1]? = some x := ⟨_, List.getElem?_eq_getElem h1l⟩
        obtain ⟨bb1, oo1, hA1, _, c1⟩ := HS5.out.str hx1
        cases hA1
        have HX1 := Lib.hid hx1
        clear hx1
        have h1q : decide ((1 : Int) < (ws.length : Int)) = true := by simp; omega
        have h1i : (1 : Int) < (ws.length : Int) := by omega
        cases tt with
        | false =>
          have HFT : Hid (fOf (i : Int) ws = x1 ∧ tOf (i : Int) ws = ([] : Bs)) := ⟨by rw [HFO.out, decide_eq_true h1l]; show (ws[1]?).getD [] = x1; rw [HX1.out]; rfl, by rw [HTO.out]; rfl⟩
          have hfz : (B x1).size ≤ 1000 := by rw [B_size]; exact HSL0.out x1 (List.mem_of_getElem? HX1.out)
          have htz : ((⟨#[]⟩ : ByteArray)).size ≤ 1000 := by decide
          have HLB : Hid (L (B x1) = x1 ∧ L ((⟨#[]⟩ : ByteArray)) = ([] : Bs)) := ⟨L_B _, rfl⟩
          have LL : Hid (∀ (n : Int) W, Calls Tryd.prog 8 #[.agg #[.int .i64 (i : Int), .string (B x1), .string ((⟨#[]⟩ : ByteArray)), .int .i64 n]] W fun e w' => e = .returned (.string (B (lineE (i : Int) (x1) (([] : Bs)) n))) ∧ Below W.heap.size W w') := fun n W => by have h := rline_walk (i : Int) (B x1) ((⟨#[]⟩ : ByteArray)) n hfz htz W; first | (rw [HLB.out.1, HLB.out.2] at h; exact h) | (rw [HLB.out.1] at h; exact h)
          go_wp2_with (first | (go_at_call 22; refine (F1.out _).mono ?_; rintro e w7 ⟨rfl, hb7⟩; have HX8 := Lib.hid (kept_block (e4_1 HX7.out (.string (B x1))) hb7); have HB7 := Lib.hid ((HB6.out.setCell (p := ⟨w5.heap.size, 1, none⟩) (HB5.out.size) (.string (B x1))).trans (hb7.mono (by have := HB6.out.size; have := HB5.out.size; simp [World.setCell]; omega))); obtain ⟨⟨a0, a1, a2, a3⟩, ⟨g0, g1, g2, g3⟩⟩ := e4_all HX8.out; clear HX7 hb7) | (go_at_call 22; refine (F1.out _).mono ?_; rintro e w6 ⟨rfl, hb6⟩; have HX7 := Lib.hid (kept_block HX6.out hb6); have HB6 := Lib.hid ((HB5.out.alloc HB5.out.size (.cells #[.int .i64 (i : Int), .string ⟨#[]⟩, .string ⟨#[]⟩, .int .i64 0] 23)).trans (hb6.mono (by have := HB5.out.size; simp; omega))); obtain ⟨⟨a0, a1, a2, a3⟩, ⟨g0, g1, g2, g3⟩⟩ := e4_all HX7.out; have c1 := keep1 hb6 (old_cell _ c1); clear HX6 hb6))
          have HX9 := Lib.hid (HX8.out)
          have HB9 : Hid (Below w2.heap.size w2 w7) := HB7.out
          clear a0 a1 a2 a3 g0 g1 g2 g3
          generalize w7 = wi0 at *
          generalize hb6n : w5.heap.size = b6 at *
          have hb6w : w2.heap.size ≤ b6 := by have := HB5.out.size; omega
          go_loopg [8] 512 (fun g v wq => ∃ (m : Nat) (z : Int), g = 512 - m ∧ m ≤ 512 ∧ v = .int .i64 m ∧ Hid (∀ n : Nat, n < m → lineE (i : Int) (x1) (([] : Bs)) (n : Int) ≠ L s) ∧ Hid (wq.heap[b6]? = some (.cells #[.int .i64 (i : Int), .string (B x1), .string ((⟨#[]⟩ : ByteArray)), .int .i64 z] 23 (0, 0))) ∧ Hid (Below w2.heap.size w2 wq))
          case atStart => exact ⟨0, 0, rfl, by omega, rfl, (show ∀ n : Nat, n < 0 → _ from fun n h => by omega), HX9.out, HB9.out⟩
          case round =>
            obtain ⟨m, z, rfl, hm, rfl, HM, HXQ, HBQ⟩ := hrel
            clear HX9 HB9
            obtain ⟨⟨a0, a1, a2, a3⟩, ⟨g0, g1, g2, g3⟩⟩ := e4_all HXQ.out
            by_cases hm5 : m < 512
            case neg =>
              obtain rfl : m = 512 := by omega
              have HN := Lib.hid (HNN.out 512 _ _ HFT.out.1 HFT.out.2 HM.out (.inl rfl))
              go_wp2_with fail
              go_roundg (10 - (i + 1))
              case measure => omega
              case rel => exact ⟨i + 1, rfl, by omega, by omega, by go_num, HN.out, HBQ.out⟩
            have hm5q : decide ((m : Int) < 512) = true := by simp; omega
            have HXS := Lib.hid (e4_3 HXQ.out (.int .i64 (m : Int)))
            have HBS := Lib.hid (HBQ.out.setCell (p := ⟨b6, 3, none⟩) hb6w (.int .i64 (m : Int)))
            obtain ⟨sl, hsl⟩ : ∃ sl, B (lineE (i : Int) (x1) (([] : Bs)) (m : Int)) = sl := ⟨_, rfl⟩
            have L1 := Lib.hid (LL.out (m : Int))
            rw [hsl] at L1
            by_cases hle : lineE (i : Int) (x1) (([] : Bs)) (m : Int) = L s
            · have h5 : (sl.toList == s.toList) = true := by rw [← hsl, L_toList, L_toList, L_B, hle]; simp
              have HO := Lib.hid (some_end (L s) (i : Int) (x1) (([] : Bs)) (m : Int) HLN.out hle)
              clear hle hsl
              go_wp2_with (go_at_call 8; refine (L1.out _).mono ?_; rintro e w8 ⟨rfl, hb8⟩; have HX88 := Lib.hid (kept_block HXS.out hb8); have HB88 := Lib.hid (HBS.out.trans (hb8.mono HBS.out.size)); have HZ8 := Lib.hid (kept_block HZ2.out HB88.out); obtain ⟨⟨a0, a1, a2, a3⟩, ⟨g0, g1, g2, g3⟩⟩ := e4_all HX88.out; obtain ⟨⟨z0, z1, z2, z3⟩, ⟨y0, y1, y2, y3⟩⟩ := e4_all HZ8.out; clear hb8)
              refine rd_end _ rfl rfl (put4_heap HZ8.out _ _ _ _) ⟨⟨_, HO.out, ?_⟩, put4_below (Nat.le_refl _) (HB2.out.trans (HB88.out.mono HB2.out.size)) _ _ _ _⟩
              show _ = Ending.returned (.tuple #[.agg #[.int .i64 (i : Int), .string (B (x1)), .string (B (([] : Bs))), .int .i64 (m : Int)], .bool true])
              first | rfl | (rw [← HLB.out.1, ← HLB.out.2, B_L, B_L]) | (rw [← HLB.out.1, B_L])
            · have h5 : (sl.toList == s.toList) = false := by rw [← hsl, L_toList, L_toList, L_B]; simpa using hle
              have HMN : Hid (∀ n : Nat, n < m + 1 → lineE (i : Int) (x1) (([] : Bs)) (n : Int) ≠ L s) := fun n h => by
                by_cases hn : n < m
                · exact HM.out n hn
                · obtain rfl : n = m := by omega
                  exact hle
              clear hle hsl
              cases nn with
              | true =>
                go_wp2_with (first | (go_at_call 8; refine (L1.out _).mono ?_; rintro e w8 ⟨rfl, hb8⟩; have HX88 := Lib.hid (kept_block HXS.out hb8); have HB88 := Lib.hid (HBS.out.trans (hb8.mono HBS.out.size)); clear hb8) | (go_at_call 22; refine (F1.out _).mono ?_; rintro e w9 ⟨rfl, hb9⟩; have HX99 := Lib.hid (kept_block HX88.out hb9); have HB99 := Lib.hid (HB88.out.trans (hb9.mono HB88.out.size)); clear hb9))
                go_roundg (512 - (m + 1))
                case measure => omega
                case rel => exact ⟨m + 1, (m : Int), rfl, by omega, by go_num, HMN.out, HX99.out, HB99.out⟩
              | false =>
                have HN := Lib.hid (HNN.out (m + 1) _ _ HFT.out.1 HFT.out.2 HMN.out (.inr ⟨rfl, by omega⟩))
                go_wp2_with (first | (go_at_call 8; refine (L1.out _).mono ?_; rintro e w8 ⟨rfl, hb8⟩; have HB88 := Lib.hid (HBS.out.trans (hb8.mono HBS.out.size)); clear hb8) | (go_at_call 22; refine (F1.out _).mono ?_; rintro e w9 ⟨rfl, hb9⟩; have HB99 := Lib.hid (HB88.out.trans (hb9.mono HB88.out.size)); clear hb9))
                go_roundg (10 - (i + 1))
                case measure => omega
                case rel => exact ⟨i + 1, rfl, by omega, by omega, by go_num, HN.out, HB99.out⟩
        | true =>
          by_cases hat : 2 < ws.length
          · obtain ⟨x2, hx2⟩ : ∃ x, ws[2]? = some x := ⟨_, List.getElem?_eq_getElem hat⟩
            obtain ⟨bb2, oo2, hA2, _, c2⟩ := HS5.out.str hx2
            cases hA2
            have HX2 := Lib.hid hx2
            clear hx2
            have hatq : decide ((2 : Int) < (ws.length : Int)) = true := by simp; omega
            have hati : (2 : Int) < (ws.length : Int) := by omega
            have HFT : Hid (fOf (i : Int) ws = x1 ∧ tOf (i : Int) ws = x2) := ⟨by rw [HFO.out, decide_eq_true h1l]; show (ws[1]?).getD [] = x1; rw [HX1.out]; rfl, by rw [HTO.out, (by rw [HAO.out, decide_eq_true h1l]; rfl : atT (i : Int) ws = 2), decide_eq_true hat]; show (ws[2]?).getD [] = x2; rw [HX2.out]; rfl⟩
            have hfz : (B x1).size ≤ 1000 := by rw [B_size]; exact HSL0.out x1 (List.mem_of_getElem? HX1.out)
            have htz : (B x2).size ≤ 1000 := by rw [B_size]; exact HSL0.out x2 (List.mem_of_getElem? HX2.out)
            have HLB : Hid (L (B x1) = x1 ∧ L (B x2) = x2) := ⟨L_B _, L_B _⟩
            have LL : Hid (∀ (n : Int) W, Calls Tryd.prog 8 #[.agg #[.int .i64 (i : Int), .string (B x1), .string (B x2), .int .i64 n]] W fun e w' => e = .returned (.string (B (lineE (i : Int) (x1) (x2) n))) ∧ Below W.heap.size W w') := fun n W => by have h := rline_walk (i : Int) (B x1) (B x2) n hfz htz W; first | (rw [HLB.out.1, HLB.out.2] at h; exact h) | (rw [HLB.out.1] at h; exact h)
            go_wp2_with (first | (go_at_call 22; refine (F1.out _).mono ?_; rintro e w7 ⟨rfl, hb7⟩; have HX8 := Lib.hid (kept_block (e4_1 HX7.out (.string (B x1))) hb7); have HB7 := Lib.hid ((HB6.out.setCell (p := ⟨w5.heap.size, 1, none⟩) (HB5.out.size) (.string (B x1))).trans (hb7.mono (by have := HB6.out.size; have := HB5.out.size; simp [World.setCell]; omega))); obtain ⟨⟨a0, a1, a2, a3⟩, ⟨g0, g1, g2, g3⟩⟩ := e4_all HX8.out; have c2 := keep1 hb7 (far1 hbb c2); clear HX7 hb7) | (go_at_call 22; refine (F1.out _).mono ?_; rintro e w6 ⟨rfl, hb6⟩; have HX7 := Lib.hid (kept_block HX6.out hb6); have HB6 := Lib.hid ((HB5.out.alloc HB5.out.size (.cells #[.int .i64 (i : Int), .string ⟨#[]⟩, .string ⟨#[]⟩, .int .i64 0] 23)).trans (hb6.mono (by have := HB5.out.size; simp; omega))); obtain ⟨⟨a0, a1, a2, a3⟩, ⟨g0, g1, g2, g3⟩⟩ := e4_all HX7.out; have c1 := keep1 hb6 (old_cell _ c1); have c2 := keep1 hb6 (old_cell _ c2); clear HX6 hb6))
            have HX9 := Lib.hid (e4_2 HX8.out (.string (B x2)))
            have HB9 : Hid (Below w2.heap.size w2 (w7.setCell ⟨w5.heap.size, 2, none⟩ (.string (B x2)))) := (HB7.out.setCell (p := ⟨w5.heap.size, 2, none⟩) (HB5.out.size) (.string (B x2)))
            clear a0 a1 a2 a3 g0 g1 g2 g3
            generalize (w7.setCell ⟨w5.heap.size, 2, none⟩ (.string (B x2))) = wi0 at *
            generalize hb6n : w5.heap.size = b6 at *
            have hb6w : w2.heap.size ≤ b6 := by have := HB5.out.size; omega
            go_loopg [8] 512 (fun g v wq => ∃ (m : Nat) (z : Int), g = 512 - m ∧ m ≤ 512 ∧ v = .int .i64 m ∧ Hid (∀ n : Nat, n < m → lineE (i : Int) (x1) (x2) (n : Int) ≠ L s) ∧ Hid (wq.heap[b6]? = some (.cells #[.int .i64 (i : Int), .string (B x1), .string (B x2), .int .i64 z] 23 (0, 0))) ∧ Hid (Below w2.heap.size w2 wq))
            case atStart => exact ⟨0, 0, rfl, by omega, rfl, (show ∀ n : Nat, n < 0 → _ from fun n h => by omega), HX9.out, HB9.out⟩
            case round =>
              obtain ⟨m, z, rfl, hm, rfl, HM, HXQ, HBQ⟩ := hrel
              clear HX9 HB9
              obtain ⟨⟨a0, a1, a2, a3⟩, ⟨g0, g1, g2, g3⟩⟩ := e4_all HXQ.out
              by_cases hm5 : m < 512
              case neg =>
                obtain rfl : m = 512 := by omega
                have HN := Lib.hid (HNN.out 512 _ _ HFT.out.1 HFT.out.2 HM.out (.inl rfl))
                go_wp2_with fail
                go_roundg (10 - (i + 1))
                case measure => omega
                case rel => exact ⟨i + 1, rfl, by omega, by omega, by go_num, HN.out, HBQ.out⟩
              have hm5q : decide ((m : Int) < 512) = true := by simp; omega
              have HXS := Lib.hid (e4_3 HXQ.out (.int .i64 (m : Int)))
              have HBS := Lib.hid (HBQ.out.setCell (p := ⟨b6, 3, none⟩) hb6w (.int .i64 (m : Int)))
              obtain ⟨sl, hsl⟩ : ∃ sl, B (lineE (i : Int) (x1) (x2) (m : Int)) = sl := ⟨_, rfl⟩
              have L1 := Lib.hid (LL.out (m : Int))
              rw [hsl] at L1
              by_cases hle : lineE (i : Int) (x1) (x2) (m : Int) = L s
              · have h5 : (sl.toList == s.toList) = true := by rw [← hsl, L_toList, L_toList, L_B, hle]; simp
                have HO := Lib.hid (some_end (L s) (i : Int) (x1) (x2) (m : Int) HLN.out hle)
                clear hle hsl
                go_wp2_with (go_at_call 8; refine (L1.out _).mono ?_; rintro e w8 ⟨rfl, hb8⟩; have HX88 := Lib.hid (kept_block HXS.out hb8); have HB88 := Lib.hid (HBS.out.trans (hb8.mono HBS.out.size)); have HZ8 := Lib.hid (kept_block HZ2.out HB88.out); obtain ⟨⟨a0, a1, a2, a3⟩, ⟨g0, g1, g2, g3⟩⟩ := e4_all HX88.out; obtain ⟨⟨z0, z1, z2, z3⟩, ⟨y0, y1, y2, y3⟩⟩ := e4_all HZ8.out; clear hb8)
                refine rd_end _ rfl rfl (put4_heap HZ8.out _ _ _ _) ⟨⟨_, HO.out, ?_⟩, put4_below (Nat.le_refl _) (HB2.out.trans (HB88.out.mono HB2.out.size)) _ _ _ _⟩
                show _ = Ending.returned (.tuple #[.agg #[.int .i64 (i : Int), .string (B (x1)), .string (B (x2)), .int .i64 (m : Int)], .bool true])
                first | rfl | (rw [← HLB.out.1, ← HLB.out.2, B_L, B_L]) | (rw [← HLB.out.1, B_L])
              · have h5 : (sl.toList == s.toList) = false := by rw [← hsl, L_toList, L_toList, L_B]; simpa using hle
                have HMN : Hid (∀ n : Nat, n < m + 1 → lineE (i : Int) (x1) (x2) (n : Int) ≠ L s) := fun n h => by
                  by_cases hn : n < m
                  · exact HM.out n hn
                  · obtain rfl : n = m := by omega
                    exact hle
                clear hle hsl
                cases nn with
                | true =>
                  go_wp2_with (first | (go_at_call 8; refine (L1.out _).mono ?_; rintro e w8 ⟨rfl, hb8⟩; have HX88 := Lib.hid (kept_block HXS.out hb8); have HB88 := Lib.hid (HBS.out.trans (hb8.mono HBS.out.size)); clear hb8) | (go_at_call 22; refine (F1.out _).mono ?_; rintro e w9 ⟨rfl, hb9⟩; have HX99 := Lib.hid (kept_block HX88.out hb9); have HB99 := Lib.hid (HB88.out.trans (hb9.mono HB88.out.size)); clear hb9))
                  go_roundg (512 - (m + 1))
                  case measure => omega
                  case rel => exact ⟨m + 1, (m : Int), rfl, by omega, by go_num, HMN.out, HX99.out, HB99.out⟩
                | false =>
                  have HN := Lib.hid (HNN.out (m + 1) _ _ HFT.out.1 HFT.out.2 HMN.out (.inr ⟨rfl, by omega⟩))
                  go_wp2_with (first | (go_at_call 8; refine (L1.out _).mono ?_; rintro e w8 ⟨rfl, hb8⟩; have HB88 := Lib.hid (HBS.out.trans (hb8.mono HBS.out.size)); clear hb8) | (go_at_call 22; refine (F1.out _).mono ?_; rintro e w9 ⟨rfl, hb9⟩; have HB99 := Lib.hid (HB88.out.trans (hb9.mono HB88.out.size)); clear hb9))
                  go_roundg (10 - (i + 1))
                  case measure => omega
                  case rel => exact ⟨i + 1, rfl, by omega, by omega, by go_num, HN.out, HB99.out⟩
          · have hatq : decide ((2 : Int) < (ws.length : Int)) = false := by simp; omega
            have HFT : Hid (fOf (i : Int) ws = x1 ∧ tOf (i : Int) ws = ([] : Bs)) := ⟨by rw [HFO.out, decide_eq_true h1l]; show (ws[1]?).getD [] = x1; rw [HX1.out]; rfl, by rw [HTO.out, (by rw [HAO.out, decide_eq_true h1l]; rfl : atT (i : Int) ws = 2), decide_eq_false hat]; rfl⟩
            have hfz : (B x1).size ≤ 1000 := by rw [B_size]; exact HSL0.out x1 (List.mem_of_getElem? HX1.out)
            have htz : ((⟨#[]⟩ : ByteArray)).size ≤ 1000 := by decide
            have HLB : Hid (L (B x1) = x1 ∧ L ((⟨#[]⟩ : ByteArray)) = ([] : Bs)) := ⟨L_B _, rfl⟩
            have LL : Hid (∀ (n : Int) W, Calls Tryd.prog 8 #[.agg #[.int .i64 (i : Int), .string (B x1), .string ((⟨#[]⟩ : ByteArray)), .int .i64 n]] W fun e w' => e = .returned (.string (B (lineE (i : Int) (x1) (([] : Bs)) n))) ∧ Below W.heap.size W w') := fun n W => by have h := rline_walk (i : Int) (B x1) ((⟨#[]⟩ : ByteArray)) n hfz htz W; first | (rw [HLB.out.1, HLB.out.2] at h; exact h) | (rw [HLB.out.1] at h; exact h)
            go_wp2_with (first | (go_at_call 22; refine (F1.out _).mono ?_; rintro e w7 ⟨rfl, hb7⟩; have HX8 := Lib.hid (kept_block (e4_1 HX7.out (.string (B x1))) hb7); have HB7 := Lib.hid ((HB6.out.setCell (p := ⟨w5.heap.size, 1, none⟩) (HB5.out.size) (.string (B x1))).trans (hb7.mono (by have := HB6.out.size; have := HB5.out.size; simp [World.setCell]; omega))); obtain ⟨⟨a0, a1, a2, a3⟩, ⟨g0, g1, g2, g3⟩⟩ := e4_all HX8.out; clear HX7 hb7) | (go_at_call 22; refine (F1.out _).mono ?_; rintro e w6 ⟨rfl, hb6⟩; have HX7 := Lib.hid (kept_block HX6.out hb6); have HB6 := Lib.hid ((HB5.out.alloc HB5.out.size (.cells #[.int .i64 (i : Int), .string ⟨#[]⟩, .string ⟨#[]⟩, .int .i64 0] 23)).trans (hb6.mono (by have := HB5.out.size; simp; omega))); obtain ⟨⟨a0, a1, a2, a3⟩, ⟨g0, g1, g2, g3⟩⟩ := e4_all HX7.out; have c1 := keep1 hb6 (old_cell _ c1); clear HX6 hb6))
            have HX9 := Lib.hid (HX8.out)
            have HB9 : Hid (Below w2.heap.size w2 w7) := HB7.out
            clear a0 a1 a2 a3 g0 g1 g2 g3
            generalize w7 = wi0 at *
            generalize hb6n : w5.heap.size = b6 at *
            have hb6w : w2.heap.size ≤ b6 := by have := HB5.out.size; omega
            go_loopg [8] 512 (fun g v wq => ∃ (m : Nat) (z : Int), g = 512 - m ∧ m ≤ 512 ∧ v = .int .i64 m ∧ Hid (∀ n : Nat, n < m → lineE (i : Int) (x1) (([] : Bs)) (n : Int) ≠ L s) ∧ Hid (wq.heap[b6]? = some (.cells #[.int .i64 (i : Int), .string (B x1), .string ((⟨#[]⟩ : ByteArray)), .int .i64 z] 23 (0, 0))) ∧ Hid (Below w2.heap.size w2 wq))
            case atStart => exact ⟨0, 0, rfl, by omega, rfl, (show ∀ n : Nat, n < 0 → _ from fun n h => by omega), HX9.out, HB9.out⟩
            case round =>
              obtain ⟨m, z, rfl, hm, rfl, HM, HXQ, HBQ⟩ := hrel
              clear HX9 HB9
              obtain ⟨⟨a0, a1, a2, a3⟩, ⟨g0, g1, g2, g3⟩⟩ := e4_all HXQ.out
              by_cases hm5 : m < 512
              case neg =>
                obtain rfl : m = 512 := by omega
                have HN := Lib.hid (HNN.out 512 _ _ HFT.out.1 HFT.out.2 HM.out (.inl rfl))
                go_wp2_with fail
                go_roundg (10 - (i + 1))
                case measure => omega
                case rel => exact ⟨i + 1, rfl, by omega, by omega, by go_num, HN.out, HBQ.out⟩
              have hm5q : decide ((m : Int) < 512) = true := by simp; omega
              have HXS := Lib.hid (e4_3 HXQ.out (.int .i64 (m : Int)))
              have HBS := Lib.hid (HBQ.out.setCell (p := ⟨b6, 3, none⟩) hb6w (.int .i64 (m : Int)))
              obtain ⟨sl, hsl⟩ : ∃ sl, B (lineE (i : Int) (x1) (([] : Bs)) (m : Int)) = sl := ⟨_, rfl⟩
              have L1 := Lib.hid (LL.out (m : Int))
              rw [hsl] at L1
              by_cases hle : lineE (i : Int) (x1) (([] : Bs)) (m : Int) = L s
              · have h5 : (sl.toList == s.toList) = true := by rw [← hsl, L_toList, L_toList, L_B, hle]; simp
                have HO := Lib.hid (some_end (L s) (i : Int) (x1) (([] : Bs)) (m : Int) HLN.out hle)
                clear hle hsl
                go_wp2_with (go_at_call 8; refine (L1.out _).mono ?_; rintro e w8 ⟨rfl, hb8⟩; have HX88 := Lib.hid (kept_block HXS.out hb8); have HB88 := Lib.hid (HBS.out.trans (hb8.mono HBS.out.size)); have HZ8 := Lib.hid (kept_block HZ2.out HB88.out); obtain ⟨⟨a0, a1, a2, a3⟩, ⟨g0, g1, g2, g3⟩⟩ := e4_all HX88.out; obtain ⟨⟨z0, z1, z2, z3⟩, ⟨y0, y1, y2, y3⟩⟩ := e4_all HZ8.out; clear hb8)
                refine rd_end _ rfl rfl (put4_heap HZ8.out _ _ _ _) ⟨⟨_, HO.out, ?_⟩, put4_below (Nat.le_refl _) (HB2.out.trans (HB88.out.mono HB2.out.size)) _ _ _ _⟩
                show _ = Ending.returned (.tuple #[.agg #[.int .i64 (i : Int), .string (B (x1)), .string (B (([] : Bs))), .int .i64 (m : Int)], .bool true])
                first | rfl | (rw [← HLB.out.1, ← HLB.out.2, B_L, B_L]) | (rw [← HLB.out.1, B_L])
              · have h5 : (sl.toList == s.toList) = false := by rw [← hsl, L_toList, L_toList, L_B]; simpa using hle
                have HMN : Hid (∀ n : Nat, n < m + 1 → lineE (i : Int) (x1) (([] : Bs)) (n : Int) ≠ L s) := fun n h => by
                  by_cases hn : n < m
                  · exact HM.out n hn
                  · obtain rfl : n = m := by omega
                    exact hle
                clear hle hsl
                cases nn with
                | true =>
                  go_wp2_with (first | (go_at_call 8; refine (L1.out _).mono ?_; rintro e w8 ⟨rfl, hb8⟩; have HX88 := Lib.hid (kept_block HXS.out hb8); have HB88 := Lib.hid (HBS.out.trans (hb8.mono HBS.out.size)); clear hb8) | (go_at_call 22; refine (F1.out _).mono ?_; rintro e w9 ⟨rfl, hb9⟩; have HX99 := Lib.hid (kept_block HX88.out hb9); have HB99 := Lib.hid (HB88.out.trans (hb9.mono HB88.out.size)); clear hb9))
                  go_roundg (512 - (m + 1))
                  case measure => omega
                  case rel => exact ⟨m + 1, (m : Int), rfl, by omega, by go_num, HMN.out, HX99.out, HB99.out⟩
                | false =>
                  have HN := Lib.hid (HNN.out (m + 1) _ _ HFT.out.1 HFT.out.2 HMN.out (.inr ⟨rfl, by omega⟩))
                  go_wp2_with (first | (go_at_call 8; refine (L1.out _).mono ?_; rintro e w8 ⟨rfl, hb8⟩; have HB88 := Lib.hid (HBS.out.trans (hb8.mono HBS.out.size)); clear hb8) | (go_at_call 22; refine (F1.out _).mono ?_; rintro e w9 ⟨rfl, hb9⟩; have HB99 := Lib.hid (HB88.out.trans (hb9.mono HB88.out.size)); clear hb9))
                  go_roundg (10 - (i + 1))
                  case measure => omega
                  case rel => exact ⟨i + 1, rfl, by omega, by omega, by go_num, HN.out, HB99.out⟩
      · have h1q : decide ((1 : Int) < (ws.length : Int)) = false := by simp; omega
        cases tt with
        | false =>
          have HFT : Hid (fOf (i : Int) ws = ([] : Bs) ∧ tOf (i : Int) ws = ([] : Bs)) := ⟨by rw [HFO.out, decide_eq_false h1l]; rfl, by rw [HTO.out]; rfl⟩
          have hfz : ((⟨#[]⟩ : ByteArray)).size ≤ 1000 := by decide
          have htz : ((⟨#[]⟩ : ByteArray)).size ≤ 1000 := by decide
          have HLB : Hid (L ((⟨#[]⟩ : ByteArray)) = ([] : Bs) ∧ L ((⟨#[]⟩ : ByteArray)) = ([] : Bs)) := ⟨rfl, rfl⟩
          have LL : Hid (∀ (n : Int) W, Calls Tryd.prog 8 #[.agg #[.int .i64 (i : Int), .string ((⟨#[]⟩ : ByteArray)), .string ((⟨#[]⟩ : ByteArray)), .int .i64 n]] W fun e w' => e = .returned (.string (B (lineE (i : Int) (([] : Bs)) (([] : Bs)) n))) ∧ Below W.heap.size W w') := fun n W => by have h := rline_walk (i : Int) ((⟨#[]⟩ : ByteArray)) ((⟨#[]⟩ : ByteArray)) n hfz htz W; first | (rw [HLB.out.1, HLB.out.2] at h; exact h) | (rw [HLB.out.1] at h; exact h)
          go_wp2_with (first | (go_at_call 22; refine (F1.out _).mono ?_; rintro e w7 ⟨rfl, hb7⟩; have HX8 := Lib.hid (kept_block (HX7.out) hb7); have HB7 := Lib.hid (HB6.out.trans (hb7.mono (by have := HB6.out.size; have := HB5.out.size; simp [World.setCell]; omega))); obtain ⟨⟨a0, a1, a2, a3⟩, ⟨g0, g1, g2, g3⟩⟩ := e4_all HX8.out; clear HX7 hb7) | (go_at_call 22; refine (F1.out _).mono ?_; rintro e w6 ⟨rfl, hb6⟩; have HX7 := Lib.hid (kept_block HX6.out hb6); have HB6 := Lib.hid ((HB5.out.alloc HB5.out.size (.cells #[.int .i64 (i : Int), .string ⟨#[]⟩, .string ⟨#[]⟩, .int .i64 0] 23)).trans (hb6.mono (by have := HB5.out.size; simp; omega))); obtain ⟨⟨a0, a1, a2, a3⟩, ⟨g0, g1, g2, g3⟩⟩ := e4_all HX7.out; clear HX6 hb6))
          have HX9 := Lib.hid (HX8.out)
          have HB9 : Hid (Below w2.heap.size w2 w7) := HB7.out
          clear a0 a1 a2 a3 g0 g1 g2 g3
          generalize w7 = wi0 at *
          generalize hb6n : w5.heap.size = b6 at *
          have hb6w : w2.heap.size ≤ b6 := by have := HB5.out.size; omega
          go_loopg [8] 512 (fun g v wq => ∃ (m : Nat) (z : Int), g = 512 - m ∧ m ≤ 512 ∧ v = .int .i64 m ∧ Hid (∀ n : Nat, n < m → lineE (i : Int) (([] : Bs)) (([] : Bs)) (n : Int) ≠ L s) ∧ Hid (wq.heap[b6]? = some (.cells #[.int .i64 (i : Int), .string ((⟨#[]⟩ : ByteArray)), .string ((⟨#[]⟩ : ByteArray)), .int .i64 z] 23 (0, 0))) ∧ Hid (Below w2.heap.size w2 wq))
          case atStart => exact ⟨0, 0, rfl, by omega, rfl, (show ∀ n : Nat, n < 0 → _ from fun n h => by omega), HX9.out, HB9.out⟩
          case round =>
            obtain ⟨m, z, rfl, hm, rfl, HM, HXQ, HBQ⟩ := hrel
            clear HX9 HB9
            obtain ⟨⟨a0, a1, a2, a3⟩, ⟨g0, g1, g2, g3⟩⟩ := e4_all HXQ.out
            by_cases hm5 : m < 512
            case neg =>
              obtain rfl : m = 512 := by omega
              have HN := Lib.hid (HNN.out 512 _ _ HFT.out.1 HFT.out.2 HM.out (.inl rfl))
              go_wp2_with fail
              go_roundg (10 - (i + 1))
              case measure => omega
              case rel => exact ⟨i + 1, rfl, by omega, by omega, by go_num, HN.out, HBQ.out⟩
            have hm5q : decide ((m : Int) < 512) = true := by simp; omega
            have HXS := Lib.hid (e4_3 HXQ.out (.int .i64 (m : Int)))
            have HBS := Lib.hid (HBQ.out.setCell (p := ⟨b6, 3, none⟩) hb6w (.int .i64 (m : Int)))
            obtain ⟨sl, hsl⟩ : ∃ sl, B (lineE (i : Int) (([] : Bs)) (([] : Bs)) (m : Int)) = sl := ⟨_, rfl⟩
            have L1 := Lib.hid (LL.out (m : Int))
            rw [hsl] at L1
            by_cases hle : lineE (i : Int) (([] : Bs)) (([] : Bs)) (m : Int) = L s
            · have h5 : (sl.toList == s.toList) = true := by rw [← hsl, L_toList, L_toList, L_B, hle]; simp
              have HO := Lib.hid (some_end (L s) (i : Int) (([] : Bs)) (([] : Bs)) (m : Int) HLN.out hle)
              clear hle hsl
              go_wp2_with (go_at_call 8; refine (L1.out _).mono ?_; rintro e w8 ⟨rfl, hb8⟩; have HX88 := Lib.hid (kept_block HXS.out hb8); have HB88 := Lib.hid (HBS.out.trans (hb8.mono HBS.out.size)); have HZ8 := Lib.hid (kept_block HZ2.out HB88.out); obtain ⟨⟨a0, a1, a2, a3⟩, ⟨g0, g1, g2, g3⟩⟩ := e4_all HX88.out; obtain ⟨⟨z0, z1, z2, z3⟩, ⟨y0, y1, y2, y3⟩⟩ := e4_all HZ8.out; clear hb8)
              refine rd_end _ rfl rfl (put4_heap HZ8.out _ _ _ _) ⟨⟨_, HO.out, ?_⟩, put4_below (Nat.le_refl _) (HB2.out.trans (HB88.out.mono HB2.out.size)) _ _ _ _⟩
              show _ = Ending.returned (.tuple #[.agg #[.int .i64 (i : Int), .string (B (([] : Bs))), .string (B (([] : Bs))), .int .i64 (m : Int)], .bool true])
              first | rfl | (rw [← HLB.out.1, ← HLB.out.2, B_L, B_L]) | (rw [← HLB.out.1, B_L])
            · have h5 : (sl.toList == s.toList) = false := by rw [← hsl, L_toList, L_toList, L_B]; simpa using hle
              have HMN : Hid (∀ n : Nat, n < m + 1 → lineE (i : Int) (([] : Bs)) (([] : Bs)) (n : Int) ≠ L s) := fun n h => by
                by_cases hn : n < m
                · exact HM.out n hn
                · obtain rfl : n = m := by omega
                  exact hle
              clear hle hsl
              cases nn with
              | true =>
                go_wp2_with (first | (go_at_call 8; refine (L1.out _).mono ?_; rintro e w8 ⟨rfl, hb8⟩; have HX88 := Lib.hid (kept_block HXS.out hb8); have HB88 := Lib.hid (HBS.out.trans (hb8.mono HBS.out.size)); clear hb8) | (go_at_call 22; refine (F1.out _).mono ?_; rintro e w9 ⟨rfl, hb9⟩; have HX99 := Lib.hid (kept_block HX88.out hb9); have HB99 := Lib.hid (HB88.out.trans (hb9.mono HB88.out.size)); clear hb9))
                go_roundg (512 - (m + 1))
                case measure => omega
                case rel => exact ⟨m + 1, (m : Int), rfl, by omega, by go_num, HMN.out, HX99.out, HB99.out⟩
              | false =>
                have HN := Lib.hid (HNN.out (m + 1) _ _ HFT.out.1 HFT.out.2 HMN.out (.inr ⟨rfl, by omega⟩))
                go_wp2_with (first | (go_at_call 8; refine (L1.out _).mono ?_; rintro e w8 ⟨rfl, hb8⟩; have HB88 := Lib.hid (HBS.out.trans (hb8.mono HBS.out.size)); clear hb8) | (go_at_call 22; refine (F1.out _).mono ?_; rintro e w9 ⟨rfl, hb9⟩; have HB99 := Lib.hid (HB88.out.trans (hb9.mono HB88.out.size)); clear hb9))
                go_roundg (10 - (i + 1))
                case measure => omega
                case rel => exact ⟨i + 1, rfl, by omega, by omega, by go_num, HN.out, HB99.out⟩
        | true =>
          have hat : ¬ 1 < ws.length := h1l
          have hatq : decide ((1 : Int) < (ws.length : Int)) = false := h1q
          have HFT : Hid (fOf (i : Int) ws = ([] : Bs) ∧ tOf (i : Int) ws = ([] : Bs)) := ⟨by rw [HFO.out, decide_eq_false h1l]; rfl, by rw [HTO.out, (by rw [HAO.out, decide_eq_false h1l]; rfl : atT (i : Int) ws = 1), decide_eq_false hat]; rfl⟩
          have hfz : ((⟨#[]⟩ : ByteArray)).size ≤ 1000 := by decide
          have htz : ((⟨#[]⟩ : ByteArray)).size ≤ 1000 := by decide
          have HLB : Hid (L ((⟨#[]⟩ : ByteArray)) = ([] : Bs) ∧ L ((⟨#[]⟩ : ByteArray)) = ([] : Bs)) := ⟨rfl, rfl⟩
          have LL : Hid (∀ (n : Int) W, Calls Tryd.prog 8 #[.agg #[.int .i64 (i : Int), .string ((⟨#[]⟩ : ByteArray)), .string ((⟨#[]⟩ : ByteArray)), .int .i64 n]] W fun e w' => e = .returned (.string (B (lineE (i : Int) (([] : Bs)) (([] : Bs)) n))) ∧ Below W.heap.size W w') := fun n W => by have h := rline_walk (i : Int) ((⟨#[]⟩ : ByteArray)) ((⟨#[]⟩ : ByteArray)) n hfz htz W; first | (rw [HLB.out.1, HLB.out.2] at h; exact h) | (rw [HLB.out.1] at h; exact h)
          go_wp2_with (first | (go_at_call 22; refine (F1.out _).mono ?_; rintro e w7 ⟨rfl, hb7⟩; have HX8 := Lib.hid (kept_block (HX7.out) hb7); have HB7 := Lib.hid (HB6.out.trans (hb7.mono (by have := HB6.out.size; have := HB5.out.size; simp [World.setCell]; omega))); obtain ⟨⟨a0, a1, a2, a3⟩, ⟨g0, g1, g2, g3⟩⟩ := e4_all HX8.out; clear HX7 hb7) | (go_at_call 22; refine (F1.out _).mono ?_; rintro e w6 ⟨rfl, hb6⟩; have HX7 := Lib.hid (kept_block HX6.out hb6); have HB6 := Lib.hid ((HB5.out.alloc HB5.out.size (.cells #[.int .i64 (i : Int), .string ⟨#[]⟩, .string ⟨#[]⟩, .int .i64 0] 23)).trans (hb6.mono (by have := HB5.out.size; simp; omega))); obtain ⟨⟨a0, a1, a2, a3⟩, ⟨g0, g1, g2, g3⟩⟩ := e4_all HX7.out; clear HX6 hb6))
          have HX9 := Lib.hid (HX8.out)
          have HB9 : Hid (Below w2.heap.size w2 w7) := HB7.out
          clear a0 a1 a2 a3 g0 g1 g2 g3
          generalize w7 = wi0 at *
          generalize hb6n : w5.heap.size = b6 at *
          have hb6w : w2.heap.size ≤ b6 := by have := HB5.out.size; omega
          go_loopg [8] 512 (fun g v wq => ∃ (m : Nat) (z : Int), g = 512 - m ∧ m ≤ 512 ∧ v = .int .i64 m ∧ Hid (∀ n : Nat, n < m → lineE (i : Int) (([] : Bs)) (([] : Bs)) (n : Int) ≠ L s) ∧ Hid (wq.heap[b6]? = some (.cells #[.int .i64 (i : Int), .string ((⟨#[]⟩ : ByteArray)), .string ((⟨#[]⟩ : ByteArray)), .int .i64 z] 23 (0, 0))) ∧ Hid (Below w2.heap.size w2 wq))
          case atStart => exact ⟨0, 0, rfl, by omega, rfl, (show ∀ n : Nat, n < 0 → _ from fun n h => by omega), HX9.out, HB9.out⟩
          case round =>
            obtain ⟨m, z, rfl, hm, rfl, HM, HXQ, HBQ⟩ := hrel
            clear HX9 HB9
            obtain ⟨⟨a0, a1, a2, a3⟩, ⟨g0, g1, g2, g3⟩⟩ := e4_all HXQ.out
            by_cases hm5 : m < 512
            case neg =>
              obtain rfl : m = 512 := by omega
              have HN := Lib.hid (HNN.out 512 _ _ HFT.out.1 HFT.out.2 HM.out (.inl rfl))
              go_wp2_with fail
              go_roundg (10 - (i + 1))
              case measure => omega
              case rel => exact ⟨i + 1, rfl, by omega, by omega, by go_num, HN.out, HBQ.out⟩
            have hm5q : decide ((m : Int) < 512) = true := by simp; omega
            have HXS := Lib.hid (e4_3 HXQ.out (.int .i64 (m : Int)))
            have HBS := Lib.hid (HBQ.out.setCell (p := ⟨b6, 3, none⟩) hb6w (.int .i64 (m : Int)))
            obtain ⟨sl, hsl⟩ : ∃ sl, B (lineE (i : Int) (([] : Bs)) (([] : Bs)) (m : Int)) = sl := ⟨_, rfl⟩
            have L1 := Lib.hid (LL.out (m : Int))
            rw [hsl] at L1
            by_cases hle : lineE (i : Int) (([] : Bs)) (([] : Bs)) (m : Int) = L s
            · have h5 : (sl.toList == s.toList) = true := by rw [← hsl, L_toList, L_toList, L_B, hle]; simp
              have HO := Lib.hid (some_end (L s) (i : Int) (([] : Bs)) (([] : Bs)) (m : Int) HLN.out hle)
              clear hle hsl
              go_wp2_with (go_at_call 8; refine (L1.out _).mono ?_; rintro e w8 ⟨rfl, hb8⟩; have HX88 := Lib.hid (kept_block HXS.out hb8); have HB88 := Lib.hid (HBS.out.trans (hb8.mono HBS.out.size)); have HZ8 := Lib.hid (kept_block HZ2.out HB88.out); obtain ⟨⟨a0, a1, a2, a3⟩, ⟨g0, g1, g2, g3⟩⟩ := e4_all HX88.out; obtain ⟨⟨z0, z1, z2, z3⟩, ⟨y0, y1, y2, y3⟩⟩ := e4_all HZ8.out; clear hb8)
              refine rd_end _ rfl rfl (put4_heap HZ8.out _ _ _ _) ⟨⟨_, HO.out, ?_⟩, put4_below (Nat.le_refl _) (HB2.out.trans (HB88.out.mono HB2.out.size)) _ _ _ _⟩
              show _ = Ending.returned (.tuple #[.agg #[.int .i64 (i : Int), .string (B (([] : Bs))), .string (B (([] : Bs))), .int .i64 (m : Int)], .bool true])
              first | rfl | (rw [← HLB.out.1, ← HLB.out.2, B_L, B_L]) | (rw [← HLB.out.1, B_L])
            · have h5 : (sl.toList == s.toList) = false := by rw [← hsl, L_toList, L_toList, L_B]; simpa using hle
              have HMN : Hid (∀ n : Nat, n < m + 1 → lineE (i : Int) (([] : Bs)) (([] : Bs)) (n : Int) ≠ L s) := fun n h => by
                by_cases hn : n < m
                · exact HM.out n hn
                · obtain rfl : n = m := by omega
                  exact hle
              clear hle hsl
              cases nn with
              | true =>
                go_wp2_with (first | (go_at_call 8; refine (L1.out _).mono ?_; rintro e w8 ⟨rfl, hb8⟩; have HX88 := Lib.hid (kept_block HXS.out hb8); have HB88 := Lib.hid (HBS.out.trans (hb8.mono HBS.out.size)); clear hb8) | (go_at_call 22; refine (F1.out _).mono ?_; rintro e w9 ⟨rfl, hb9⟩; have HX99 := Lib.hid (kept_block HX88.out hb9); have HB99 := Lib.hid (HB88.out.trans (hb9.mono HB88.out.size)); clear hb9))
                go_roundg (512 - (m + 1))
                case measure => omega
                case rel => exact ⟨m + 1, (m : Int), rfl, by omega, by go_num, HMN.out, HX99.out, HB99.out⟩
              | false =>
                have HN := Lib.hid (HNN.out (m + 1) _ _ HFT.out.1 HFT.out.2 HMN.out (.inr ⟨rfl, by omega⟩))
                go_wp2_with (first | (go_at_call 8; refine (L1.out _).mono ?_; rintro e w8 ⟨rfl, hb8⟩; have HB88 := Lib.hid (HBS.out.trans (hb8.mono HBS.out.size)); clear hb8) | (go_at_call 22; refine (F1.out _).mono ?_; rintro e w9 ⟨rfl, hb9⟩; have HB99 := Lib.hid (HB88.out.trans (hb9.mono HB88.out.size)); clear hb9))
                go_roundg (10 - (i + 1))
                case measure => omega
                case rel => exact ⟨i + 1, rfl, by omega, by omega, by go_num, HN.out, HB99.out⟩
end Go.Proofs.YtcapaiiegfedmaaDoor
