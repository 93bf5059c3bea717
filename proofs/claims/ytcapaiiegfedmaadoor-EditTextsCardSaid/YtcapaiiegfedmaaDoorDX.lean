/- edit.Read: the edit whose line it is. -/
import Derived.Test.YtcapaiiegfedmaaDoorDV
namespace Go.Proofs.YtcapaiiegfedmaaDoor
open Go.RowKit Go.Shelf
theorem splitS_walk (s : ByteArray) (hs : s.size ≤ 100000) (w : World) : Calls Tryd.prog 28 #[.string s, .string ⟨#[32]⟩] w fun e w' =>
    ∃ g, e = .returned (.slice (some ⟨g, 0, none⟩) (splS (L s)).length (splS (L s)).length) ∧ Slc w' (some ⟨g, 0, none⟩) ((splS (L s)).map strV) ∧ Below w.heap.size w w' :=
  (split_walk s hs w).mono fun e w' ⟨he, hw⟩ => by
    subst hw
    have hg := World.alloc_heap_new w (.cells ((splS (L s)).map strV).toArray 9)
    refine ⟨_, he, .inr ⟨_, 0, rfl, by simp, fun i v hv => ?_⟩, (Below.refl _ _).alloc (Nat.le_refl _) _⟩
    have := cells_new hg i v hv
    rwa [addr_plus] at this
theorem er_end {W : World} {b : Nat} {v0 v1 v2 v3 : Value} {n : Int} {R : Ending → World → Prop} (tmps : Array Value) (h2 : tmps.getD 2 undef = .pointer (some ⟨b, 0, none⟩)) (h3 : tmps.getD 3 undef = .int .i64 n)
    (hX : W.heap[b]? = some (.cells #[v0, v1, v2, v3] 23 (0, 0))) (hR : R (.returned (.tuple #[.agg #[v0, v1, v2, v3], .int .i64 n])) W) :
    bodyPost Tryd.prog Tryd.f13 R .ret { tmps := tmps, defers := [] } W := by
  refine bodyPost_ret (v := .tuple #[.agg #[v0, v1, v2, v3], .int .i64 n]) ?_ rfl hR
  obtain ⟨⟨z0, z1, z2, z3⟩, _⟩ := e4_all hX
  simp only [Array.getD_eq_getD_getElem?] at h2 h3
  simp [results, Tryd.results13, h2, h3, go_sem, z0, z1, z2, z3, loadVar]
/-- the reader's variables -/
def RSt (w : World) (b4 b5 b6 : Nat) (k : Int) (fr tt nn : Bool) (f t : ByteArray) (n : Int) (ws : List Bs) (W : World) : Prop :=
  W.heap[w.heap.size]? = some (.cells #[.int .i64 0, .string ⟨#[]⟩, .string ⟨#[]⟩, .int .i64 0] 23 (0, 0)) ∧ W.heap[b5]? = some (.cells #[.int .i64 k, .string f, .string t, .int .i64 n] 23 (0, 0)) ∧
  W.heap[b6]? = some (.cells #[.bool fr, .bool tt, .bool nn] 44 (0, 0)) ∧ WSt b4 ws W ∧ Below w.heap.size w W ∧ w.heap.size < b4 ∧ b4 < b5 ∧ b5 < b6
theorem RSt.keep {w : World} {b4 b5 b6 : Nat} {k : Int} {fr tt nn : Bool} {f t : ByteArray} {n : Int} {ws : List Bs} {W W' : World} (h : RSt w b4 b5 b6 k fr tt nn f t n ws W) (hb : Below W.heap.size W W') : RSt w b4 b5 b6 k fr tt nn f t n ws W' := by
  obtain ⟨h1, h2, h3, h4, h5, h6, h7, h8⟩ := h
  exact ⟨kept_block h1 hb, kept_block h2 hb, kept_block h3 hb, h4.keep hb, h5.trans (hb.mono h5.size), h6, h7, h8⟩
theorem RSt.next {w : World} {b4 b5 b6 : Nat} {k : Int} {fr tt nn : Bool} {f t : ByteArray} {n : Int} {ws ws' : List Bs} {W W' : World} (h : RSt w b4 b5 b6 k fr tt nn f t n ws W) (h4' : WSt b4 ws' W') (hk : ∀ j, j ≠ b4 → W'.heap[j]? = W.heap[j]?) (hb : Below b4 W W') : RSt w b4 b5 b6 k fr tt nn f t n ws' W' := by
  obtain ⟨h1, h2, h3, h4, h5, h6, h7, h8⟩ := h
  exact ⟨(hk _ (by omega)).trans h1, (hk _ (by omega)).trans h2, (hk _ (by omega)).trans h3, h4', h5.trans ⟨hb.os, hb.tape, hb.output, hb.size, fun j hj => hb.block j (by omega)⟩, h6, h7, h8⟩
theorem RSt.put {w : World} {b4 b5 b6 : Nat} {k : Int} {fr tt nn : Bool} {f t f' t' : ByteArray} {n n' : Int} {ws : List Bs} {W : World} (h : RSt w b4 b5 b6 k fr tt nn f t n ws W) (i : Nat) (v : Value)
    (hx : (W.setCell ⟨b5, i, none⟩ v).heap[b5]? = some (.cells #[.int .i64 k, .string f', .string t', .int .i64 n'] 23 (0, 0))) : RSt w b4 b5 b6 k fr tt nn f' t' n' ws (W.setCell ⟨b5, i, none⟩ v) := by
  obtain ⟨h1, h2, h3, h4, h5, h6, h7, h8⟩ := h
  have hk : ∀ j, j ≠ b5 → (W.setCell ⟨b5, i, none⟩ v).heap[j]? = W.heap[j]? := fun j hj => Below.heap_setCell _ _ _ _ hj
  exact ⟨(hk _ (by omega)).trans h1, hx, (hk _ (by omega)).trans h3, h4.other (by simp [World.setCell]) hk h7, h5.setCell (p := ⟨b5, i, none⟩) (by show w.heap.size ≤ b5; omega) v, h6, h7, h8⟩
theorem RSt.drew {w : World} {b4 b5 b6 : Nat} {k : Int} {fr tt nn : Bool} {f t : ByteArray} {n : Int} {ws : List Bs} {W : World} (h : RSt w b4 b5 b6 k fr tt nn f t n ws W) : RSt w b4 b5 b6 k fr tt nn f t n ws W.drew := by
  obtain ⟨h1, h2, h3, h4, h5, h6, h7, h8⟩ := h
  exact ⟨h1, h2, h3, h4, h5.drew, h6, h7, h8⟩
theorem pop_len (h : Bool) (ws : List Bs) (M : Nat) (hx : ∀ x ∈ ws, x.length ≤ M) : (popW h ws).1.length ≤ M ∧ (∀ x ∈ (popW h ws).2, x.length ≤ M) ∧ (popW h ws).2.length ≤ ws.length := by
  unfold popW
  split
  · cases ws with
    | nil => simp [headW]
    | cons x t => exact ⟨hx x (by simp), fun y hy => hx y (by simp; exact .inr hy), by simp⟩
  · exact ⟨Nat.zero_le _, hx, Nat.le_refl _⟩
theorem two_far {W W' : World} {b g : Nat} {u v : Value} {i j : Nat} (hk : ∀ j, j ≠ b → W'.heap[j]? = W.heap[j]?) (hg : g ≠ b) (h : W.cell? ⟨g, i, none⟩ = some u ∧ W.cell? ⟨g, j, none⟩ = some v) : W'.cell? ⟨g, i, none⟩ = some u ∧ W'.cell? ⟨g, j, none⟩ = some v :=
  ⟨(World.cell?_of_block (a := ⟨g, i, none⟩) (hk g hg)).trans h.1, (World.cell?_of_block (a := ⟨g, j, none⟩) (hk g hg)).trans h.2⟩
theorem rst_tail {w W : World} {b4 b5 b6 g n1 c1 : Nat} {k : Int} {fr tt nn : Bool} {f t : ByteArray} {n : Int} {x0 : Bs} {tl : List Bs}
    (h1 : W.heap[w.heap.size]? = some (.cells #[.int .i64 0, .string ⟨#[]⟩, .string ⟨#[]⟩, .int .i64 0] 23 (0, 0))) (h5 : W.heap[b5]? = some (.cells #[.int .i64 k, .string f, .string t, .int .i64 n] 23 (0, 0)))
    (h6 : W.heap[b6]? = some (.cells #[.bool fr, .bool tt, .bool nn] 44 (0, 0))) (h4 : W.heap[b4]? = some (.cells #[.slice (some ⟨g, 0, none⟩) n1 c1] 46 (0, 0))) (hsl : Slc W (some ⟨g, 0, none⟩) ((x0 :: tl).map strV)) (hg : g < b4)
    (hb : Below w.heap.size w W) (o1 : w.heap.size < b4) (o2 : b4 < b5) (o3 : b5 < b6) (A' : Option Addr) (c' : Nat) (hA : (A' = some ⟨g, 0, none⟩ ∧ tl = []) ∨ A' = some ⟨g, 1, none⟩) (hc : tl.length ≤ c') (hc2 : c' ≤ 100000) :
    RSt w b4 b5 b6 k fr tt nn f t n tl (W.setCell ⟨b4, 0, none⟩ (.slice A' tl.length c')) := by
  have hk : ∀ j, j ≠ b4 → (W.setCell ⟨b4, 0, none⟩ (.slice A' tl.length c')).heap[j]? = W.heap[j]? := fun j hj => Below.heap_setCell _ _ _ _ hj
  have hs2 : Slc W A' (tl.map strV) := by
    rcases hA with ⟨_, rfl⟩ | rfl
    · exact .inl rfl
    · rcases hsl with h | ⟨g', o', e, h, hh⟩
      · cases h
      · cases e
        refine .inr ⟨g, 1, rfl, h, fun i v hv => ?_⟩
        have := hh (i + 1) v (by simpa using hv)
        rwa [show 0 + (i + 1) = 1 + i by omega] at this
  have hA2 : ∀ g' o', A' = some ⟨g', o', none⟩ → g' < b4 := by
    intro g' o' e
    rcases hA with ⟨rfl, _⟩ | rfl <;> (cases e; exact hg)
  exact ⟨(hk _ (by omega)).trans h1, (hk _ (by omega)).trans h5, (hk _ (by omega)).trans h6, ⟨A', c', one_set h4, hs2.other b4 (by simp [World.setCell]) hk (fun g' o' e => by have := hA2 g' o' e; omega), hc, hc2, hA2⟩, hb.setCell (p := ⟨b4, 0, none⟩) (by show w.heap.size ≤ b4; omega) _, o1, o2, o3⟩
set_option maxRecDepth 100000 in
set_option maxHeartbeats 8000000 in
theorem eread_walk (s : ByteArray) (hs : s.size ≤ 1000) (w : World) :
    Calls Tryd.prog 13 #[.string s] w fun e w' => (∃ o, OneE (L s) o ∧ e = .returned (.tuple #[.agg (edV o), .int .i64 (if o.isSome then 0 else 3)])) ∧ Below w.heap.size w w' := by
  have S1 := Lib.hid (fun W => splitS_walk s (by omega) W)
  have K1 := Lib.hid (fun (x : ByteArray) W => kindOf_walk x W)
  have F1 := Lib.hid (fun k W => eform_exact k W)
  have N1 := Lib.hid (fun (x : ByteArray) (h : x.size ≤ 100000) W => enumber_walk x h W)
  have RR := Lib.hid (fun k (f t : ByteArray) n (h1 : f.size ≤ 100000) (h2 : t.size ≤ 100000) W => eright_walk k f t n h1 h2 W)
  have hsl0 : ∀ x ∈ splS (L s), x.length ≤ 1000 := fun x hx => by have := splS_len (L s) x hx; rw [L_len] at this; omega
  have hwl : (splS (L s)).length ≤ 1001 := by have := splS_count2 (L s); rw [L_len] at this; omega
  obtain ⟨x0, tl, hws⟩ : ∃ x0 tl, splS (L s) = x0 :: tl := ⟨_, _, splS_eq _⟩
  have HWW := Lib.hid hws
  rw [hws] at hsl0 hwl S1
  have HSL0 := Lib.hid hsl0
  clear hws hsl0
  simp only [List.length_cons] at hwl S1
  have HZ := Lib.hid (World.alloc_heap_new w (.cells #[.int .i64 0, .string ⟨#[]⟩, .string ⟨#[]⟩, .int .i64 0] 23))
  have HB0 := Lib.hid ((Below.refl w.heap.size w).alloc (Nat.le_refl _) (.cells #[.int .i64 0, .string ⟨#[]⟩, .string ⟨#[]⟩, .int .i64 0] 23))
  have hg2 : (0 : Int) < ((tl.length + 1 : Nat) : Int) := by omega
  have hg1 : (1 : Int) ≤ ((tl.length + 1 : Nat) : Int) := by omega
  go_enter Tryd.func13, Tryd.ntmps13
  go_upto_region 4 with (first
    | (go_at_call 28; refine (S1.out _).mono ?_; rintro e w1 ⟨g, rfl, hsl, hb1⟩; have HSL := Lib.hid hsl; have hgl : g < w1.heap.size := (by obtain ⟨b, o, e, h1, _⟩ := hsl.str (k := 0) (x := x0) rfl; cases e; exact h1); have q0 : w1.cell? ⟨g, 0, none⟩ = some (.string (B x0)) := (by obtain ⟨b, o, e, h1, h2⟩ := hsl.str (k := 0) (x := x0) rfl; cases e; exact h2); have HB1 := Lib.hid (HB0.out.trans (hb1.mono HB0.out.size)); have HZ1 := Lib.hid (kept_block HZ.out hb1); have HX4 := Lib.hid (World.alloc_heap_new w1 (.cells #[.slice (some ⟨g, 0, none⟩) (tl.length + 1) (tl.length + 1)] 46)); clear hsl hb1)
    | (go_at_call 29; refine (K1.out _ _).mono ?_; rintro e w3 ⟨⟨k, rfl, hk⟩, hb3⟩; have HK := Lib.hid hk; have HX43 := Lib.hid (kept_block HX4.out hb3); have HSL3 := Lib.hid ((HSL.out.keep ((Below.refl _ _).alloc (Nat.le_refl _) (.cells #[.slice (some ⟨g, 0, none⟩) (tl.length + 1) (tl.length + 1)] 46))).keep hb3); have HZ3 := Lib.hid (kept_block (kept_alloc HZ1.out (.cells #[.slice (some ⟨g, 0, none⟩) (tl.length + 1) (tl.length + 1)] 46)) hb3); have HB3 := Lib.hid ((HB1.out.alloc HB1.out.size (.cells #[.slice (some ⟨g, 0, none⟩) (tl.length + 1) (tl.length + 1)] 46)).trans (hb3.mono (by have := HB1.out.size; simp; omega))); have hs3 : w1.heap.size + 1 ≤ w3.heap.size := (by have := hb3.size; simpa using this); have HX5 := Lib.hid (World.alloc_heap_new w3 (.cells #[.int .i64 k, .string ⟨#[]⟩, .string ⟨#[]⟩, .int .i64 0] 23)); clear hk hb3 q0)
    | (go_at_call 19; refine (F1.out _ _).mono ?_; rintro e w5 ⟨rfl, hw5⟩; have HW5 := Lib.hid hw5; clear hw5))
  have hb35 : Below w3.heap.size w3 w5 := by rw [HW5.out]; exact ((Below.refl _ _).alloc (Nat.le_refl _) _).alloc (by simp) _
  have hx55 := kept_block (w' := w5) HX5.out (by rw [HW5.out]; exact (Below.refl _ _).alloc (Nat.le_refl _) _)
  have hs5 : w3.heap.size + 1 ≤ w5.heap.size := by have := (Array.getElem?_eq_some_iff.1 hx55).1; omega
  have HF6 := Lib.hid (World.alloc_heap_new w5 (.cells #[.bool (fromE k), .bool (toE k), .bool (nE k)] 44))
  have HX56 := Lib.hid (kept_alloc hx55 (.cells #[.bool (fromE k), .bool (toE k), .bool (nE k)] 44))
  have HX46 := Lib.hid (kept_alloc (kept_block HX43.out hb35) (.cells #[.bool (fromE k), .bool (toE k), .bool (nE k)] 44))
  have HZ6 := Lib.hid (kept_alloc (kept_block HZ3.out hb35) (.cells #[.bool (fromE k), .bool (toE k), .bool (nE k)] 44))
  have HSL6 := Lib.hid ((HSL3.out.keep hb35).keep ((Below.refl _ _).alloc (Nat.le_refl _) (.cells #[.bool (fromE k), .bool (toE k), .bool (nE k)] 44)))
  have HB6 := Lib.hid ((HB3.out.trans (hb35.mono HB3.out.size)).alloc (Nat.le_trans HB3.out.size hb35.size) (.cells #[.bool (fromE k), .bool (toE k), .bool (nE k)] 44))
  have hw1 : w.heap.size < w1.heap.size := (Array.getElem?_eq_some_iff.1 HZ1.out).1
  clear hb35 hx55 HX5 HX43 HZ3 HSL3 HB3 HX4 HZ1 HSL HB1 HZ HB0 HW5 S1 K1 F1
  have o2 : w1.heap.size < w3.heap.size := by omega
  have o3 : w3.heap.size < w5.heap.size := by omega
  clear hs3 hs5
  generalize w5.alloc (.cells #[.bool (fromE k), .bool (toE k), .bool (nE k)] 44) = w6 at *
  generalize w5.heap.size = b6 at *
  generalize w3.heap.size = b5 at *
  generalize w1.heap.size = b4 at *
  have c4 := cell1w HX46.out
  have f4 := free1w HX46.out
  have HWL := Lib.hid hwl
  go_cut [21] from 20 to 65 (fun v wx => Hid (RSt w b4 b5 b6 k (fromE k) (toE k) (nE k) ⟨#[]⟩ ⟨#[]⟩ 0 tl wx))
  case first =>
    have RT := Lib.hid (fun A' c' hA hc hc2 => rst_tail (A' := A') (c' := c') HZ6.out HX56.out HF6.out HX46.out HSL6.out hgl HB6.out hw1 o2 o3 hA hc hc2)
    cases tl with
    | nil =>
      have R9 := Lib.hid (RT.out (some ⟨g, 0, none⟩) 0 (.inl ⟨rfl, rfl⟩) (Nat.le_refl _) (by omega))
      clear RT
      go_wp2_with fail
      go_meet
      exact R9.out
    | cons y t9 =>
      have R9 := Lib.hid (RT.out (some ⟨g, 1, none⟩) (t9.length + 1) (.inr rfl) (Nat.le_refl _) (by have := HWL.out; simp at this; omega))
      clear RT
      go_wp2_with fail
      go_meet
      exact R9.out
  case rest =>
  have HR := hcut
  clear hcut c4 f4 HX46 HX56 HF6 HZ6 HSL6 HB6 hw1
  have HKI : Hid (KindIs (headW (splS (L s))) k) := by show KindIs _ _; rw [HWW.out]; have := HK.out; rw [L_B] at this; exact this
  have HBAD : Hid (∀ n ok, NumE (popW (nE k) (popW (toE k) (popW (fromE k) tl).2).2).1 n ok → ((nE k = true ∧ ok = false) ∨ (popW (nE k) (popW (toE k) (popW (fromE k) tl).2).2).2 ≠ [] ∨ rightE k (popW (fromE k) tl).1 (popW (toE k) (popW (fromE k) tl).2).1 (if nE k && ok then n else 0) = false) → OneE (L s) none) :=
    fun n ok h1 h2 => read_bad (L s) k n ok HKI.out (by rw [HWW.out]; exact h1) (by rw [HWW.out]; exact h2)
  have HGOOD : Hid (∀ n ok, NumE (popW (nE k) (popW (toE k) (popW (fromE k) tl).2).2).1 n ok → (nE k = true → ok = true) → (popW (nE k) (popW (toE k) (popW (fromE k) tl).2).2).2 = [] → rightE k (popW (fromE k) tl).1 (popW (toE k) (popW (fromE k) tl).2).1 (if nE k && ok then n else 0) = true → OneE (L s) (some (k, (popW (fromE k) tl).1, (popW (toE k) (popW (fromE k) tl).2).1, (if nE k && ok then n else 0)))) :=
    fun n ok h1 h2 h3 h4 => by
      have := read_good (L s) k n ok HKI.out (by rw [HWW.out]; exact h1) h2 (by rw [HWW.out]; exact h3) (by rw [HWW.out]; exact h4)
      rw [HWW.out] at this
      exact this
  generalize fromE k = fr at *
  generalize toE k = tt at *
  generalize nE k = nn at *
  obtain ⟨l1, l2, l3⟩ := pop_len fr tl 1000 (fun x hx => HSL0.out x (by simp [hx]))
  obtain ⟨l4, l5, l6⟩ := pop_len tt (popW fr tl).2 1000 l2
  obtain ⟨l7, l8, l9⟩ := pop_len nn (popW tt (popW fr tl).2).2 1000 l5
  clear l2 l5 l8 HK HKI HWW HSL0
  have o4 : b6 ≠ b4 := by omega
  have o5 : b6 ≠ b5 := by omega
  go_upto_region 6 with fail
  go_cut [26, 30] from 20 to 65 (fun v1 v2 wx => Hid (RSt w b4 b5 b6 k fr tt nn (B (popW fr tl).1) (B (popW tt (popW fr tl).2).1) 0 (popW tt (popW fr tl).2).2 wx))
  case first =>
    obtain ⟨d0, d1, d2⟩ := three_cells HR.out.2.2.1
    have hS : wc.cell? ⟨b6, 0, none⟩ = some (.bool fr) ∧ wc.cell? ⟨b6, 1, none⟩ = some (.bool tt) := ⟨d0, d1⟩
    go_region_held3 (fun w' => w'.cell? ⟨b6, 0, none⟩ = some (.bool fr) ∧ w'.cell? ⟨b6, 1, none⟩ = some (.bool tt)) (first | exact hS | exact ⟨far1 o5 hS.1, far1 o5 hS.2⟩ | exact ⟨far1 o5 (far1 o5 hS.1), far1 o5 (far1 o5 hS.2)⟩ | (go_keep; done))
      ((first
        | (go_at_call 30; have hq7 := HR7; clear hq7; refine (nextW_walk tt b4 (popW fr tl).2 _ (by omega) (by exact HR7.out.2.2.2.1)).mono ?_; rintro e w8 ⟨rfl, hws8, hk8, hsz8, hb8⟩; have hS := two_far hk8 o4 hS; have HR8 : Hid (RSt w b4 b5 b6 k fr tt nn ⟨#[]⟩ ⟨#[]⟩ 0 (popW tt (popW fr tl).2).2 w8) := (by first | exact RSt.next HR7.out hws8 hk8 hb8 | exact RSt.next (RSt.drew HR7.out) hws8 hk8 hb8); have HHz8 := Lib.hid hsz8; clear hsz8 hws8 hk8 hb8; obtain ⟨⟨a0, a1, a2, a3⟩, ⟨g0, g1, g2, g3⟩⟩ := e4_all HR8.out.2.1)
        | (go_at_call 30; refine (nextW_walk fr b4 tl _ (by omega) (by exact HR.out.2.2.2.1)).mono ?_; rintro e w7 ⟨rfl, hws7, hk7, hsz7, hb7⟩; have hS := two_far hk7 o4 hS; have HR7 : Hid (RSt w b4 b5 b6 k fr tt nn ⟨#[]⟩ ⟨#[]⟩ 0 (popW fr tl).2 w7) := (by first | exact RSt.next HR.out hws7 hk7 hb7 | exact RSt.next (RSt.drew HR.out) hws7 hk7 hb7); have HHz7 := Lib.hid hsz7; clear hsz7 hws7 hk7 hb7)))
    all_goals
      go_wp2_with fail
      go_meet
      first
        | exact RSt.put (RSt.put HR8.out 1 _ (e4_1 HR8.out.2.1 _)) 2 _ (e4_2 (e4_1 HR8.out.2.1 _) _)
        | exact RSt.drew (RSt.put (RSt.put HR8.out 1 _ (e4_1 HR8.out.2.1 _)) 2 _ (e4_2 (e4_1 HR8.out.2.1 _) _))
        | exact RSt.put (RSt.put (RSt.drew HR8.out) 1 _ (e4_1 HR8.out.2.1 _)) 2 _ (e4_2 (e4_1 HR8.out.2.1 _) _)
  case rest =>
  replace HR := hcut
  clear hcut
  generalize popW fr tl = p1 at *
  obtain ⟨f1, r1⟩ := p1
  simp only at *
  generalize popW tt r1 = p2 at *
  obtain ⟨t1, r2⟩ := p2
  simp only at *
  obtain ⟨p3, hp3⟩ : ∃ p, popW nn r2 = p := ⟨_, rfl⟩
  have HP3 := Lib.hid hp3
  rw [hp3] at l7 l9 HBAD HGOOD
  clear hp3
  obtain ⟨dd, r3⟩ := p3
  simp only at l7 l9 HBAD HGOOD
  obtain ⟨d0, d1, d2⟩ := three_cells HR.out.2.2.1
  go_upto_region 8 with (first
    | (go_at_call 31; refine (N1.out _ (by rw [B_size]; omega) _).mono ?_; rintro e w9 ⟨⟨n, ok, rfl, hn⟩, hw9⟩; subst hw9)
    | (go_at_call 30; refine (nextW_walk nn b4 r2 _ (by omega) (by exact HR.out.2.2.2.1)).mono ?_; rintro e w7 ⟨he7, hws7, hk7, hsz7, hb7⟩; rw [HP3.out] at he7 hws7; simp only at he7 hws7; subst he7; have HRE : Hid (RSt w b4 b5 b6 k fr tt nn (B f1) (B t1) 0 r3 w7) := (by first | exact RSt.next HR.out hws7 hk7 hb7 | exact RSt.next (RSt.drew HR.out) hws7 hk7 hb7); clear hws7 hk7 hsz7 hb7; obtain ⟨d0, d1, d2⟩ := three_cells HRE.out.2.2.1))
  rw [L_B] at hn
  have HNE := Lib.hid hn
  clear hn HR N1
  cases nn with
  | true =>
    cases ok with
    | false =>
      have HO := Lib.hid (HBAD.out n false HNE.out (.inl ⟨rfl, rfl⟩))
      obtain ⟨⟨z0, z1, z2, z3⟩, ⟨y0, y1, y2, y3⟩⟩ := e4_all HRE.out.1
      go_wp2_with fail
      refine er_end _ rfl rfl (put4_heap HRE.out.1 _ _ _ _) ⟨⟨none, HO.out, rfl⟩, put4_below (Nat.le_refl _) HRE.out.2.2.2.2.1 _ _ _ _⟩
    | true =>
      obtain ⟨⟨a0, a1, a2, a3⟩, ⟨g0, g1, g2, g3⟩⟩ := e4_all HRE.out.2.1
      go_upto_region 10 with fail
      replace HRE := Lib.hid (RSt.put HRE.out 3 (.int .i64 n) (e4_3 HRE.out.2.1 _))
      clear a0 a1 a2 a3 g0 g1 g2 g3 d0 d1 d2
      generalize World.setCell _ _ _ = wm at *
      obtain ⟨⟨a0, a1, a2, a3⟩, ⟨g0, g1, g2, g3⟩⟩ := e4_all HRE.out.2.1
      obtain ⟨⟨z0, z1, z2, z3⟩, ⟨y0, y1, y2, y3⟩⟩ := e4_all HRE.out.1
      obtain ⟨d0, d1, d2⟩ := three_cells HRE.out.2.2.1
      obtain ⟨A9, c9, hx9, hs9, hc9, _⟩ := HRE.out.2.2.2.1
      have w4 := cell1w hx9
      clear hx9 hs9 hc9
      by_cases hle : r3 = []
      case neg =>
        have hl0 : 0 < r3.length := List.length_pos_iff.2 hle
        have hlq : decide ((0 : Int) < (r3.length : Int)) = true := by simp; exact hl0
        have HO := Lib.hid (HBAD.out n true HNE.out (.inr (.inl hle)))
        clear hle
        go_wp2_with fail
        refine er_end _ rfl rfl (put4_heap HRE.out.1 _ _ _ _) ⟨⟨none, HO.out, rfl⟩, put4_below (Nat.le_refl _) HRE.out.2.2.2.2.1 _ _ _ _⟩
      subst hle
      cases hr : rightE k f1 t1 n with
      | false =>
        have HO := Lib.hid (HBAD.out n true HNE.out (.inr (.inr hr)))
        have R1 := Lib.hid (fun W => RR.out k (B f1) (B t1) n (by rw [B_size]; omega) (by rw [B_size]; omega) W)
        rw [L_B, L_B, hr] at R1
        clear hr
        go_wp2_with (go_at_call 9; refine (R1.out _).mono ?_; rintro e w9 ⟨rfl, hb9⟩; replace HRE := Lib.hid (HRE.out.keep hb9); obtain ⟨⟨z0, z1, z2, z3⟩, ⟨y0, y1, y2, y3⟩⟩ := e4_all HRE.out.1)
        refine er_end _ rfl rfl (put4_heap HRE.out.1 _ _ _ _) ⟨⟨none, HO.out, rfl⟩, put4_below (Nat.le_refl _) HRE.out.2.2.2.2.1 _ _ _ _⟩
      | true =>
        have HO := Lib.hid (HGOOD.out n true HNE.out (fun _ => rfl) rfl hr)
        have R1 := Lib.hid (fun W => RR.out k (B f1) (B t1) n (by rw [B_size]; omega) (by rw [B_size]; omega) W)
        rw [L_B, L_B, hr] at R1
        clear hr
        go_wp2_with (go_at_call 9; refine (R1.out _).mono ?_; rintro e w9 ⟨rfl, hb9⟩; replace HRE := Lib.hid (HRE.out.keep hb9); obtain ⟨⟨z0, z1, z2, z3⟩, ⟨y0, y1, y2, y3⟩⟩ := e4_all HRE.out.1; obtain ⟨⟨a0, a1, a2, a3⟩, ⟨g0, g1, g2, g3⟩⟩ := e4_all HRE.out.2.1)
        refine er_end _ rfl rfl (put4_heap HRE.out.1 _ _ _ _) ⟨⟨_, HO.out, rfl⟩, put4_below (Nat.le_refl _) HRE.out.2.2.2.2.1 _ _ _ _⟩
  | false =>
    obtain ⟨⟨a0, a1, a2, a3⟩, ⟨g0, g1, g2, g3⟩⟩ := e4_all HRE.out.2.1
    obtain ⟨⟨z0, z1, z2, z3⟩, ⟨y0, y1, y2, y3⟩⟩ := e4_all HRE.out.1
    obtain ⟨d0, d1, d2⟩ := three_cells HRE.out.2.2.1
    obtain ⟨A9, c9, hx9, hs9, hc9, _⟩ := HRE.out.2.2.2.1
    have w4 := cell1w hx9
    clear hx9 hs9 hc9
    by_cases hle : r3 = []
    case neg =>
      have hl0 : 0 < r3.length := List.length_pos_iff.2 hle
      have hlq : decide ((0 : Int) < (r3.length : Int)) = true := by simp; exact hl0
      have HO := Lib.hid (HBAD.out n ok HNE.out (.inr (.inl hle)))
      clear hle
      go_wp2_with fail
      refine er_end _ rfl rfl (put4_heap HRE.out.1 _ _ _ _) ⟨⟨none, HO.out, rfl⟩, put4_below (Nat.le_refl _) HRE.out.2.2.2.2.1 _ _ _ _⟩
    subst hle
    cases hr : rightE k f1 t1 0 with
    | false =>
      have HO := Lib.hid (HBAD.out n ok HNE.out (.inr (.inr hr)))
      have R1 := Lib.hid (fun W => RR.out k (B f1) (B t1) 0 (by rw [B_size]; omega) (by rw [B_size]; omega) W)
      rw [L_B, L_B, hr] at R1
      clear hr
      go_wp2_with (go_at_call 9; refine (R1.out _).mono ?_; rintro e w9 ⟨rfl, hb9⟩; replace HRE := Lib.hid (HRE.out.keep hb9); obtain ⟨⟨z0, z1, z2, z3⟩, ⟨y0, y1, y2, y3⟩⟩ := e4_all HRE.out.1)
      refine er_end _ rfl rfl (put4_heap HRE.out.1 _ _ _ _) ⟨⟨none, HO.out, rfl⟩, put4_below (Nat.le_refl _) HRE.out.2.2.2.2.1 _ _ _ _⟩
    | true =>
      have HO := Lib.hid (HGOOD.out n ok HNE.out (fun h => by cases h) rfl hr)
      have R1 := Lib.hid (fun W => RR.out k (B f1) (B t1) 0 (by rw [B_size]; omega) (by rw [B_size]; omega) W)
      rw [L_B, L_B, hr] at R1
      clear hr
      go_wp2_with (go_at_call 9; refine (R1.out _).mono ?_; rintro e w9 ⟨rfl, hb9⟩; replace HRE := Lib.hid (HRE.out.keep hb9); obtain ⟨⟨z0, z1, z2, z3⟩, ⟨y0, y1, y2, y3⟩⟩ := e4_all HRE.out.1; obtain ⟨⟨a0, a1, a2, a3⟩, ⟨g0, g1, g2, g3⟩⟩ := e4_all HRE.out.2.1)
      refine er_end _ rfl rfl (put4_heap HRE.out.1 _ _ _ _) ⟨⟨_, HO.out, rfl⟩, put4_below (Nat.le_refl _) HRE.out.2.2.2.2.1 _ _ _ _⟩
end Go.Proofs.YtcapaiiegfedmaaDoor
