/- The walk of flittinglaw03.RuleKeeps. · flittingref02.members: a set behind its bracket. (printed by gen_rmem.py) -/
import Derived.Deep.DeepCutAuto
import Derived.Deep.LoopGhost
import Derived.Test.YtcapaiiegfedmaaRk28
namespace Go.Proofs.Ytcapaiiegfedmaa
open Go.RowKit Go.Shelf
theorem small_len {rs : List RuleD} (h : smallR rs = true) : rs.length ≤ 20 := by
  unfold smallR at h
  rw [Bool.and_eq_true] at h
  exact of_decide_eq_true h.1
theorem small_all {rs : List RuleD} (h : smallR rs = true) : ∀ r ∈ rs, r.2.length ≤ 100 := by
  unfold smallR at h
  rw [Bool.and_eq_true, List.all_eq_true] at h
  exact fun r hr => of_decide_eq_true (h.2 r hr)
set_option maxRecDepth 100000 in
set_option maxHeartbeats 4000000 in
theorem ruleKeeps_walk (H : RParseC) (A : Option Addr) (c : Nat) (rs : List RuleD) (p : ByteArray) (d : Bool) (hbig : rs.length ≤ maxLen) (w : World) (hx : Slc w A (rs.flatMap rV)) :
    Calls Try.prog 15 #[.slice A rs.length c, .string p, .bool d] w fun e w' => e = .returned (.bool true) ∧ Below w.heap.size w w' := by
  have SM := Lib.hid (smallR_walk A c rs w hx hbig)
  have AW := Lib.hid (fun W => rawake_walk W)
  have HX := Lib.hid hx
  clear hx
  cases hsm : smallR rs with
  | false =>
    rw [hsm] at SM
    clear hsm
    go_enter Try.func15, Try.ntmps15
    go_wp2_with (first | (go_at_call 69; refine SM.out.mono ?_; rintro e w1 ⟨rfl, rfl⟩) | (go_at_call 70; refine (AW.out _).mono ?_; rintro e w2 ⟨rfl, hb⟩))
    go_ret
    exact ⟨rfl, hb⟩
  | true =>
    have hl := small_len hsm
    have HR := Lib.hid (fun r hr => Nat.le_trans (small_all hsm r hr) (show 100 ≤ 100000 by omega))
    rw [hsm] at SM
    clear hsm
    by_cases h200 : p.size ≤ 200
    · have hq : decide ((200 : Int) < (p.size : Int)) = false := by simp; omega
      have K1 := Lib.hid (fun W h => keeps_walk A c rs p d (by omega) (by omega) HR.out W h)
      have K2 := Lib.hid (fun W h => keeps3_walk H A c rs p d (by omega) (by omega) HR.out W h)
      have S1 := Lib.hid (fun W h => shut_walk A c rs p d (by omega) (by omega) HR.out W h)
      have S2 := Lib.hid (fun W h => shut3_walk H A c rs p d (by omega) (by omega) HR.out W h)
      generalize keepsB rs (L p) d = kb at *
      generalize shutB rs (L p) d = sb at *
      cases kb <;> cases sb
      all_goals
        go_enter Try.func15, Try.ntmps15
        go_wp2_with (first | (go_at_call 69; refine SM.out.mono ?_; rintro e w1 ⟨rfl, rfl⟩) | (go_at_call 70; refine (AW.out _).mono ?_; rintro e w2 ⟨rfl, hb2⟩) | (go_at_call 71; refine (K1.out _ (HX.out.keep hb2)).mono ?_; rintro e w3 ⟨rfl, hb3⟩; have hc3 := hb2.trans (hb3.mono hb2.size)) | (go_at_call 72; refine (K2.out _ (HX.out.keep hc3)).mono ?_; rintro e w4 ⟨rfl, hb4⟩; have hc4 := hc3.trans (hb4.mono hc3.size)) | (go_at_call 73; refine (S1.out _ (HX.out.keep hc4)).mono ?_; rintro e w5 ⟨rfl, hb5⟩; have hc5 := hc4.trans (hb5.mono hc4.size)) | (go_at_call 74; refine (S2.out _ (HX.out.keep hc5)).mono ?_; rintro e w6 ⟨rfl, hb6⟩; have hc6 := hc5.trans (hb6.mono hc5.size)))
        go_ret
        exact ⟨rfl, hc6⟩
    · have hq : decide ((200 : Int) < (p.size : Int)) = true := by simp; omega
      go_enter Try.func15, Try.ntmps15
      go_wp2_with (first | (go_at_call 69; refine SM.out.mono ?_; rintro e w1 ⟨rfl, rfl⟩) | (go_at_call 70; refine (AW.out _).mono ?_; rintro e w2 ⟨rfl, hb⟩))
      go_ret
      exact ⟨rfl, hb⟩
end Go.Proofs.Ytcapaiiegfedmaa
namespace Go.Proofs.Ytcapaiiegfedmaa
open Go.RowKit Go.Shelf
theorem elem_byte : Elem Try.prog 160 5 1 1 := elem_mk Try.underlying160 (z := .int .u8 0) (by kernel_rfl) rfl (by omega)
/-- a row of bytes in a block of bytes -/
def Row5 (W : World) (A : Option Addr) (vs : List Value) : Prop := vs = [] ∨ ∃ g cur fz, A = some ⟨g, 0, none⟩ ∧ W.heap[g]? = some (.cells cur 5 fz) ∧ ∀ (i : Nat) v, vs[i]? = some v → W.cell? ⟨g, i, none⟩ = some v
theorem Row5.slc {W : World} {A : Option Addr} {vs : List Value} (h : Row5 W A vs) : Slc W A vs := by
  rcases h with h | ⟨g, cur, fz, rfl, hg, hc⟩
  · exact .inl h
  · exact .inr ⟨g, 0, rfl, (Array.getElem?_eq_some_iff.1 hg).1, fun i v hv => by rw [Nat.zero_add]; exact hc i v hv⟩
theorem Row5.of_own {W : World} {base n c : Nat} {A : Option Addr} {vs : List Value} (h : W.ownsRow base 5 1 (.slice A n c) n vs) : Row5 W A vs := by
  rcases h.2 with ⟨_, h0⟩ | ⟨g, cap, cur, he, _, hg, _⟩
  · exact .inl (List.eq_nil_of_length_eq_zero (by rw [h.1, h0]))
  · cases he
    rcases Slc.of_own h with h1 | ⟨b, o, e, _, hc⟩
    · exact .inl h1
    · cases e
      exact .inr ⟨g, cur, (0, 0), rfl, hg, fun i v hv => by have := hc i v hv; rw [Nat.zero_add] at this; exact this⟩
theorem Row5.kept {W W' : World} {A : Option Addr} {vs : List Value} (h : Row5 W A vs) (hk : ∀ (g : Nat) (cur : Array Value) (fz : Nat × Nat), W.heap[g]? = some (Obj.cells cur 5 fz) → W'.heap[g]? = W.heap[g]?) : Row5 W' A vs := by
  rcases h with h | ⟨g, cur, fz, rfl, hg, hc⟩
  · exact .inl h
  · have he := hk g cur fz hg
    exact .inr ⟨g, cur, fz, rfl, he.trans hg, fun i v hv => (World.cell?_of_block (a := ⟨g, i, none⟩) he).trans (hc i v hv)⟩
theorem Row5.keep {W W' : World} {A : Option Addr} {vs : List Value} (h : Row5 W A vs) (hb : Below W.heap.size W W') : Row5 W' A vs := h.kept fun g cur fz hg => hb.block g (Array.getElem?_eq_some_iff.1 hg).1
def MemRes (s : ByteArray) (o : Option (Part × Bs)) (e : Ending) (w' : World) : Prop :=
  match o with
  | none => e = .returned (.tuple #[.agg #[.int .i64 0, .slice none 0 0, .bool false, .bool false], .int .i64 (-1)])
  | some (p, r) => ∃ q : RQ, ∃ nx : Nat, nx ≤ s.size ∧ r = (L s).drop nx ∧ e = .returned (.tuple #[.agg #[.int .i64 q.many, .slice q.A q.inn.length q.cap, .bool q.no, .bool q.any], .int .i64 nx]) ∧ RelP q p ∧ q.inn.length ≤ 100000 ∧ Row5 w' q.A (bytesV q.inn)
def MemW (w : World) (no : Bool) (inn : Bs) (W : World) : Prop :=
  W.heap[w.heap.size]? = some (.cells #[.int .i64 0, .slice none 0 0, .bool false, .bool false] 190 (0, 0)) ∧
  (∃ A c, W.heap[w.heap.size + 1]? = some (.cells #[.int .i64 0, .slice A inn.length c, .bool no, .bool false] 190 (0, 0)) ∧ W.ownsRow (w.heap.size + 2) 5 1 (.slice A inn.length c) inn.length (bytesV inn)) ∧
  Below w.heap.size w W ∧ w.heap.size + 2 ≤ W.heap.size
theorem MemW.drew {w W : World} {no : Bool} {inn : Bs} (h : MemW w no inn W) (n : Nat) : MemW w no inn (W.drewN n) := ⟨h.1, h.2.1, below_draw h.2.2.1, h.2.2.2⟩
theorem mem_start (w : World) (no : Bool) : MemW w no [] ((w.alloc (.cells #[.int .i64 0, .slice none 0 0, .bool false, .bool false] 190)).alloc (.cells #[.int .i64 0, .slice none 0 0, .bool no, .bool false] 190)) :=
  ⟨kept_o (World.alloc_heap_new _ _) _, ⟨none, 0, new2 _ _ _, World.ownsRow_nil _ _ _ _⟩, ((Below.refl _ w).alloc (Nat.le_refl _) _).alloc (by simp) _, by simp⟩
theorem mem_end {W : World} {b : Nat} {v0 v1 v2 v3 : Value} {n : Int} {R : Ending → World → Prop} (tmps : Array Value) (h4 : tmps.getD 4 undef = .pointer (some ⟨b, 0, none⟩)) (h5 : tmps.getD 5 undef = .int .i64 n)
    (hX : W.heap[b]? = some (.cells #[v0, v1, v2, v3] 190 (0, 0))) (hR : R (.returned (.tuple #[.agg #[v0, v1, v2, v3], .int .i64 n])) W) :
    bodyPost Try.prog Try.f135 R .ret { tmps := tmps, defers := [] } W := by
  refine bodyPost_ret (v := .tuple #[.agg #[v0, v1, v2, v3], .int .i64 n]) ?_ rfl hR
  obtain ⟨⟨z0, z1, z2, z3⟩, _⟩ := cells4 hX
  simp only [Array.getD_eq_getD_getElem?] at h4 h5
  simp [results, Try.results135, h4, h5, go_sem, z0, z1, z2, z3, loadVar]
def putP (W : World) (b : Nat) (v0 v1 v2 v3 : Value) : World := (((W.setCell ⟨b, 0, none⟩ v0).setCell ⟨b, 1, none⟩ v1).setCell ⟨b, 2, none⟩ v2).setCell ⟨b, 3, none⟩ v3
theorem putP_heap {W : World} {b : Nat} {u0 u1 u2 u3 : Value} {t : TypeId} (h : W.heap[b]? = some (.cells #[u0, u1, u2, u3] t (0, 0))) (v0 v1 v2 v3 : Value) : (putP W b v0 v1 v2 v3).heap[b]? = some (.cells #[v0, v1, v2, v3] t (0, 0)) := set4_3 (set4_2 (set4_1 (set4_0 h _) _) _) _
theorem putP_below {w W : World} (h : Below w.heap.size w W) (v0 v1 v2 v3 : Value) : Below w.heap.size w (putP W w.heap.size v0 v1 v2 v3) := ((((h.setCell (Nat.le_refl _) _).setCell (Nat.le_refl _) _).setCell (Nat.le_refl _) _).setCell (Nat.le_refl _) _)
theorem putP_own {W : World} {b base : Nat} {e : TypeId} {size n : Nat} {v : Value} {xs : List Value} (h : W.ownsRow base e size v n xs) (hb : b < base) (v0 v1 v2 v3 : Value) : (putP W b v0 v1 v2 v3).ownsRow base e size v n xs :=
  ownsRow_setCell_below (ownsRow_setCell_below (ownsRow_setCell_below (ownsRow_setCell_below h hb _) hb _) hb _) hb _
theorem mem_fail {w W : World} {no : Bool} {inn : Bs} (h : MemW w no inn W) :
    ((((W.setCell ⟨w.heap.size, 0, none⟩ (.int .i64 0)).setCell ⟨w.heap.size, 1, none⟩ (.slice none 0 0)).setCell ⟨w.heap.size, 2, none⟩ (.bool false)).setCell ⟨w.heap.size, 3, none⟩ (.bool false)).heap[w.heap.size]? = some (.cells #[.int .i64 0, .slice none 0 0, .bool false, .bool false] 190 (0, 0)) ∧
    Below w.heap.size w ((((W.setCell ⟨w.heap.size, 0, none⟩ (.int .i64 0)).setCell ⟨w.heap.size, 1, none⟩ (.slice none 0 0)).setCell ⟨w.heap.size, 2, none⟩ (.bool false)).setCell ⟨w.heap.size, 3, none⟩ (.bool false)) :=
  ⟨putP_heap h.1 _ _ _ _, putP_below h.2.2.1 _ _ _ _⟩
theorem mem_good {w W : World} {no : Bool} {inn : Bs} {A : Option Addr} {c : Nat} {f : UInt8 → Bool} {r : Bs}
    (h : W.heap[w.heap.size]? = some (.cells #[.int .i64 0, .slice none 0 0, .bool false, .bool false] 190 (0, 0))) (hown : W.ownsRow (w.heap.size + 2) 5 1 (.slice A inn.length c) inn.length (bytesV inn)) (hb : Below w.heap.size w W)
    (hf : ∀ c, hasB inn c = (f c && c != 47)) :
    ((((W.setCell ⟨w.heap.size, 0, none⟩ (.int .i64 0)).setCell ⟨w.heap.size, 1, none⟩ (.slice A inn.length c)).setCell ⟨w.heap.size, 2, none⟩ (.bool no)).setCell ⟨w.heap.size, 3, none⟩ (.bool false)).heap[w.heap.size]? = some (.cells #[.int .i64 0, .slice A inn.length c, .bool no, .bool false] 190 (0, 0)) ∧
    RelP ⟨0, A, c, inn, no, false⟩ (finP no (f, r)).1 ∧
    Row5 ((((W.setCell ⟨w.heap.size, 0, none⟩ (.int .i64 0)).setCell ⟨w.heap.size, 1, none⟩ (.slice A inn.length c)).setCell ⟨w.heap.size, 2, none⟩ (.bool no)).setCell ⟨w.heap.size, 3, none⟩ (.bool false)) A (bytesV inn) ∧
    Below w.heap.size w ((((W.setCell ⟨w.heap.size, 0, none⟩ (.int .i64 0)).setCell ⟨w.heap.size, 1, none⟩ (.slice A inn.length c)).setCell ⟨w.heap.size, 2, none⟩ (.bool no)).setCell ⟨w.heap.size, 3, none⟩ (.bool false)) := by
  refine ⟨putP_heap h _ _ _ _, .inl ⟨rfl, rfl, fun d => ?_⟩, ?_, putP_below hb _ _ _ _⟩
  · show (if no then !hasB inn d && d != 47 else hasB inn d) = ((f d != no) && d != 47)
    rw [hf d]
    cases no <;> cases f d <;> cases (d != 47) <;> rfl
  · exact Row5.of_own (putP_own (b := w.heap.size) hown (by omega) (.int .i64 0) (.slice A inn.length c) (.bool no) (.bool false))
def HasTo (l : Bs) (f : UInt8 → Bool) (lo j : Nat) : Prop := ∀ c, hasB l c = ((f c || (decide (lo ≤ c.toNat) && decide (c.toNat < j))) && c != 47)
theorem has_start (l : Bs) (f : UInt8 → Bool) (lo : Nat) (h : ∀ c, hasB l c = (f c && c != 47)) : HasTo l f lo lo := fun c => by
  rw [h c]
  have : (decide (lo ≤ c.toNat) && decide (c.toNat < lo)) = false := by simp
  rw [this, Bool.or_false]
theorem has_end (l : Bs) (f : UInt8 → Bool) (lo hi : UInt8) (h : HasTo l f lo.toNat (hi.toNat + 1)) : ∀ c, hasB l c = (withB f lo hi c && c != 47) := fun c => by
  rw [h c]
  unfold withB
  have e1 : decide (lo.toNat ≤ c.toNat) = decide (lo ≤ c) := by rw [decide_eq_decide, UInt8.le_iff_toNat_le]
  have e2 : decide (c.toNat < hi.toNat + 1) = decide (c ≤ hi) := by rw [decide_eq_decide, UInt8.le_iff_toNat_le]; omega
  rw [e1, e2]
theorem has_skip (l : Bs) (f : UInt8 → Bool) (lo j : Nat) (hj : lo ≤ j) (h47 : j = 47) (h : HasTo l f lo j) : HasTo l f lo (j + 1) := fun c => by
  rw [h c]
  by_cases hc : c = 47
  · subst hc; simp
  · have : c.toNat ≠ 47 := fun e => hc (UInt8.toNat_inj.1 e)
    have e2 : decide (c.toNat < j) = decide (c.toNat < j + 1) := by rw [decide_eq_decide]; omega
    rw [e2]
theorem has_add (l : Bs) (f : UInt8 → Bool) (lo j : Nat) (hj : lo ≤ j) (hb : j < 256) (h47 : j ≠ 47) (h : HasTo l f lo j) : HasTo (l ++ [j.toUInt8]) f lo (j + 1) := fun c => by
  have e0 : hasB (l ++ [j.toUInt8]) c = (hasB l c || (j.toUInt8 == c)) := by
    unfold hasB
    rw [Bool.eq_iff_iff]
    simp only [List.contains_iff_mem, List.mem_append, List.mem_singleton, Bool.or_eq_true, beq_iff_eq]
    exact ⟨fun h => h.imp id Eq.symm, fun h => h.imp id Eq.symm⟩
  rw [e0, h c]
  have hjb : j.toUInt8.toNat = j := byte_of j hb
  by_cases hc : c.toNat = j
  · have hcj : c = j.toUInt8 := UInt8.toNat_inj.1 (by rw [hjb, hc])
    have h4 : (c != 47) = true := by
      simp only [bne_iff_ne, ne_eq]
      rintro rfl
      exact h47 hc.symm
    have h5 : (j.toUInt8 == c) = true := by simp [hcj]
    rw [h4, h5]
    have h6 : decide (lo ≤ c.toNat) = true := by simp; omega
    have h7 : decide (c.toNat < j + 1) = true := by simp; omega
    rw [h6, h7]; simp
  · have h5 : (j.toUInt8 == c) = false := by
      rw [beq_eq_false_iff_ne]
      rintro rfl
      exact hc hjb
    have e2 : decide (c.toNat < j) = decide (c.toNat < j + 1) := by rw [decide_eq_decide]; omega
    rw [h5, e2, Bool.or_false]
theorem wrap_byte (j : Nat) (h : j < 256) : IntKind.u8.wrap (j : Int) = (j : Int) := by
  unfold IntKind.wrap
  simp [IntKind.bits, IntKind.signed]
  omega
theorem byte_nat (j : Nat) (h : j < 256) : Value.int .u8 (j : Int) = byteV j.toUInt8 := by unfold byteV; rw [byte_of j h]
theorem mem_app {w W W9 : World} {no : Bool} {l : Bs} {A : Option Addr} {c g cap : Nat} {j : Nat} {x : Obj}
    (h4 : W.heap[w.heap.size]? = some (.cells #[.int .i64 0, .slice none 0 0, .bool false, .bool false] 190 (0, 0)))
    (h6 : W.heap[w.heap.size + 1]? = some (.cells #[.int .i64 0, .slice A l.length c, .bool no, .bool false] 190 (0, 0))) (hb : Below w.heap.size w W) (hs : w.heap.size + 2 ≤ W.heap.size)
    (hown : W9.ownsRow (w.heap.size + 2) 5 1 (.slice (some ⟨g, 0, none⟩) (l.length + 1) cap) (l.length + 1) (bytesV l ++ [.int .u8 (j : Int)])) (h9 : Below (w.heap.size + 2) (W.alloc x) W9) (hj : j < 256) :
    W9.cell? ⟨w.heap.size + 1, 1, none⟩ = some (.slice A l.length c) ∧ W9.frozen? ⟨w.heap.size + 1, 1, none⟩ = false ∧ MemW w no (l ++ [j.toUInt8]) (W9.setCell ⟨w.heap.size + 1, 1, none⟩ (.slice (some ⟨g, 0, none⟩) (l.length + 1) cap)) := by
  have k4 : W9.heap[w.heap.size]? = _ := (h9.block _ (by omega)).trans (kept_o h4 x)
  have k6 : W9.heap[w.heap.size + 1]? = _ := (h9.block _ (by omega)).trans (kept_o h6 x)
  refine ⟨(cells4 k6).1.2.1, (cells4 k6).2.2.1, set_far k4 (by omega), ⟨some ⟨g, 0, none⟩, cap, ?_, ?_⟩, ?_, ?_⟩
  · rw [List.length_append]; exact set4_1 k6 _
  · have h3 := ownsRow_setCell_below hown (a := ⟨w.heap.size + 1, 1, none⟩) (by show w.heap.size + 1 < w.heap.size + 2; omega) (.slice (some ⟨g, 0, none⟩) (l.length + 1) cap)
    rw [byte_nat j hj] at h3
    rw [List.length_append]
    unfold bytesV at h3 ⊢
    rw [List.map_append]
    exact h3
  · have h8 : Below w.heap.size w W9 := (hb.alloc hb.size x).trans ⟨h9.os, h9.tape, h9.output, h9.size, fun k hk => h9.block k (by omega)⟩
    exact h8.setCell (by show w.heap.size ≤ w.heap.size + 1; omega) _
  · have := h9.size
    simp [World.setCell] at this ⊢
    omega
def SpAt (s : ByteArray) (k : Nat) (sp : Bool) : Prop := if sp = true then ∃ h : k + 2 < s.size, s[k + 1] = 45 ∧ s[k + 2] ≠ 93 else ∀ h : k + 2 < s.size, s[k + 1] = 45 → s[k + 2] = 93
def PlAt (s : ByteArray) (k : Nat) (h : k < s.size) (e : UInt8) (d : Nat) : Prop :=
  ∀ f, s[k] ≠ 93 → memberB s[k] = true → setF f ((L s).drop k) = if memberB e = false ∨ e < s[k] then none else setF (withB f s[k] e) ((L s).drop (k + d))
theorem sp_no (s : ByteArray) (k : Nat) (h : ∀ h : k + 2 < s.size, s[k + 1] = 45 → s[k + 2] = 93) : SpAt s k false := by
  unfold SpAt
  rw [if_neg (by simp)]
  exact h
theorem sp_yes (s : ByteArray) (k : Nat) (h : k + 2 < s.size) (h1 : s[k + 1] = 45) (h2 : s[k + 2] ≠ 93) : SpAt s k true := by
  unfold SpAt
  rw [if_pos rfl]
  exact ⟨h, h1, h2⟩
theorem pl_one (s : ByteArray) (k : Nat) (h : k < s.size) (hs : SpAt s k false) : PlAt s k h s[k] 1 := fun f h1 h2 => by
  unfold SpAt at hs
  rw [if_neg (by simp)] at hs
  rw [place_one s f k h h1 h2 hs, if_neg]
  rintro (e | e)
  · rw [h2] at e; cases e
  · exact absurd (UInt8.lt_iff_toNat_lt.1 e) (Nat.lt_irrefl _)
theorem pl_span (s : ByteArray) (k : Nat) (h : k < s.size) (h3 : k + 2 < s.size) (hs : SpAt s k true) : PlAt s k h s[k + 2] 3 := fun f h1 h2 => by
  unfold SpAt at hs
  rw [if_pos rfl] at hs
  obtain ⟨h3', h4, h5⟩ := hs
  exact place_span s f k h3 h1 h2 h4 h5
theorem sp_room (s : ByteArray) (k : Nat) (hs : SpAt s k true) : k + 2 < s.size := by
  unfold SpAt at hs
  rw [if_pos rfl] at hs
  exact hs.1
theorem okay_f (mb : UInt8 → Bool) (h : ∀ c, mb c = memberB c) (c : UInt8) (w : World) : Calls Try.prog 150 #[.int .u8 (c.toNat : Int)] w fun e w' => e = .returned (.bool (mb c)) ∧ w = w' := by
  rw [h]
  exact okay_walk c w
end Go.Proofs.Ytcapaiiegfedmaa
