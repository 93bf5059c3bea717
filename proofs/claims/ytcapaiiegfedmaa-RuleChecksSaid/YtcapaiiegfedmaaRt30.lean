/- flittingref03.CheckAll, Text, Same. · flittingref02.members: a set behind its bracket. (printed by gen_rmem.py) -/
import Derived.Deep.DeepCutAuto
import Derived.Deep.LoopGhost
import Derived.Test.YtcapaiiegfedmaaRt29
namespace Go.Proofs.Ytcapaiiegfedmaa
open Go.RowKit Go.Shelf
set_option maxRecDepth 100000 in
set_option maxHeartbeats 4000000 in
theorem checkAll3_walk (H : RParseC) (A : Option Addr) (c : Nat) (rs : List RuleD) (hn : rs.length ≤ 1000) (hr : ∀ r ∈ rs, r.2.length ≤ 100000) (w : World) (hx : Slc w A (rs.flatMap rV)) :
    Calls Try.prog 80 #[.slice A rs.length c] w fun e w' => e = .returned (.int .i64 (rulesC rs)) ∧ Below w.heap.size w w' := by
  have M1 := Lib.hid (fun k (r : ByteArray) (h : r.size ≤ 100000) W => rcheck3_walk H k r h W)
  have HX := Lib.hid hx
  have HRS := Lib.hid hr
  clear hx hr
  by_cases h16 : 16 < rs.length
  · have hq : decide ((16 : Int) < (rs.length : Int)) = true := by simp; omega
    have HF : Hid (rulesC rs = 5) := if_pos h16
    go_enter Try.func80, Try.ntmps80
    go_wp2_with fail
    go_ret
    rw [HF.out]
    exact ⟨rfl, Below.refl _ _⟩
  have hq : decide ((16 : Int) < (rs.length : Int)) = false := by simp; omega
  have HF : Hid (rulesC rs = rulesC1 rs) := if_neg h16
  rw [HF.out]
  go_enter Try.func80, Try.ntmps80
  go_wp2_with fail
  go_loopw [3] (fun i wr => ∃ k : Nat, k ≤ rs.length ∧ i = .int .i64 k ∧ Hid (rulesC1 rs = rulesC1 (rs.drop k)) ∧ Below w.heap.size w wr) (fun i _ => rs.length - (intOf i).toNat)
  case atStart => exact ⟨0, Nat.zero_le _, rfl, by rw [List.drop_zero]; rfl, Below.refl _ _⟩
  case round =>
    obtain ⟨k, hk, rfl, HP, hbr⟩ := hrel
    by_cases hlt : k < rs.length
    · obtain ⟨r, hrk⟩ : ∃ r, rs[k]? = some r := ⟨_, List.getElem?_eq_getElem hlt⟩
      have hca := checks_at rs k r hrk HP.out
      have hrl := HRS.out r (List.mem_of_getElem? hrk)
      obtain ⟨b, o, rfl, hlb, c0, c1⟩ := two_at rV (fun _ => rfl) (HX.out.keep hbr) hrk rfl
      unfold strV at c1
      have HM := Lib.hid (M1.out r.1 (B r.2) (by rw [B_size]; exact hrl))
      rw [L_B] at HM
      have hi0 : (0 : Int) ≤ (k : Int) := Int.natCast_nonneg _
      have hi1 : (k : Int) < (rs.length : Int) := by omega
      clear hrk
      by_cases hm : ruleC r.2 = 0
      · rw [if_pos hm] at hca
        have HN := Lib.hid hca
        rw [hm] at HM
        clear hm hca
        go_wp2_with (go_at_call 77; refine (HM.out _).mono ?_; rintro e w9 ⟨rfl, hb9⟩)
        go_roundw
        case rel => exact ⟨k + 1, by omega, by go_num, HN.out, hbr.trans (hb9.mono hbr.size)⟩
        case measure => simp [intOf]; omega
      · rw [if_neg hm] at hca
        have HN := Lib.hid hca
        have hq2 : (ruleC r.2 != 0) = true := by simpa using hm
        clear hm hca
        generalize ruleC r.2 = rc at *
        go_wp2_with (first | (go_at_call 77; refine (HM2.out _).mono ?_; rintro e w8 ⟨rfl, hb8⟩) | (go_at_call 77; refine (HM.out _).mono ?_; rintro e w9 ⟨rfl, hb9⟩; have z0 : w9.cell? ⟨b, o + k * 2, none⟩ = _ := (hb9.cell hlb).trans c0; have z1 : w9.cell? ⟨b, o + k * 2 + 1, none⟩ = _ := (hb9.cell hlb).trans c1; have HM2 := HM; clear HM))
        go_ret
        rw [HN.out]
        exact ⟨rfl, (hbr.trans (hb9.mono hbr.size)).trans (hb8.mono (Nat.le_trans hbr.size hb9.size))⟩
    · obtain rfl : k = rs.length := by omega
      have HN : Hid (rulesC1 rs = 0) := by show _ = _; rw [HP.out, List.drop_length]; rfl
      go_wp2_with fail
      go_ret
      rw [HN.out]
      exact ⟨rfl, hbr⟩
set_option maxRecDepth 100000 in
set_option maxHeartbeats 4000000 in
theorem text3_walk (A : Option Addr) (c : Nat) (rs : List RuleD) (hn : rs.length ≤ 100) (hr : ∀ r ∈ rs, r.2.length ≤ 100000) (w : World) (hx : Slc w A (rs.flatMap rV)) :
    Calls Try.prog 84 #[.slice A rs.length c] w fun e w' => e = .returned (.string (B (textR rs))) ∧ w = w' := by
  have HX := Lib.hid hx
  have HRS := Lib.hid hr
  clear hx hr
  go_enter Try.func84, Try.ntmps84
  go_wp2_with fail
  go_loop [3, 4] (fun v i => ∃ k : Nat, k ≤ rs.length ∧ i = .int .i64 k ∧ v = .string (B (textR (rs.take k)))) (fun _ i => rs.length - (intOf i).toNat)
  case atStart => exact ⟨0, Nat.zero_le _, rfl, rfl⟩
  case round =>
    obtain ⟨k, hk, rfl, rfl⟩ := hrel
    by_cases hlt : k < rs.length
    · obtain ⟨r, hrk⟩ : ∃ r, rs[k]? = some r := ⟨_, List.getElem?_eq_getElem hlt⟩
      have hrl := HRS.out r (List.mem_of_getElem? hrk)
      obtain ⟨b, o, rfl, hlb, c0, c1⟩ := two_at rV (fun _ => rfl) HX.out hrk rfl
      unfold strV at c1
      have htl := text_len (rs.take k) (fun x hx => HRS.out x (List.mem_of_mem_take hx))
      rw [List.length_take] at htl
      have HT : Hid (textR (rs.take (k + 1)) = textR (rs.take k) ++ lineR r) := by show _ = _; rw [take_one_more rs k r hrk, text_snoc]
      have hi0 : (0 : Int) ≤ (k : Int) := Int.natCast_nonneg _
      have hi1 : (k : Int) < (rs.length : Int) := by omega
      clear hrk
      obtain ⟨kp, pt⟩ := r
      simp only at c0 c1 hrl
      generalize textR (rs.take k) = tx at *
      have htl2 : tx.length ≤ 10000300 := by omega
      clear htl
      cases kp with
      | true =>
        go_wp2_with fail
        go_round
        case rel =>
          refine ⟨k + 1, by omega, by go_num, ?_⟩
          rw [HT.out, show ({ data := #[43, 32] } : ByteArray) = B [43, 32] from rfl, show ({ data := #[10] } : ByteArray) = B [10] from rfl, B_app, B_app, B_app]
          simp [lineR, signB2]
        case measure => simp [intOf]; omega
      | false =>
        go_wp2_with fail
        go_round
        case rel =>
          refine ⟨k + 1, by omega, by go_num, ?_⟩
          rw [HT.out, show ({ data := #[45, 32] } : ByteArray) = B [45, 32] from rfl, show ({ data := #[10] } : ByteArray) = B [10] from rfl, B_app, B_app, B_app]
          simp [lineR, signB2]
        case measure => simp [intOf]; omega
    · obtain rfl : k = rs.length := by omega
      rw [List.take_length]
      go_wp2_with fail
      go_ret
      exact ⟨rfl, rfl⟩
def eqRu (rs qs : List RuleD) : Bool := decide (rs = qs)
theorem B_ne {a b : Bs} (h : a ≠ b) : B a ≠ B b := fun e => h (by rw [← L_B a, e, L_B])
set_option maxRecDepth 100000 in
set_option maxHeartbeats 3200000 in
theorem same3_walk (A C : Option Addr) (c d : Nat) (rs qs : List RuleD) (w : World) (hx : Slc w A (rs.flatMap rV)) (hy : Slc w C (qs.flatMap rV)) (hn : rs.length ≤ 100000) (hm : qs.length ≤ 100000) :
    Calls Try.prog 85 #[.slice A rs.length c, .slice C qs.length d] w fun e w' => e = .returned (.bool (eqRu rs qs)) ∧ Below w.heap.size w w' := by
  by_cases hlen : rs.length = qs.length
  case neg =>
    have HF : Hid (eqRu rs qs = false) := by
      show eqRu rs qs = false
      unfold eqRu; rw [decide_eq_false_iff_not]; intro h; exact hlen (by rw [h])
    have hne : ((rs.length : Int) != (qs.length : Int)) = true := by simp; omega
    clear hlen
    go_enter Try.func85, Try.ntmps85
    go_wp2_with fail
    go_ret
    rw [HF.out]
    exact ⟨rfl, Below.refl _ _⟩
  case pos =>
    have hne : ((rs.length : Int) != (qs.length : Int)) = false := by simp; omega
    have HXX := Lib.hid hx
    have HYY := Lib.hid hy
    clear hx hy
    go_enter Try.func85, Try.ntmps85
    go_wp2_with fail
    go_loopw [5] (fun i wr => ∃ k : Nat, k ≤ rs.length ∧ i = .int .i64 k ∧ Hid (rs.take k = qs.take k) ∧ ∃ n, wr = w.drewN n) (fun i _ => rs.length - (intOf i).toNat)
    case atStart => exact ⟨0, Nat.zero_le _, rfl, (show _ = _ from rfl), 0, rfl⟩
    case round =>
      obtain ⟨k, hk, rfl, HQ, n, rfl⟩ := hrel
      by_cases hlt : k < rs.length
      · have hk2 : k < qs.length := by omega
        obtain ⟨b, o, rfl, hlb, hc0, hc1⟩ := two_at rV (fun _ => rfl) HXX.out (List.getElem?_eq_getElem hlt) rfl
        obtain ⟨b', o', rfl, hlb', hd0, hd1⟩ := two_at rV (fun _ => rfl) HYY.out (List.getElem?_eq_getElem hk2) rfl
        have HX := Lib.hid (take_one_more rs k _ (List.getElem?_eq_getElem hlt))
        have HY := Lib.hid (take_one_more qs k _ (List.getElem?_eq_getElem hk2))
        have HF : Hid (rs[k] ≠ qs[k] → eqRu rs qs = false) := by
          intro hne
          unfold eqRu; rw [decide_eq_false_iff_not]; intro h; subst h; exact hne rfl
        generalize rs[k] = x at *
        generalize qs[k] = y at *
        obtain ⟨x1, x2⟩ := x
        obtain ⟨y1, y2⟩ := y
        simp only at hc0 hc1 hd0 hd1
        unfold strV at hc1 hd1
        have hi0 : (0 : Int) ≤ (k : Int) := Int.natCast_nonneg _
        have hi1 : (k : Int) < (rs.length : Int) := by omega
        have hi2 : (k : Int) < (qs.length : Int) := by omega
        by_cases h2 : x2 = y2
        · subst h2
          cases x1 <;> cases y1
          · go_wp2_with fail
            go_quiet (fail)
            go_wp2_with fail
            exact ⟨⟨k + 1, by omega, by go_num, by show _ = _; rw [HX.out, HY.out, HQ.out], _, rfl⟩, by simp [intOf]; omega⟩
          · have HE := Lib.hid (HF.out (by simp))
            go_wp2_with fail
            go_quiet (fail)
            go_wp2_with fail
            go_ret
            rw [HE.out]
            exact ⟨rfl, below_draw (below_draw (Below.refl _ _))⟩
          · have HE := Lib.hid (HF.out (by simp))
            go_wp2_with fail
            go_quiet (fail)
            go_wp2_with fail
            go_ret
            rw [HE.out]
            exact ⟨rfl, below_draw (below_draw (Below.refl _ _))⟩
          · go_wp2_with fail
            go_quiet (fail)
            go_wp2_with fail
            exact ⟨⟨k + 1, by omega, by go_num, by show _ = _; rw [HX.out, HY.out, HQ.out], _, rfl⟩, by simp [intOf]; omega⟩
        · have HE := Lib.hid (HF.out (by intro e; cases e; exact h2 rfl))
          have hb1 := B_ne h2
          have hb3 : ((B x2).toList == (B y2).toList) = false := by rw [L_toList, L_toList, L_B, L_B]; simpa using h2
          clear h2 hb1
          generalize B x2 = s1 at *
          generalize B y2 = s2 at *
          cases x1 <;> cases y1
          all_goals
            go_wp2_with fail
            go_quiet (fail)
            go_wp2_with fail
            go_ret
            rw [HE.out]
            exact ⟨rfl, below_draw (below_draw (Below.refl _ _))⟩
      · obtain rfl : k = rs.length := by omega
        have HE : Hid (eqRu rs qs = true) := by
          show _ = _
          have := HQ.out
          rw [List.take_length, hlen, List.take_length] at this
          unfold eqRu; rw [this]; simp
        go_wp2_with fail
        go_ret
        rw [HE.out]
        exact ⟨rfl, below_draw (Below.refl _ _)⟩
end Go.Proofs.Ytcapaiiegfedmaa
namespace Go.Proofs.Ytcapaiiegfedmaa
open Go.RowKit Go.Shelf
theorem elem_byte : Elem Try.prog 160 5 1 1 := elem_mk Try.underlying160 (z := .int .u8 0) (by kernel_rfl) rfl (by omega)
/-- a row of bytes in a block of bytes -/
def Row5 (W : World) (A : Option Addr) (vs : List Value) : Prop := vs = [] ∨ ∃ g cur fz, A = some ⟨g, 0, none⟩ ∧ W.heap[g]? = some (.cells cur 5 fz) ∧ ∀ (i : Nat) v, vs[i]? = some v → W.cell? ⟨g, i, none⟩ = some v
theorem Row5.slc {W : World} {A : Option Addr} {vs : List Value} (h : Row5 W A vs) : Slc W A vs := by
  rcases h with h | ⟨g, cur, fz, rfl, hg, hc⟩
  · exact .inl h
  · exact .inr ⟨g, 0, rfl, (Array.getElem?_eq_some_iff.1 hg).1, fun i v hv => by rw [Nat.zero_add]; exact hc i v hv⟩
theorem Row5.of_own {W : World} {base n c : Nat} {A : Option Addr} {vs : List Value} (h : W.ownsRow base 5 1 (.slice A n c) n vs) : Row5 W A vs := by
  rcases h.2 with ⟨_, h0⟩ | ⟨g, cap, cur, he, _, hg, _⟩
  · exact .inl (List.eq_nil_of_length_eq_zero (by rw [h.1, h0]))
  · cases he
    rcases Slc.of_own h with h1 | ⟨b, o, e, _, hc⟩
    · exact .inl h1
    · cases e
      exact .inr ⟨g, cur, (0, 0), rfl, hg, fun i v hv => by have := hc i v hv; rw [Nat.zero_add] at this; exact this⟩
theorem Row5.kept {W W' : World} {A : Option Addr} {vs : List Value} (h : Row5 W A vs) (hk : ∀ (g : Nat) (cur : Array Value) (fz : Nat × Nat), W.heap[g]? = some (Obj.cells cur 5 fz) → W'.heap[g]? = W.heap[g]?) : Row5 W' A vs := by
  rcases h with h | ⟨g, cur, fz, rfl, hg, hc⟩
  · exact .inl h
  · have he := hk g cur fz hg
    exact .inr ⟨g, cur, fz, rfl, he.trans hg, fun i v hv => (World.cell?_of_block (a := ⟨g, i, none⟩) he).trans (hc i v hv)⟩
theorem Row5.keep {W W' : World} {A : Option Addr} {vs : List Value} (h : Row5 W A vs) (hb : Below W.heap.size W W') : Row5 W' A vs := h.kept fun g cur fz hg => hb.block g (Array.getElem?_eq_some_iff.1 hg).1
def MemRes (s : ByteArray) (o : Option (Part × Bs)) (e : Ending) (w' : World) : Prop :=
  match o with
  | none => e = .returned (.tuple #[.agg #[.int .i64 0, .slice none 0 0, .bool false, .bool false], .int .i64 (-1)])
  | some (p, r) => ∃ q : RQ, ∃ nx : Nat, nx ≤ s.size ∧ r = (L s).drop nx ∧ e = .returned (.tuple #[.agg #[.int .i64 q.many, .slice q.A q.inn.length q.cap, .bool q.no, .bool q.any], .int .i64 nx]) ∧ RelP q p ∧ q.inn.length ≤ 100000 ∧ Row5 w' q.A (bytesV q.inn)
def MemW (w : World) (no : Bool) (inn : Bs) (W : World) : Prop :=
  W.heap[w.heap.size]? = some (.cells #[.int .i64 0, .slice none 0 0, .bool false, .bool false] 190 (0, 0)) ∧
  (∃ A c, W.heap[w.heap.size + 1]? = some (.cells #[.int .i64 0, .slice A inn.length c, .bool no, .bool false] 190 (0, 0)) ∧ W.ownsRow (w.heap.size + 2) 5 1 (.slice A inn.length c) inn.length (bytesV inn)) ∧
  Below w.heap.size w W ∧ w.heap.size + 2 ≤ W.heap.size
theorem MemW.drew {w W : World} {no : Bool} {inn : Bs} (h : MemW w no inn W) (n : Nat) : MemW w no inn (W.drewN n) := ⟨h.1, h.2.1, below_draw h.2.2.1, h.2.2.2⟩
theorem mem_start (w : World) (no : Bool) : MemW w no [] ((w.alloc (.cells #[.int .i64 0, .slice none 0 0, .bool false, .bool false] 190)).alloc (.cells #[.int .i64 0, .slice none 0 0, .bool no, .bool false] 190)) :=
  ⟨kept_o (World.alloc_heap_new _ _) _, ⟨none, 0, new2 _ _ _, World.ownsRow_nil _ _ _ _⟩, ((Below.refl _ w).alloc (Nat.le_refl _) _).alloc (by simp) _, by simp⟩
theorem mem_end {W : World} {b : Nat} {v0 v1 v2 v3 : Value} {n : Int} {R : Ending → World → Prop} (tmps : Array Value) (h4 : tmps.getD 4 undef = .pointer (some ⟨b, 0, none⟩)) (h5 : tmps.getD 5 undef = .int .i64 n)
    (hX : W.heap[b]? = some (.cells #[v0, v1, v2, v3] 190 (0, 0))) (hR : R (.returned (.tuple #[.agg #[v0, v1, v2, v3], .int .i64 n])) W) :
    bodyPost Try.prog Try.f135 R .ret { tmps := tmps, defers := [] } W := by
  refine bodyPost_ret (v := .tuple #[.agg #[v0, v1, v2, v3], .int .i64 n]) ?_ rfl hR
  obtain ⟨⟨z0, z1, z2, z3⟩, _⟩ := cells4 hX
  simp only [Array.getD_eq_getD_getElem?] at h4 h5
  simp [results, Try.results135, h4, h5, go_sem, z0, z1, z2, z3, loadVar]
def putP (W : World) (b : Nat) (v0 v1 v2 v3 : Value) : World := (((W.setCell ⟨b, 0, none⟩ v0).setCell ⟨b, 1, none⟩ v1).setCell ⟨b, 2, none⟩ v2).setCell ⟨b, 3, none⟩ v3
theorem putP_heap {W : World} {b : Nat} {u0 u1 u2 u3 : Value} {t : TypeId} (h : W.heap[b]? = some (.cells #[u0, u1, u2, u3] t (0, 0))) (v0 v1 v2 v3 : Value) : (putP W b v0 v1 v2 v3).heap[b]? = some (.cells #[v0, v1, v2, v3] t (0, 0)) := set4_3 (set4_2 (set4_1 (set4_0 h _) _) _) _
theorem putP_below {w W : World} (h : Below w.heap.size w W) (v0 v1 v2 v3 : Value) : Below w.heap.size w (putP W w.heap.size v0 v1 v2 v3) := ((((h.setCell (Nat.le_refl _) _).setCell (Nat.le_refl _) _).setCell (Nat.le_refl _) _).setCell (Nat.le_refl _) _)
theorem putP_own {W : World} {b base : Nat} {e : TypeId} {size n : Nat} {v : Value} {xs : List Value} (h : W.ownsRow base e size v n xs) (hb : b < base) (v0 v1 v2 v3 : Value) : (putP W b v0 v1 v2 v3).ownsRow base e size v n xs :=
  ownsRow_setCell_below (ownsRow_setCell_below (ownsRow_setCell_below (ownsRow_setCell_below h hb _) hb _) hb _) hb _
theorem mem_fail {w W : World} {no : Bool} {inn : Bs} (h : MemW w no inn W) :
    ((((W.setCell ⟨w.heap.size, 0, none⟩ (.int .i64 0)).setCell ⟨w.heap.size, 1, none⟩ (.slice none 0 0)).setCell ⟨w.heap.size, 2, none⟩ (.bool false)).setCell ⟨w.heap.size, 3, none⟩ (.bool false)).heap[w.heap.size]? = some (.cells #[.int .i64 0, .slice none 0 0, .bool false, .bool false] 190 (0, 0)) ∧
    Below w.heap.size w ((((W.setCell ⟨w.heap.size, 0, none⟩ (.int .i64 0)).setCell ⟨w.heap.size, 1, none⟩ (.slice none 0 0)).setCell ⟨w.heap.size, 2, none⟩ (.bool false)).setCell ⟨w.heap.size, 3, none⟩ (.bool false)) :=
  ⟨putP_heap h.1 _ _ _ _, putP_below h.2.2.1 _ _ _ _⟩
theorem mem_good {w W : World} {no : Bool} {inn : Bs} {A : Option Addr} {c : Nat} {f : UInt8 → Bool} {r : Bs}
    (h : W.heap[w.heap.size]? = some (.cells #[.int .i64 0, .slice none 0 0, .bool false, .bool false] 190 (0, 0))) (hown : W.ownsRow (w.heap.size + 2) 5 1 (.slice A inn.length c) inn.length (bytesV inn)) (hb : Below w.heap.size w W)
    (hf : ∀ c, hasB inn c = (f c && c != 47)) :
    ((((W.setCell ⟨w.heap.size, 0, none⟩ (.int .i64 0)).setCell ⟨w.heap.size, 1, none⟩ (.slice A inn.length c)).setCell ⟨w.heap.size, 2, none⟩ (.bool no)).setCell ⟨w.heap.size, 3, none⟩ (.bool false)).heap[w.heap.size]? = some (.cells #[.int .i64 0, .slice A inn.length c, .bool no, .bool false] 190 (0, 0)) ∧
    RelP ⟨0, A, c, inn, no, false⟩ (finP no (f, r)).1 ∧
    Row5 ((((W.setCell ⟨w.heap.size, 0, none⟩ (.int .i64 0)).setCell ⟨w.heap.size, 1, none⟩ (.slice A inn.length c)).setCell ⟨w.heap.size, 2, none⟩ (.bool no)).setCell ⟨w.heap.size, 3, none⟩ (.bool false)) A (bytesV inn) ∧
    Below w.heap.size w ((((W.setCell ⟨w.heap.size, 0, none⟩ (.int .i64 0)).setCell ⟨w.heap.size, 1, none⟩ (.slice A inn.length c)).setCell ⟨w.heap.size, 2, none⟩ (.bool no)).setCell ⟨w.heap.size, 3, none⟩ (.bool false)) := by
  refine ⟨putP_heap h _ _ _ _, .inl ⟨rfl, rfl, fun d => ?_⟩, ?_, putP_below hb _ _ _ _⟩
  · show (if no then !hasB inn d && d != 47 else hasB inn d) = ((f d != no) && d != 47)
    rw [hf d]
    cases no <;> cases f d <;> cases (d != 47) <;> rfl
  · exact Row5.of_own (putP_own (b := w.heap.size) hown (by omega) (.int .i64 0) (.slice A inn.length c) (.bool no) (.bool false))
def HasTo (l : Bs) (f : UInt8 → Bool) (lo j : Nat) : Prop := ∀ c, hasB l c = ((f c || (decide (lo ≤ c.toNat) && decide (c.toNat < j))) && c != 47)
theorem has_start (l : Bs) (f : UInt8 → Bool) (lo : Nat) (h : ∀ c, hasB l c = (f c && c != 47)) : HasTo l f lo lo := fun c => by
  rw [h c]
  have : (decide (lo ≤ c.toNat) && decide (c.toNat < lo)) = false := by simp
  rw [this, Bool.or_false]
theorem has_end (l : Bs) (f : UInt8 → Bool) (lo hi : UInt8) (h : HasTo l f lo.toNat (hi.toNat + 1)) : ∀ c, hasB l c = (withB f lo hi c && c != 47) := fun c => by
  rw [h c]
  unfold withB
  have e1 : decide (lo.toNat ≤ c.toNat) = decide (lo ≤ c) := by rw [decide_eq_decide, UInt8.le_iff_toNat_le]
  have e2 : decide (c.toNat < hi.toNat + 1) = decide (c ≤ hi) := by rw [decide_eq_decide, UInt8.le_iff_toNat_le]; omega
  rw [e1, e2]
theorem has_skip (l : Bs) (f : UInt8 → Bool) (lo j : Nat) (hj : lo ≤ j) (h47 : j = 47) (h : HasTo l f lo j) : HasTo l f lo (j + 1) := fun c => by
  rw [h c]
  by_cases hc : c = 47
  · subst hc; simp
  · have : c.toNat ≠ 47 := fun e => hc (UInt8.toNat_inj.1 e)
    have e2 : decide (c.toNat < j) = decide (c.toNat < j + 1) := by rw [decide_eq_decide]; omega
    rw [e2]
theorem has_add (l : Bs) (f : UInt8 → Bool) (lo j : Nat) (hj : lo ≤ j) (hb : j < 256) (h47 : j ≠ 47) (h : HasTo l f lo j) : HasTo (l ++ [j.toUInt8]) f lo (j + 1) := fun c => by
  have e0 : hasB (l ++ [j.toUInt8]) c = (hasB l c || (j.toUInt8 == c)) := by
    unfold hasB
    rw [Bool.eq_iff_iff]
    simp only [List.contains_iff_mem, List.mem_append, List.mem_singleton, Bool.or_eq_true, beq_iff_eq]
    exact ⟨fun h => h.imp id Eq.symm, fun h => h.imp id Eq.symm⟩
  rw [e0, h c]
  have hjb : j.toUInt8.toNat = j := byte_of j hb
  by_cases hc : c.toNat = j
  · have hcj : c = j.toUInt8 := UInt8.toNat_inj.1 (by rw [hjb, hc])
    have h4 : (c != 47) = true := by
      simp only [bne_iff_ne, ne_eq]
      rintro rfl
      exact h47 hc.symm
    have h5 : (j.toUInt8 == c) = true := by simp [hcj]
    rw [h4, h5]
    have h6 : decide (lo ≤ c.toNat) = true := by simp; omega
    have h7 : decide (c.toNat < j + 1) = true := by simp; omega
    rw [h6, h7]; simp
  · have h5 : (j.toUInt8 == c) = false := by
      rw [beq_eq_false_iff_ne]
      rintro rfl
      exact hc hjb
    have e2 : decide (c.toNat < j) = decide (c.toNat < j + 1) := by rw [decide_eq_decide]; omega
    rw [h5, e2, Bool.or_false]
theorem wrap_byte (j : Nat) (h : j < 256) : IntKind.u8.wrap (j : Int) = (j : Int) := by
  unfold IntKind.wrap
  simp [IntKind.bits, IntKind.signed]
  omega
theorem byte_nat (j : Nat) (h : j < 256) : Value.int .u8 (j : Int) = byteV j.toUInt8 := by unfold byteV; rw [byte_of j h]
theorem mem_app {w W W9 : World} {no : Bool} {l : Bs} {A : Option Addr} {c g cap : Nat} {j : Nat} {x : Obj}
    (h4 : W.heap[w.heap.size]? = some (.cells #[.int .i64 0, .slice none 0 0, .bool false, .bool false] 190 (0, 0)))
    (h6 : W.heap[w.heap.size + 1]? = some (.cells #[.int .i64 0, .slice A l.length c, .bool no, .bool false] 190 (0, 0))) (hb : Below w.heap.size w W) (hs : w.heap.size + 2 ≤ W.heap.size)
    (hown : W9.ownsRow (w.heap.size + 2) 5 1 (.slice (some ⟨g, 0, none⟩) (l.length + 1) cap) (l.length + 1) (bytesV l ++ [.int .u8 (j : Int)])) (h9 : Below (w.heap.size + 2) (W.alloc x) W9) (hj : j < 256) :
    W9.cell? ⟨w.heap.size + 1, 1, none⟩ = some (.slice A l.length c) ∧ W9.frozen? ⟨w.heap.size + 1, 1, none⟩ = false ∧ MemW w no (l ++ [j.toUInt8]) (W9.setCell ⟨w.heap.size + 1, 1, none⟩ (.slice (some ⟨g, 0, none⟩) (l.length + 1) cap)) := by
  have k4 : W9.heap[w.heap.size]? = _ := (h9.block _ (by omega)).trans (kept_o h4 x)
  have k6 : W9.heap[w.heap.size + 1]? = _ := (h9.block _ (by omega)).trans (kept_o h6 x)
  refine ⟨(cells4 k6).1.2.1, (cells4 k6).2.2.1, set_far k4 (by omega), ⟨some ⟨g, 0, none⟩, cap, ?_, ?_⟩, ?_, ?_⟩
  · rw [List.length_append]; exact set4_1 k6 _
  · have h3 := ownsRow_setCell_below hown (a := ⟨w.heap.size + 1, 1, none⟩) (by show w.heap.size + 1 < w.heap.size + 2; omega) (.slice (some ⟨g, 0, none⟩) (l.length + 1) cap)
    rw [byte_nat j hj] at h3
    rw [List.length_append]
    unfold bytesV at h3 ⊢
    rw [List.map_append]
    exact h3
  · have h8 : Below w.heap.size w W9 := (hb.alloc hb.size x).trans ⟨h9.os, h9.tape, h9.output, h9.size, fun k hk => h9.block k (by omega)⟩
    exact h8.setCell (by show w.heap.size ≤ w.heap.size + 1; omega) _
  · have := h9.size
    simp [World.setCell] at this ⊢
    omega
def SpAt (s : ByteArray) (k : Nat) (sp : Bool) : Prop := if sp = true then ∃ h : k + 2 < s.size, s[k + 1] = 45 ∧ s[k + 2] ≠ 93 else ∀ h : k + 2 < s.size, s[k + 1] = 45 → s[k + 2] = 93
def PlAt (s : ByteArray) (k : Nat) (h : k < s.size) (e : UInt8) (d : Nat) : Prop :=
  ∀ f, s[k] ≠ 93 → memberB s[k] = true → setF f ((L s).drop k) = if memberB e = false ∨ e < s[k] then none else setF (withB f s[k] e) ((L s).drop (k + d))
theorem sp_no (s : ByteArray) (k : Nat) (h : ∀ h : k + 2 < s.size, s[k + 1] = 45 → s[k + 2] = 93) : SpAt s k false := by
  unfold SpAt
  rw [if_neg (by simp)]
  exact h
theorem sp_yes (s : ByteArray) (k : Nat) (h : k + 2 < s.size) (h1 : s[k + 1] = 45) (h2 : s[k + 2] ≠ 93) : SpAt s k true := by
  unfold SpAt
  rw [if_pos rfl]
  exact ⟨h, h1, h2⟩
theorem pl_one (s : ByteArray) (k : Nat) (h : k < s.size) (hs : SpAt s k false) : PlAt s k h s[k] 1 := fun f h1 h2 => by
  unfold SpAt at hs
  rw [if_neg (by simp)] at hs
  rw [place_one s f k h h1 h2 hs, if_neg]
  rintro (e | e)
  · rw [h2] at e; cases e
  · exact absurd (UInt8.lt_iff_toNat_lt.1 e) (Nat.lt_irrefl _)
theorem pl_span (s : ByteArray) (k : Nat) (h : k < s.size) (h3 : k + 2 < s.size) (hs : SpAt s k true) : PlAt s k h s[k + 2] 3 := fun f h1 h2 => by
  unfold SpAt at hs
  rw [if_pos rfl] at hs
  obtain ⟨h3', h4, h5⟩ := hs
  exact place_span s f k h3 h1 h2 h4 h5
theorem sp_room (s : ByteArray) (k : Nat) (hs : SpAt s k true) : k + 2 < s.size := by
  unfold SpAt at hs
  rw [if_pos rfl] at hs
  exact hs.1
theorem okay_f (mb : UInt8 → Bool) (h : ∀ c, mb c = memberB c) (c : UInt8) (w : World) : Calls Try.prog 150 #[.int .u8 (c.toNat : Int)] w fun e w' => e = .returned (.bool (mb c)) ∧ w = w' := by
  rw [h]
  exact okay_walk c w
end Go.Proofs.Ytcapaiiegfedmaa
