/- The walk of flittinglaw03.RuleKeeps. · rule.Text: rules as lines (a strings.Builder). -/
import Derived.Test.YtcapaiiegfedmaaRt28
namespace Go.Proofs.Ytcapaiiegfedmaa
open Go.RowKit Go.Shelf
theorem small_len {rs : List RuleD} (h : smallR rs = true) : rs.length ≤ 20 := by
  unfold smallR at h
  rw [Bool.and_eq_true] at h
  exact of_decide_eq_true h.1
theorem small_all {rs : List RuleD} (h : smallR rs = true) : ∀ r ∈ rs, r.2.length ≤ 100 := by
  unfold smallR at h
  rw [Bool.and_eq_true, List.all_eq_true] at h
  exact fun r hr => of_decide_eq_true (h.2 r hr)
set_option maxRecDepth 100000 in
set_option maxHeartbeats 4000000 in
theorem ruleKeeps_walk (H : RParseC) (A : Option Addr) (c : Nat) (rs : List RuleD) (p : ByteArray) (d : Bool) (hbig : rs.length ≤ maxLen) (w : World) (hx : Slc w A (rs.flatMap rV)) :
    Calls Try.prog 15 #[.slice A rs.length c, .string p, .bool d] w fun e w' => e = .returned (.bool true) ∧ Below w.heap.size w w' := by
  have SM := Lib.hid (smallR_walk A c rs w hx hbig)
  have AW := Lib.hid (fun W => rawake_walk W)
  have HX := Lib.hid hx
  clear hx
  cases hsm : smallR rs with
  | false =>
    rw [hsm] at SM
    clear hsm
    go_enter Try.func15, Try.ntmps15
    go_wp2_with (first | (go_at_call 69; refine SM.out.mono ?_; rintro e w1 ⟨rfl, rfl⟩) | (go_at_call 70; refine (AW.out _).mono ?_; rintro e w2 ⟨rfl, hb⟩))
    go_ret
    exact ⟨rfl, hb⟩
  | true =>
    have hl := small_len hsm
    have HR := Lib.hid (fun r hr => Nat.le_trans (small_all hsm r hr) (show 100 ≤ 100000 by omega))
    rw [hsm] at SM
    clear hsm
    by_cases h200 : p.size ≤ 200
    · have hq : decide ((200 : Int) < (p.size : Int)) = false := by simp; omega
      have K1 := Lib.hid (fun W h => keeps_walk A c rs p d (by omega) (by omega) HR.out W h)
      have K2 := Lib.hid (fun W h => keeps3_walk H A c rs p d (by omega) (by omega) HR.out W h)
      have S1 := Lib.hid (fun W h => shut_walk A c rs p d (by omega) (by omega) HR.out W h)
      have S2 := Lib.hid (fun W h => shut3_walk H A c rs p d (by omega) (by omega) HR.out W h)
      generalize keepsB rs (L p) d = kb at *
      generalize shutB rs (L p) d = sb at *
      cases kb <;> cases sb
      all_goals
        go_enter Try.func15, Try.ntmps15
        go_wp2_with (first | (go_at_call 69; refine SM.out.mono ?_; rintro e w1 ⟨rfl, rfl⟩) | (go_at_call 70; refine (AW.out _).mono ?_; rintro e w2 ⟨rfl, hb2⟩) | (go_at_call 71; refine (K1.out _ (HX.out.keep hb2)).mono ?_; rintro e w3 ⟨rfl, hb3⟩; have hc3 := hb2.trans (hb3.mono hb2.size)) | (go_at_call 72; refine (K2.out _ (HX.out.keep hc3)).mono ?_; rintro e w4 ⟨rfl, hb4⟩; have hc4 := hc3.trans (hb4.mono hc3.size)) | (go_at_call 73; refine (S1.out _ (HX.out.keep hc4)).mono ?_; rintro e w5 ⟨rfl, hb5⟩; have hc5 := hc4.trans (hb5.mono hc4.size)) | (go_at_call 74; refine (S2.out _ (HX.out.keep hc5)).mono ?_; rintro e w6 ⟨rfl, hb6⟩; have hc6 := hc5.trans (hb6.mono hc5.size)))
        go_ret
        exact ⟨rfl, hc6⟩
    · have hq : decide ((200 : Int) < (p.size : Int)) = true := by simp; omega
      go_enter Try.func15, Try.ntmps15
      go_wp2_with (first | (go_at_call 69; refine SM.out.mono ?_; rintro e w1 ⟨rfl, rfl⟩) | (go_at_call 70; refine (AW.out _).mono ?_; rintro e w2 ⟨rfl, hb⟩))
      go_ret
      exact ⟨rfl, hb⟩
end Go.Proofs.Ytcapaiiegfedmaa
namespace Go.Proofs.Ytcapaiiegfedmaa
open Go.RowKit Go.Shelf
theorem lays166w : Go.Proofs.Lays.n166 Try.prog Try.lays156_ren := { Try.lays156 with }
theorem write_k (B b : Nat) (bs : List Value) (s : ByteArray) (w : World) (h : Lib.IsBuilderF 162 5 B b bs w) (hlen : bs.length + s.size ≤ 140737488355328) (hBw : B ≤ w.heap.size) :
    Calls Try.prog 116 #[.pointer (some ⟨b, 0, none⟩), .string s] w fun e w' => e = .returned (.tuple #[.int .i64 s.size, .nilIface]) ∧ (Lib.BuilderAtF 162 5 B b (.pointer (some ⟨b, 0, none⟩)) (bs ++ Lib.strCells s) w' ∧ Below B w w' ∧ Lib.OthersKept 5 (some b) w w') :=
  Any.Builder_WriteString_k lays166w Try.Builder_Extra_156 B b bs s w h hlen hBw
/-- the builder that the call has made holds these bytes -/
def BldW (w : World) (acc : Bs) (W : World) : Prop := Lib.IsBuilderF 162 5 w.heap.size w.heap.size (Lib.byteCells acc) W ∧ Below w.heap.size w W ∧ w.heap.size < W.heap.size
theorem bld_start (w : World) : BldW w [] (w.alloc (.cells #[.pointer none, .slice none 0 0] 162)) :=
  ⟨Lib.IsBuilderF.of (.inl ⟨Nat.le_refl _, .slice none 0 0, World.alloc_heap_new _ _, World.ownsRow_nil _ _ _ _, by simp [Value.ownBlock]⟩), (Below.refl _ w).alloc (Nat.le_refl _) _, by simp⟩
theorem BldW.alloc {w W : World} {acc : Bs} (h : BldW w acc W) (o : Obj) : BldW w acc (W.alloc o) := ⟨h.1.alloc o, h.2.1.alloc (Nat.le_of_lt h.2.2) o, by have := h.2.2; simp; omega⟩
theorem str_bytes (s : Bs) : Lib.strCells (B s) = Lib.byteCells s := rfl
theorem bytes_app (a b : Bs) : Lib.byteCells (a ++ b) = Lib.byteCells a ++ Lib.byteCells b := by unfold Lib.byteCells; rw [List.map_append]
/-- one write into it -/
theorem bld_write {w W : World} {acc : Bs} (h : BldW w acc W) (x : Bs) (hl : acc.length + x.length ≤ 100000000) :
    Calls Try.prog 116 #[.pointer (some ⟨w.heap.size, 0, none⟩), .string (B x)] W fun e w' => e = .returned (.tuple #[.int .i64 (B x).size, .nilIface]) ∧ BldW w (acc ++ x) w' ∧ Lib.OthersKept 5 (some w.heap.size) W w' :=
  (write_k w.heap.size w.heap.size (Lib.byteCells acc) (B x) W h.1 (by rw [Lib.byteCells_length, B_size]; omega) (Nat.le_of_lt h.2.2)).mono fun e w' ⟨he, hB, hbl, hk⟩ => by
    rw [str_bytes, ← bytes_app] at hB
    exact ⟨he, ⟨.inr hB, h.2.1.trans hbl, Nat.lt_of_lt_of_le h.2.2 hbl.size⟩, hk⟩
theorem bld_read {w W : World} {acc : Bs} (h : BldW w acc W) :
    Calls Try.prog 117 #[.pointer (some ⟨w.heap.size, 0, none⟩)] W fun e w' => e = .returned (.string (B acc)) ∧ Below w.heap.size w w' :=
  (Try.Builder_String_any_k w.heap.size w.heap.size acc W h.1 (Nat.le_of_lt h.2.2)).mono fun e w' ⟨he, _, hbl, _⟩ => ⟨he, h.2.1.trans hbl⟩
theorem bld_two {W W' : World} {b n : Nat} {k : Bool} {p : ByteArray} (h : Lib.OthersKept 5 (some b) W W') (hn : W.heap[n]? = some (.cells #[.bool k, .string p] 102 (0, 0))) (hb : n ≠ b) : W'.heap[n]? = some (.cells #[.bool k, .string p] 102 (0, 0)) :=
  h n _ hn (fun e => hb (Option.some.inj e)) (fun c fz e => by cases e)
theorem text_len (l : List RuleD) (h : ∀ r ∈ l, r.2.length ≤ 100000) : (textR l).length ≤ 100003 * l.length := by
  induction l with
  | nil => simp [textR]
  | cons r t ih =>
    rw [text_cons, List.length_append]
    have h1 := h r (by simp)
    have h2 := ih (fun x hx => h x (by simp [hx]))
    have h3 : (lineR r).length = r.2.length + 3 := by unfold lineR; simp
    rw [List.length_cons]
    omega
set_option maxRecDepth 100000 in
set_option maxHeartbeats 4000000 in
theorem ruleText_walk (A : Option Addr) (c : Nat) (rs : List RuleD) (hn : rs.length ≤ 100) (hr : ∀ r ∈ rs, r.2.length ≤ 100000) (w : World) (hx : Slc w A (rs.flatMap rV)) :
    Calls Try.prog 81 #[.slice A rs.length c] w fun e w' => e = .returned (.string (B (textR rs))) ∧ Below w.heap.size w w' := by
  have HX := Lib.hid hx
  have HRS := Lib.hid hr
  clear hx hr
  go_enter Try.func81, Try.ntmps81
  go_wp2_with fail
  have HS := Lib.hid (bld_start w)
  go_loopw [9] (fun i wr => ∃ k : Nat, k ≤ rs.length ∧ i = .int .i64 k ∧ Hid (BldW w (textR (rs.take k)) wr)) (fun i _ => rs.length - (intOf i).toNat)
  case atStart => exact ⟨0, Nat.zero_le _, rfl, by rw [List.take_zero]; exact HS.out⟩
  case round =>
    clear HS
    obtain ⟨k, hk, rfl, HB⟩ := hrel
    have hbr := HB.out.2.1
    have hlw := HB.out.2.2
    have HBR := Lib.hid hbr
    clear hbr
    by_cases hlt : k < rs.length
    · obtain ⟨r, hrk⟩ : ∃ r, rs[k]? = some r := ⟨_, List.getElem?_eq_getElem hlt⟩
      have hrl := HRS.out r (List.mem_of_getElem? hrk)
      obtain ⟨b, o, rfl, hlb, c0, c1⟩ := two_at rV (fun _ => rfl) (HX.out.keep HBR.out) hrk rfl
      unfold strV at c1
      have htl := text_len (rs.take k) (fun x hx => HRS.out x (List.mem_of_mem_take hx))
      rw [List.length_take] at htl
      have HT : Hid (textR (rs.take (k + 1)) = textR (rs.take k) ++ lineR r) := by show _ = _; rw [take_one_more rs k r hrk, text_snoc]
      have hi0 : (0 : Int) ≤ (k : Int) := Int.natCast_nonneg _
      have hi1 : (k : Int) < (rs.length : Int) := by omega
      clear hrk
      obtain ⟨kp, pt⟩ := r
      simp only at c0 c1 hrl
      have hX := World.alloc_heap_new wr (.cells #[.bool kp, .string (B pt)] 102)
      have HA := Lib.hid (HB.out.alloc (.cells #[.bool kp, .string (B pt)] 102))
      obtain ⟨z0, z1⟩ := two_new2 hX
      have HXX := Lib.hid hX
      have hne : wr.heap.size ≠ w.heap.size := by omega
      have HNE := Lib.hid hne
      clear hX hne
      generalize textR (rs.take k) = tx at *
      cases kp with
      | true =>
        have W1 := Lib.hid (bld_write HA.out [43, 32] (by simp; omega))
        go_wp2_with (first | (go_at_call 116; refine W3.out.mono ?_; rintro e w3 ⟨rfl, hw3, hk3⟩; have HW3 := Lib.hid hw3; clear W3 hw3 hk3) | (go_at_call 116; refine W2.out.mono ?_; rintro e w2 ⟨rfl, hw2, hk2⟩; have W3 := Lib.hid (bld_write hw2 [10] (by simp; omega)); clear W2 hw2 hk2) | (go_at_call 116; refine W1.out.mono ?_; rintro e w1 ⟨rfl, hw1, hk1⟩; have hX1 := bld_two hk1 HXX.out HNE.out; obtain ⟨x0, x1⟩ := two_new2 hX1; have W2 := Lib.hid (bld_write hw1 pt (by simp; omega)); clear W1 hX1 hk1 hw1))
        go_roundw
        case rel => exact ⟨k + 1, by omega, by go_num, by show BldW _ _ _; rw [HT.out]; have h9 := HW3.out; simpa [lineR, signB2] using h9⟩
        case measure => simp [intOf]; omega
      | false =>
        have W1 := Lib.hid (bld_write HA.out [45, 32] (by simp; omega))
        go_wp2_with (first | (go_at_call 116; refine W3.out.mono ?_; rintro e w3 ⟨rfl, hw3, hk3⟩; have HW3 := Lib.hid hw3; clear W3 hw3 hk3) | (go_at_call 116; refine W2.out.mono ?_; rintro e w2 ⟨rfl, hw2, hk2⟩; have W3 := Lib.hid (bld_write hw2 [10] (by simp; omega)); clear W2 hw2 hk2) | (go_at_call 116; refine W1.out.mono ?_; rintro e w1 ⟨rfl, hw1, hk1⟩; have hX1 := bld_two hk1 HXX.out HNE.out; obtain ⟨x0, x1⟩ := two_new2 hX1; have W2 := Lib.hid (bld_write hw1 pt (by simp; omega)); clear W1 hX1 hk1 hw1))
        go_roundw
        case rel => exact ⟨k + 1, by omega, by go_num, by show BldW _ _ _; rw [HT.out]; have h9 := HW3.out; simpa [lineR, signB2] using h9⟩
        case measure => simp [intOf]; omega
    · obtain rfl : k = rs.length := by omega
      rw [List.take_length] at HB
      have R1 := Lib.hid (bld_read HB.out)
      go_wp2_with (go_at_call 117; refine R1.out.mono ?_; rintro e w1 ⟨rfl, hb1⟩)
      go_ret
      exact ⟨rfl, hb1⟩
end Go.Proofs.Ytcapaiiegfedmaa
