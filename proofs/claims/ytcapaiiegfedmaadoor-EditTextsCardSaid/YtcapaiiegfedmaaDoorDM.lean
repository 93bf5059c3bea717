/- edit.Text: edits as lines (a strings.Builder). -/
import Derived.Test.YtcapaiiegfedmaaDoorDI
namespace Go.Proofs.YtcapaiiegfedmaaDoor
open Go.RowKit Go.Shelf
theorem lays166w : Go.Proofs.Lays.n166 Tryd.prog Tryd.lays156_ren := { Tryd.lays156 with }
theorem write_k (B b : Nat) (bs : List Value) (s : ByteArray) (w : World) (h : Lib.IsBuilderF 63 5 B b bs w) (hlen : bs.length + s.size ≤ 140737488355328) (hBw : B ≤ w.heap.size) :
    Calls Tryd.prog 33 #[.pointer (some ⟨b, 0, none⟩), .string s] w fun e w' => e = .returned (.tuple #[.int .i64 s.size, .nilIface]) ∧ (Lib.BuilderAtF 63 5 B b (.pointer (some ⟨b, 0, none⟩)) (bs ++ Lib.strCells s) w' ∧ Below B w w' ∧ Lib.OthersKept 5 (some b) w w') :=
  Any.Builder_WriteString_k lays166w Tryd.Builder_Extra_156 B b bs s w h hlen hBw
/-- the builder that the call has made holds these bytes -/
def BldW (w : World) (acc : Bs) (W : World) : Prop := Lib.IsBuilderF 63 5 w.heap.size w.heap.size (Lib.byteCells acc) W ∧ Below w.heap.size w W ∧ w.heap.size < W.heap.size
theorem bld_start (w : World) : BldW w [] (w.alloc (.cells #[.pointer none, .slice none 0 0] 63)) :=
  ⟨Lib.IsBuilderF.of (.inl ⟨Nat.le_refl _, .slice none 0 0, World.alloc_heap_new _ _, World.ownsRow_nil _ _ _ _, by simp [Value.ownBlock]⟩), (Below.refl _ w).alloc (Nat.le_refl _) _, by simp⟩
theorem BldW.alloc {w W : World} {acc : Bs} (h : BldW w acc W) (o : Obj) : BldW w acc (W.alloc o) := ⟨h.1.alloc o, h.2.1.alloc (Nat.le_of_lt h.2.2) o, by have := h.2.2; simp; omega⟩
theorem str_bytes (s : Bs) : Lib.strCells (B s) = Lib.byteCells s := rfl
theorem bytes_app (a b : Bs) : Lib.byteCells (a ++ b) = Lib.byteCells a ++ Lib.byteCells b := by unfold Lib.byteCells; rw [List.map_append]
/-- one write into it -/
theorem bld_write {w W : World} {acc : Bs} (h : BldW w acc W) (x : Bs) (hl : acc.length + x.length ≤ 100000000) :
    Calls Tryd.prog 33 #[.pointer (some ⟨w.heap.size, 0, none⟩), .string (B x)] W fun e w' => e = .returned (.tuple #[.int .i64 (B x).size, .nilIface]) ∧ BldW w (acc ++ x) w' ∧ Lib.OthersKept 5 (some w.heap.size) W w' :=
  (write_k w.heap.size w.heap.size (Lib.byteCells acc) (B x) W h.1 (by rw [Lib.byteCells_length, B_size]; omega) (Nat.le_of_lt h.2.2)).mono fun e w' ⟨he, hB, hbl, hk⟩ => by
    rw [str_bytes, ← bytes_app] at hB
    exact ⟨he, ⟨.inr hB, h.2.1.trans hbl, Nat.lt_of_lt_of_le h.2.2 hbl.size⟩, hk⟩
theorem bld_read {w W : World} {acc : Bs} (h : BldW w acc W) :
    Calls Tryd.prog 34 #[.pointer (some ⟨w.heap.size, 0, none⟩)] W fun e w' => e = .returned (.string (B acc)) ∧ Below w.heap.size w w' :=
  (Tryd.Builder_String_any_k w.heap.size w.heap.size acc W h.1 (Nat.le_of_lt h.2.2)).mono fun e w' ⟨he, _, hbl, _⟩ => ⟨he, h.2.1.trans hbl⟩
/-- whatever lies above stays, when a call keeps all that lay there -/
theorem atF_below {T e : TypeId} {B b : Nat} {p : Value} {bs : List Value} {W W' : World} (h : Lib.BuilderAtF T e B b p bs W) (hb : Below W.heap.size W W') : Lib.BuilderAtF T e B b p bs W' := by
  have hlt := h.lt
  obtain ⟨hB, v, hv, hown, hne⟩ := h
  exact ⟨hB, v, (hb.block b hlt).trans hv, hown.kept (row := none) ⟨hb.os, hb.tape, hb.output, hb.size, fun k hk _ => hb.block k hk⟩ (Classical.em _), hne⟩
theorem BldW.below {w W W' : World} {acc : Bs} (h : BldW w acc W) (hb : Below W.heap.size W W') : BldW w acc W' :=
  ⟨h.1.elim (fun x => .inl (atF_below x hb)) (fun x => .inr (atF_below x hb)), h.2.1.trans (hb.mono (Nat.le_of_lt h.2.2)), Nat.lt_of_lt_of_le h.2.2 hb.size⟩
/-- the text: empty, if one of them isn't right -/
def textO (es : List EditD) : Bs := if es.all rightO then textE es else []
theorem textO_bad {es : List EditD} {e : EditD} (h : e ∈ es) (hr : rightO e = false) : textO es = [] := by
  unfold textO
  rw [if_neg]
  intro ha
  have := List.all_eq_true.1 ha e h
  rw [hr] at this; cases this
set_option maxRecDepth 100000 in
set_option maxHeartbeats 4000000 in
theorem editText_walk (A : Option Addr) (c : Nat) (es : List EditD) (hn : es.length ≤ 20) (hr : ∀ e ∈ es, e.2.1.length ≤ 200 ∧ e.2.2.1.length ≤ 200) (w : World) (hx : Slc w A (es.flatMap eV)) :
    Calls Tryd.prog 15 #[.slice A es.length c] w fun e w' => e = .returned (.string (B (textO es))) ∧ Below w.heap.size w w' := by
  have HX := Lib.hid hx
  have HRS := Lib.hid hr
  clear hx hr
  go_enter Tryd.func15, Tryd.ntmps15
  go_wp2_with fail
  have HS := Lib.hid (bld_start w)
  go_loopw [9] (fun i wr => ∃ k : Nat, k ≤ es.length ∧ i = .int .i64 k ∧ Hid ((es.take k).all rightO = true) ∧ Hid (BldW w (textE (es.take k)) wr)) (fun i _ => es.length - (intOf i).toNat)
  case atStart => exact ⟨0, Nat.zero_le _, rfl, (show _ = _ by rw [List.take_zero]; rfl), by rw [List.take_zero]; exact HS.out⟩
  case round =>
    clear HS
    obtain ⟨k, hk, rfl, HALL, HB⟩ := hrel
    have hbr := HB.out.2.1
    have hlw := HB.out.2.2
    have HBR := Lib.hid hbr
    clear hbr
    by_cases hlt : k < es.length
    · obtain ⟨e, hek⟩ : ∃ e, es[k]? = some e := ⟨_, List.getElem?_eq_getElem hlt⟩
      have hem := List.mem_of_getElem? hek
      obtain ⟨he1, he2⟩ := HRS.out e hem
      obtain ⟨b, o, rfl, hlb, c0, c1, c2, c3⟩ := edit_at (HX.out.keep HBR.out) hek
      have htl := text_size (es.take k) (fun x hx => HRS.out x (List.mem_of_mem_take hx))
      rw [List.length_take] at htl
      have hll := line_bound e.1 e.2.1 e.2.2.1 e.2.2.2 he1 he2
      have HT : Hid (textE (es.take (k + 1)) = textE (es.take k) ++ (lineD e ++ [10])) := by show _ = _; rw [take_one_more es k e hek, textE_snoc]
      have HA2 : Hid (rightO e = true → (es.take (k + 1)).all rightO = true) := fun h => by
        rw [take_one_more es k e hek, List.all_append, HALL.out]; simp [h]
      have HBAD : Hid (rightO e = false → textO es = []) := fun h => textO_bad hem h
      have hi0 : (0 : Int) ≤ (k : Int) := Int.natCast_nonneg _
      have hi1 : (k : Int) < (es.length : Int) := by omega
      clear hek hem
      have L1 := Lib.hid (fun W => eline_walk e.1 (B e.2.1) (B e.2.2.1) e.2.2.2 (by rw [B_size]; omega) (by rw [B_size]; omega) W)
      rw [L_B, L_B] at L1
      have hld : lineE e.1 e.2.1 e.2.2.1 e.2.2.2 = lineD e := rfl
      rw [hld] at L1 hll
      clear hld
      have hne := lineD_ne e
      have hno := lineD_no_right e
      obtain ⟨kd, f, t, n⟩ := e
      simp only at c0 c1 c2 c3 L1
      have hX := World.alloc_heap_new wr (.cells #[.int .i64 kd, .string (B f), .string (B t), .int .i64 n] 23)
      obtain ⟨z0, z1, z2, z3⟩ := four_new2 hX
      have HA := Lib.hid (HB.out.alloc (.cells #[.int .i64 kd, .string (B f), .string (B t), .int .i64 n] 23))
      clear hX
      generalize textE (es.take k) = tx at *
      generalize lineD (kd, f, t, n) = ld at *
      generalize B f = fb at *
      generalize B t = tb at *
      cases hro : rightO (kd, f, t, n) with
      | true =>
        have hld := hne hro
        have hemp : (B ld).toList.isEmpty = false := by rw [L_toList, L_B]; simpa using hld
        have HAL := Lib.hid (HA2.out hro)
        clear hne hno hld hro
        go_wp2_with (first | (go_at_call 7; refine (L1.out _).mono ?_; rintro e w1 ⟨rfl, hb1⟩; have W2 := Lib.hid (bld_write (HA.out.below hb1) ld (by omega)); clear hb1) | (go_at_call 33; refine W3.out.mono ?_; rintro e w3 ⟨rfl, hw3, hk3⟩; have HW3 := Lib.hid hw3; clear W3 hw3 hk3) | (go_at_call 33; refine W2.out.mono ?_; rintro e w2 ⟨rfl, hw2, hk2⟩; have W3 := Lib.hid (bld_write hw2 [10] (by simp; omega)); clear W2 hw2 hk2))
        go_roundw
        case rel => exact ⟨k + 1, by omega, by go_num, HAL.out, by show BldW _ _ _; rw [HT.out, ← List.append_assoc]; exact HW3.out⟩
        case measure => simp [intOf]; omega
      | false =>
        have hld := hno hro
        have HE := Lib.hid (HBAD.out hro)
        subst hld
        have hemp : (B []).toList.isEmpty = true := by rw [L_toList, L_B]; rfl
        clear hne hno hro
        go_wp2_with (go_at_call 7; refine (L1.out _).mono ?_; rintro e w1 ⟨rfl, hb1⟩; have HB1 := Lib.hid (HA.out.below hb1).2.1)
        refine bodyPost_ret (results_tmp rfl _ _ _) rfl ?_
        rw [HE.out]
        exact ⟨rfl, HB1.out⟩
    · obtain rfl : k = es.length := by omega
      rw [List.take_length] at HB HALL
      have HT : Hid (textO es = textE es) := if_pos HALL.out
      have R1 := Lib.hid (bld_read HB.out)
      go_wp2_with (go_at_call 34; refine R1.out.mono ?_; rintro e w1 ⟨rfl, hb1⟩)
      go_ret
      rw [HT.out]
      exact ⟨rfl, hb1⟩
end Go.Proofs.YtcapaiiegfedmaaDoor
