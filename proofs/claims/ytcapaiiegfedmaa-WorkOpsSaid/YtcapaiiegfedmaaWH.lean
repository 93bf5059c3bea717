/- work: what cleans (work.Clean by slices.Backward, flittingref34.Clean). -/
import Derived.Test.YtcapaiiegfedmaaWF
import Derived.Test.YtcapaiiegfedmaaRangeB
namespace Go.Proofs.Ytcapaiiegfedmaa
open Go.RowKit Go.Shelf
attribute [local go_sem] Oper.semAt_some
def flitB : Bs := [46, 102, 108, 105, 116]
def cleanL (es : List NodeD) : List OpD := (es.filter (fun e => withinB e.1 flitB)).map (fun e => (6, e.1, [], 0, 0))
def cleanO (es : List NodeD) : List OpD := cleanL es.reverse
theorem cleanL_app (a b : List NodeD) : cleanL (a ++ b) = cleanL a ++ cleanL b := by unfold cleanL; rw [List.filter_append, List.map_append]
theorem cleanL_yes (e : NodeD) (h : withinB e.1 flitB = true) : cleanL [e] = [(6, e.1, [], 0, 0)] := by unfold cleanL; simp [h]
theorem cleanL_no (e : NodeD) (h : withinB e.1 flitB = false) : cleanL [e] = [] := by unfold cleanL; simp [h]
theorem cleanL_len (l : List NodeD) : (cleanL l).length ≤ l.length := by unfold cleanL; rw [List.length_map]; exact List.length_filter_le _ _
def backL (es : List NodeD) : List (Nat × NodeD) := (List.range es.length).reverse.zip es.reverse
def backE (x : Nat × NodeD) : Array Value := #[.int .i64 (x.1 : Int), .agg (nV x.2).toArray]
theorem backL_len (es : List NodeD) : (backL es).length = es.length := by unfold backL; simp
theorem backL_get (es : List NodeD) (m : Nat) (e : NodeD) (h : es[m]? = some e) : (backL es)[es.length - (m + 1)]? = some (m, e) := by
  have hm := (List.getElem?_eq_some_iff.1 h).1
  unfold backL
  rw [List.getElem?_zip_eq_some]
  refine ⟨?_, ?_⟩
  · rw [List.getElem?_reverse (by simp; omega), List.length_range, List.getElem?_range (by omega)]
    congr 1
    omega
  · rw [List.getElem?_reverse (by omega), ← h]
    congr 1
    omega
theorem backL_rev (es : List NodeD) (i : Nat) (x : Nat × NodeD) (h : (backL es)[i]? = some x) : es.reverse[i]? = some x.2 ∧ x.2 ∈ es := by
  unfold backL at h
  rw [List.getElem?_zip_eq_some] at h
  exact ⟨h.2, List.mem_reverse.1 (List.mem_of_getElem? h.2)⟩
theorem Slc.calm {Ks : Nat → Prop} {W W' : World} {A : Option Addr} {cs : List Value} (h : Slc W A cs) (hk : Calm Ks W W') (hK : ∀ x, A = some x → Ks x.block) : Slc W' A cs := by
  rcases h with h | ⟨b, o, rfl, hlt, hc⟩
  · exact .inl h
  · obtain ⟨ob, hob⟩ : ∃ ob, W.heap[b]? = some ob := ⟨_, Array.getElem?_eq_getElem hlt⟩
    have h2 := hk.same b ob hob (.inr (hK _ rfl))
    refine .inr ⟨b, o, rfl, (Array.getElem?_eq_some_iff.1 h2).1, fun i v hv => ?_⟩
    rw [← hc i v hv]
    simp [World.cell?, h2, hob]
theorem back_walk (A : Option Addr) (n c : Nat) (w : World) : Calls Try.prog 105 #[.slice A n c] w fun e w' =>
    e = .returned (.func (.func 129) #[] #[.pointer (some ⟨w.heap.size, 0, none⟩)]) ∧ w' = w.alloc (.cells #[.slice A n c] 66) := by
  go_enter Try.func105, Try.ntmps105
  go_wp2
  go_ret
  exact ⟨rfl, rfl⟩
set_option maxRecDepth 100000 in
set_option maxHeartbeats 4000000 in
theorem back_iter (A : Option Addr) (c : Nat) (es : List NodeD) (hn : es.length ≤ 1000) (b : Nat) (W : World) (hb : W.heap[b]? = some (.cells #[.slice A es.length c] 66 (0, 0))) (hx : Slc W A (es.flatMap nV)) :
    Iter Try.prog 129 #[.pointer (some ⟨b, 0, none⟩)] backE (backL es) none (fun k => k = b ∨ ∃ x, A = some x ∧ k = x.block) W := by
  intro l J Jx hJ hJx hY h0
  refine callsIn_of_wp Try.func129 rfl trivial ?_ rfl
  simp only [Try.ntmps129, List.size_toArray, List.length_cons, List.length_nil, Nat.reduceAdd, Nat.reduceSub, Array.replicate_succ, Array.replicate_zero, List.push_toArray, List.append_toArray, List.nil_append, List.cons_append]
  have hc := cell_of_one hb
  have HJ := Lib.hid hJ
  have HJX := Lib.hid hJx
  have HLEN := Lib.hid (backL_len es)
  clear hJ hJx
  gi_wp2_with (with_reducible refine ⟨fun f _ => wide_fn f, ?_⟩)
  gi_loopw [3] (fun v wr => ∃ m : Nat, m ≤ es.length ∧ v = .int .i64 ((m : Int) - 1) ∧ wr.heap[b]? = some (.cells #[.slice A es.length c] 66 (0, 0)) ∧ Slc wr A (es.flatMap nV) ∧ J (es.length - m) wr) (fun v _ => (intOf v + 1).toNat)
  case atStart => exact ⟨es.length, Nat.le_refl _, rfl, hb, hx, by rw [Nat.sub_self]; exact h0⟩
  case round =>
    obtain ⟨m, hm, rfl, hbr, hxr, hJm⟩ := hrel
    have hcr := cell_of_one hbr
    rcases m with _ | m
    · gi_wp2
      refine bodyPost_end (results_none rfl _ _ _) rfl ?_
      exact ⟨⟨_, rfl⟩, .inl (by rw [HLEN.out]; exact hJm)⟩
    · obtain ⟨e, hek⟩ : ∃ e, es[m]? = some e := ⟨_, List.getElem?_eq_getElem (by omega)⟩
      have hget := backL_get es m e hek
      obtain ⟨bb, o, rfl, hlb, c0, c1, c2, c3, c4⟩ := five_at nV (fun _ => rfl) hxr hek rfl
      have hq : ((m + 1 : Nat) : Int) - 1 = (m : Int) := by omega
      rw [hq]
      have hi0 : (0 : Int) ≤ (m : Int) := Int.natCast_nonneg _
      have hi1 : (m : Int) < (es.length : Int) := by omega
      obtain ⟨fn, tmps, assign, body, hy, hR⟩ := hY (es.length - (m + 1)) (m, e) wr hget hJm
      have hy : Sem.run Try.prog (Instr.yield l #[.int .i64 (m : Int), .agg #[strV e.1, .int .i64 e.2.1, .int .i64 e.2.2.1, .int .i64 e.2.2.2.1, strV e.2.2.2.2]]) wr = _ := hy
      clear hget hek
      gi_wp2_with (with_reducible refine ⟨fun f _ => wide_fn f, ?_⟩)
      refine ⟨rfl, ?_⟩
      refine hR.mono ?_
      clear hR hy
      rintro e9 W4 (⟨rfl, hJ4, hk4⟩ | ⟨rfl, hJx4⟩)
      · have hb4 := hk4.same b _ hbr (.inr (.inl rfl))
        have hx4 := hxr.calm hk4 (fun x hx => .inr ⟨x, hx, rfl⟩)
        clear hk4
        gi_wp2
        go_roundw
        case rel => exact ⟨m, by omega, by first | rfl | go_num, hb4, hx4, by rw [show es.length - m = es.length - (m + 1) + 1 by omega]; exact hJ4⟩
        case measure => simp [intOf]
      · gi_wp2
        refine bodyPost_ret (results_none rfl _ _ _) rfl ?_
        exact ⟨⟨_, rfl⟩, .inr ⟨es.length - (m + 1) + 1, by omega, by rw [HLEN.out]; omega, hJx4⟩⟩
end Go.Proofs.Ytcapaiiegfedmaa
