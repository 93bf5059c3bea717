/- paths.Depth. -/
import Derived.Test.YtcapaiiegfedmaaPartsA
namespace Go.Proofs.Ytcapaiiegfedmaa
open Go.RowKit Go.Shelf
attribute [local go_sem] Oper.semAt_some
set_option maxRecDepth 100000 in
set_option maxHeartbeats 1000000 in
theorem depth_walk (p : ByteArray) (hp : p.size ≤ 100000) (w : World) : Calls Try.prog 41 #[.string p] w fun e w' =>
    e = .returned (.int .i64 ((names (L p)).length : Int)) ∧ Below w.heap.size w w' := by
  have N1 := Lib.hid (fun X => names_fn p hp X)
  have HCNT : Hid ((names (L p)).length ≤ 100001) := by have := names_count (L p); rw [L_len] at this; show (names (L p)).length ≤ 100001; omega
  refine (callsIn_wide (n := 0)).1 ?_
  refine callsIn_of_wp_marks Try.func41 rfl trivial ?_ rfl
  simp only [Try.ntmps41, List.size_toArray, List.length_cons, List.length_nil, Nat.reduceAdd, Nat.reduceSub, Array.replicate_succ, Array.replicate_zero, List.push_toArray, List.append_toArray, List.nil_append, List.cons_append]
  gi_wp2_with (refine ⟨trivial, rfl, ?_⟩; gi_at_call 93; refine (callsIn_wide.2 (N1.out _)).mono ?_; rintro e w1 ⟨b, q, rfl, hbb0, hbx, hcq, hqs, hb1⟩)
  have hbb := hbb0
  simp only [World.size_alloc] at hbb
  have hblt : b < w1.heap.size := (Array.getElem?_eq_some_iff.1 hbx).1
  have hB1 : Boxed w1 w.heap.size 3 (.int .i64 (0 : Int)) := (hb1.block _ (by simp)).trans (Boxed.new w 3 (.int .i64 (0 : Int)))
  have hbw : Below w.heap.size w w1 := ((Below.refl _ _).alloc (Nat.le_refl _) _).trans (hb1.mono (by simp))
  have hws := hbw.size
  clear hb1 N1
  have HXS : Hid (∀ i, i ≤ (names (L p)).length → i < 100002) := by intro i hi; have := HCNT.out; omega
  refine wp_range (gf := 124) (lb := #[.pointer (some ⟨b, 0, none⟩)]) rfl (enters_of Try.func124 (by kernel_rfl) rfl) (xs := names (L p))
    (row := some b) (Ks := fun k => k = b) (by rintro r e; cases e; omega)
    (fun W hs hk => hcq ▸ cut_iter q hqs b W ((hk b (by omega)).trans hbx)) (fun x => rfl)
    (fun i W => Boxed W w.heap.size 3 (.int .i64 (i : Int)) ∧ Below w.heap.size w W)
    (fun c i W => False)
    ?hI ?hIx ⟨hB1, hbw⟩
    (fun x => { tmps := #[.string p, undef, .int .i64 0, .pointer (some ⟨w.heap.size, 0, none⟩), .string p, .func (.func 124) #[] #[.pointer (some ⟨b, 0, none⟩)], .string (B x), undef, undef, undef], defers := [] })
    ?assign ?body ?done ?stop
  case hI =>
    rintro i A C ⟨h1, h5⟩ ht
    exact ⟨ht.boxed h1 (by simp; omega), ht.below h5 hbw.size (by rintro r e; cases e; omega)⟩
  case hIx =>
    rintro c i A C h ht
    exact h.elim
  case assign =>
    intro l x W K hK
    gi_wp2
    simpa using hK
  case body =>
    rintro l i x W hx ⟨h1, h5⟩
    have hil := (List.getElem?_eq_some_iff.1 hx).1
    have hi5 := HXS.out i (by omega)
    have hc1 := Boxed.cell h1
    have hf1 := Boxed.frozen h1
    clear hx hil
    gi_wp2
    exact ⟨(Calm.refl _ _).setCell _ (by show ¬ w.heap.size = b; omega), h1.set _, h5.setCell (by show w.heap.size ≤ w.heap.size; omega) _⟩
  case done =>
    rintro D W hD ⟨h1, h5⟩ hK
    have hc1 := Boxed.cell h1
    have h5 := below_mark (D := D) h5 (by omega) h5.size
    gi_wp2
    refine end_markM rfl hK (results_tmp rfl _ _ _) ?_
    exact ⟨rfl, h5⟩
  case stop =>
    rintro D c i W hD _ hil h hK
    exact h.elim
end Go.Proofs.Ytcapaiiegfedmaa
