/- flittingref34.Prepare. (printed by gen_rprep.py) -/
import Derived.Test.YtcapaiiegfedmaaWJ
namespace Go.Proofs.Ytcapaiiegfedmaa
open Go.RowKit Go.Shelf
theorem at_none {es : List NodeD} {p : Bs} {r : Int} (h : AtRes es p r) (hf : findN es p = none) : r = -1 := by
  rcases h with ⟨h, _⟩ | ⟨i, x, _, _, _, h⟩
  · exact h
  · rw [hf] at h; cases h
theorem at_some {es : List NodeD} {p : Bs} {r : Int} {x : NodeD} (h : AtRes es p r) (hf : findN es p = some x) : ∃ i : Nat, r = (i : Int) ∧ es[i]? = some x ∧ i < es.length := by
  rcases h with ⟨_, h⟩ | ⟨i, y, h1, h2, h3, h⟩
  · rw [hf] at h; cases h
  · rw [hf] at h; cases h; exact ⟨i, h1, h2, h3⟩
set_option maxRecDepth 100000 in
set_option maxHeartbeats 4000000 in
theorem rprep_walk (A0 : Option Addr) (c0 : Nat) (es : List NodeD) (hn : es.length ≤ 1000) (log : ByteArray) (bo ed : Int) (hb0 : 0 ≤ bo) (hb1 : bo ≤ 18446744073709551615) (w : World) (hx : Slc w A0 (es.flatMap nV)) :
    Calls Try.prog 61 #[.slice A0 es.length c0, .string log, .int .u64 bo, .int .i64 ed] w fun e w' => MadeO w (prepO es (L log) bo ed) e w' := by
  have HX := Lib.hid hx
  have A1 := Lib.hid (at_walk A0 c0 es ⟨#[46, 102, 108, 105, 116]⟩ w hx hn)
  rw [flit_B] at A1
  have N1 := Lib.hid (fun k n W => rline_walk k n W)
  clear hx
  cases hf : findN es flitB with
  | none =>
    go_enter Try.func61, Try.ntmps61
    go_wp2_with (first | (go_at_call 104; refine A1.out.mono ?_; rintro e9 w1 ⟨r, rfl, hww, hr⟩; subst w1; obtain rfl := at_none hr hf; obtain ⟨sv, hsv⟩ : ∃ sv, Value.slice none 0 0 = sv := ⟨_, rfl⟩; rw [hsv]; have hown0 : ∀ W : World, W.ownsRow w.heap.size 137 5 sv 0 [] := fun W => hsv ▸ World.ownsRow_nil _ _ _ _; have hbs := Below.refl w.heap.size w) | (at_builtin; refine wpList_app1 rfl _ _ 76 rfl elem_rop rfl (hown.alloc _) (cs := [_, _, _, _, _]) rfl (by first | exact heap_alloc_new _ _ | exact two_new _ _ _) rfl (by intro u hu; simp at hu; rcases hu with rfl | rfl | rfl | rfl | rfl <;> rfl) (by omega) (by omega) (by have := hbs.size; simp only [World.size_alloc] at this ⊢; omega) ?_; intro g7 cap7 w7 hown hgr7 hb7; have hbs := ((hbs.alloc hbs.size _).trans hb7); clear hb7) | (at_builtin; refine wpList_app1 rfl _ _ 76 rfl elem_rop rfl (hown0 _) (cs := [_, _, _, _, _]) rfl (by first | exact heap_alloc_new _ _ | exact two_new _ _ _) rfl (by intro u hu; simp at hu; rcases hu with rfl | rfl | rfl | rfl | rfl <;> rfl) (by omega) (by omega) (by have := hbs.size; simp only [World.size_alloc] at this ⊢; omega) ?_; intro g7 cap7 w7 hown hgr7 hb7; have hbs := ((hbs.alloc hbs.size _).trans hb7); clear hb7) | (go_at_call 51; refine (N1.out _ _ _).mono ?_; rintro e9 w2 ⟨rfl, hb2⟩; have hown := own_keep hown hb2; have hbs := hbs.trans (hb2.mono hbs.size); clear hb2))
    go_ret
    refine made_own hown (by unfold prepO; rw [hf]; rfl) ?_ hbs
    unfold prepO
    rw [hf]
    simp [needO, oV, noteO, strV, B_flit, B_nil0, B_L]
  | some e =>
    by_cases hk : e.2.1 = 1
    · have hq : (e.2.1 != 1) = false := by simp [hk]
      have HK := Lib.hid hk
      clear hk
      go_enter Try.func61, Try.ntmps61
      go_wp2_with (first | (go_at_call 104; refine A1.out.mono ?_; rintro e9 w1 ⟨r, rfl, hww, hr⟩; subst w1; obtain ⟨i, rfl, hi, hil⟩ := at_some hr hf; obtain ⟨b, o, rfl, hlb, c0a, c1a, c2a, c3a, c4a⟩ := five_at nV (fun _ => rfl) HX.out hi rfl; have HC1 := Lib.hid c1a; have hi0 : (0 : Int) ≤ (i : Int) := Int.natCast_nonneg _; have hi1 : (i : Int) < (es.length : Int) := (by omega); clear c0a c2a c3a c4a; obtain ⟨sv, hsv⟩ : ∃ sv, Value.slice none 0 0 = sv := ⟨_, rfl⟩; rw [hsv]; have hown0 : ∀ W : World, W.ownsRow w.heap.size 137 5 sv 0 [] := fun W => hsv ▸ World.ownsRow_nil _ _ _ _; have hbs := Below.refl w.heap.size w) | (at_builtin; refine wpList_app1 rfl _ _ 76 rfl elem_rop rfl (hown.alloc _) (cs := [_, _, _, _, _]) rfl (by first | exact heap_alloc_new _ _ | exact two_new _ _ _) rfl (by intro u hu; simp at hu; rcases hu with rfl | rfl | rfl | rfl | rfl <;> rfl) (by omega) (by omega) (by have := hbs.size; simp only [World.size_alloc] at this ⊢; omega) ?_; intro g7 cap7 w7 hown hgr7 hb7; have hbs := ((hbs.alloc hbs.size _).trans hb7); clear hb7; have c1a := (hbs.cell (p := ⟨b, o + i * 5 + 1, none⟩) hlb).trans HC1.out) | (at_builtin; refine wpList_app1 rfl _ _ 76 rfl elem_rop rfl (hown0 _) (cs := [_, _, _, _, _]) rfl (by first | exact heap_alloc_new _ _ | exact two_new _ _ _) rfl (by intro u hu; simp at hu; rcases hu with rfl | rfl | rfl | rfl | rfl <;> rfl) (by omega) (by omega) (by have := hbs.size; simp only [World.size_alloc] at this ⊢; omega) ?_; intro g7 cap7 w7 hown hgr7 hb7; have hbs := ((hbs.alloc hbs.size _).trans hb7); clear hb7; have c1a := (hbs.cell (p := ⟨b, o + i * 5 + 1, none⟩) hlb).trans HC1.out) | (go_at_call 51; refine (N1.out _ _ _).mono ?_; rintro e9 w2 ⟨rfl, hb2⟩; have hown := own_keep hown hb2; have hbs := hbs.trans (hb2.mono hbs.size); clear hb2))
      go_ret
      refine made_own hown (by unfold prepO; rw [hf]; simp [needO, HK.out]) ?_ hbs
      unfold prepO
      rw [hf]
      simp [needO, oV, noteO, strV, B_flit, B_nil0, B_L, HK.out]
    · have hq : (e.2.1 != 1) = true := by simpa using hk
      have HK := Lib.hid hk
      clear hk
      go_enter Try.func61, Try.ntmps61
      go_wp2_with (first | (go_at_call 104; refine A1.out.mono ?_; rintro e9 w1 ⟨r, rfl, hww, hr⟩; subst w1; obtain ⟨i, rfl, hi, hil⟩ := at_some hr hf; obtain ⟨b, o, rfl, hlb, c0a, c1a, c2a, c3a, c4a⟩ := five_at nV (fun _ => rfl) HX.out hi rfl; have HC1 := Lib.hid c1a; have hi0 : (0 : Int) ≤ (i : Int) := Int.natCast_nonneg _; have hi1 : (i : Int) < (es.length : Int) := (by omega); clear c0a c2a c3a c4a; obtain ⟨sv, hsv⟩ : ∃ sv, Value.slice none 0 0 = sv := ⟨_, rfl⟩; rw [hsv]; have hown0 : ∀ W : World, W.ownsRow w.heap.size 137 5 sv 0 [] := fun W => hsv ▸ World.ownsRow_nil _ _ _ _; have hbs := Below.refl w.heap.size w) | (at_builtin; refine wpList_app1 rfl _ _ 76 rfl elem_rop rfl (hown.alloc _) (cs := [_, _, _, _, _]) rfl (by first | exact heap_alloc_new _ _ | exact two_new _ _ _) rfl (by intro u hu; simp at hu; rcases hu with rfl | rfl | rfl | rfl | rfl <;> rfl) (by omega) (by omega) (by have := hbs.size; simp only [World.size_alloc] at this ⊢; omega) ?_; intro g7 cap7 w7 hown hgr7 hb7; have hbs := ((hbs.alloc hbs.size _).trans hb7); clear hb7; have c1a := (hbs.cell (p := ⟨b, o + i * 5 + 1, none⟩) hlb).trans HC1.out) | (at_builtin; refine wpList_app1 rfl _ _ 76 rfl elem_rop rfl (hown0 _) (cs := [_, _, _, _, _]) rfl (by first | exact heap_alloc_new _ _ | exact two_new _ _ _) rfl (by intro u hu; simp at hu; rcases hu with rfl | rfl | rfl | rfl | rfl <;> rfl) (by omega) (by omega) (by have := hbs.size; simp only [World.size_alloc] at this ⊢; omega) ?_; intro g7 cap7 w7 hown hgr7 hb7; have hbs := ((hbs.alloc hbs.size _).trans hb7); clear hb7; have c1a := (hbs.cell (p := ⟨b, o + i * 5 + 1, none⟩) hlb).trans HC1.out) | (go_at_call 51; refine (N1.out _ _ _).mono ?_; rintro e9 w2 ⟨rfl, hb2⟩; have hown := own_keep hown hb2; have hbs := hbs.trans (hb2.mono hbs.size); clear hb2))
      go_ret
      refine made_own hown (by unfold prepO; rw [hf]; simp [needO, HK.out]) ?_ hbs
      unfold prepO
      rw [hf]
      simp [needO, oV, noteO, strV, B_flit, B_nil0, B_L, HK.out]
end Go.Proofs.Ytcapaiiegfedmaa
