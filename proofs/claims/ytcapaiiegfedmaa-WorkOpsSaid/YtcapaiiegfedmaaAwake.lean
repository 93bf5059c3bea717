/- flittinglaw01.awake. -/
import Derived.Test.YtcapaiiegfedmaaCol
namespace Go.Proofs.Ytcapaiiegfedmaa
open Go.RowKit Go.Shelf
theorem Slc.new (w : World) (cs : List Value) (e : TypeId) : Slc (w.alloc (.cells cs.toArray e)) (some ⟨w.heap.size, 0, none⟩) cs := by
  refine .inr ⟨w.heap.size, 0, rfl, by simp, fun i v hv => ?_⟩
  have h := World.alloc_heap_new w (.cells cs.toArray e)
  unfold World.cell?
  rw [h]
  simp [hv]
theorem aw_rebase : refMove [97, 47, 98, 47, 99] [97] [120, 47, 121] = ([120, 47, 121, 47, 98, 47, 99], true) := by decide
theorem aw_cmp : cmpB [97, 47, 98] [97, 45, 98] = -1 := by decide
theorem aw_ups : (upsL [97, 47, 98]).take 9 = [[], [97]] := by decide
theorem awake_walk (w : World) : Calls Try.prog 22 #[] w fun e w' => e = .returned (.bool true) ∧ Below w.heap.size w w' := by
  have c1 : ∀ W, Calls Try.prog 27 #[.string ⟨#[97, 47, 98, 47, 99]⟩, .string ⟨#[97]⟩, .string ⟨#[120, 47, 121]⟩] W fun e w' => e = .returned (.tuple #[.string ⟨#[120, 47, 121, 47, 98, 47, 99]⟩, .bool true]) ∧ Below W.heap.size W w' := fun W =>
    (rebase_walk ⟨#[97, 47, 98, 47, 99]⟩ ⟨#[97]⟩ ⟨#[120, 47, 121]⟩ (by decide) (by decide) (by decide) W).mono (by
      rintro e w' ⟨rfl, h⟩
      refine ⟨?_, h⟩
      rw [show refMove (L ⟨#[97, 47, 98, 47, 99]⟩) (L ⟨#[97]⟩) (L ⟨#[120, 47, 121]⟩) = _ from aw_rebase]; rfl)
  have c2 : ∀ W, Calls Try.prog 33 #[.string ⟨#[97, 47, 98]⟩, .int .i64 9] W fun e w' => ∃ A c, e = .returned (.tuple #[.slice A ([[], [97]] : List Bs).length c, .bool true]) ∧ Slc w' A (([[], [97]] : List Bs).map strV) ∧ Below W.heap.size W w' := fun W =>
    (lups_walk ⟨#[97, 47, 98]⟩ (by decide) 9 (by decide) W).mono (by
      rintro e w' ⟨A, c, rfl, _, hs, hb⟩
      have := aw_ups
      rw [show (upsL (L ⟨#[97, 47, 98]⟩)).take 9 = _ from aw_ups] at hs ⊢
      exact ⟨A, c, rfl, hs, hb⟩)
  have c3 : ∀ W, Calls Try.prog 23 #[.string ⟨#[97, 47, 98]⟩, .string ⟨#[97, 45, 98]⟩] W fun e w' => e = .returned (.int .i64 (-1)) ∧ Below W.heap.size W w' := fun W =>
    (cmp_walk ⟨#[97, 47, 98]⟩ ⟨#[97, 45, 98]⟩ (by decide) (by decide) W).mono (by
      rintro e w' ⟨rfl, n, rfl⟩
      refine ⟨?_, below_draw (Below.refl _ _)⟩
      rw [show cmpB (L ⟨#[97, 47, 98]⟩) (L ⟨#[97, 45, 98]⟩) = _ from aw_cmp])
  have c4 : ∀ A C c W, Slc W A (([[], [97]] : List Bs).map strV) → Slc W C (([[], [97]] : List Bs).map strV) → Calls Try.prog 37 #[.slice A ([[], [97]] : List Bs).length c, .slice C 2 2] W fun e w' => e = .returned (.bool true) ∧ Below W.heap.size W w' := fun A C c W h1 h2 =>
    (same_walk A C c 2 [[], [97]] [[], [97]] W h1 h2 (by decide) (by decide)).mono (by
      rintro e w' ⟨rfl, h⟩
      exact ⟨rfl, h⟩)
  have C1 := Lib.hid c1; have C2 := Lib.hid c2; have C3 := Lib.hid c3; have C4 := Lib.hid c4
  clear c1 c2 c3 c4
  go_enter Try.func22, Try.ntmps22
  go_wp2_with fail
  refine (C1.out _).mono ?_
  rintro e w1 ⟨rfl, hb1⟩
  go_wp2_with fail
  refine (C2.out _).mono ?_
  rintro e w2 ⟨A, c, rfl, hs2, hb2⟩
  have hb := hb1.trans (hb2.mono hb1.size)
  clear hb1 hb2 C1 C2
  go_wp2_with fail
  refine (C3.out _).mono ?_
  rintro e w3 ⟨rfl, hb3⟩
  have hb := hb.trans (hb3.mono hb.size)
  have hs3 := hs2.keep hb3
  clear hb3 hs2 C3
  go_wp2_with fail
  refine (C4.out A _ c _ (hs3.keep ((Below.refl _ _).alloc (Nat.le_refl _) _)) (Slc.new w3 _ 9)).mono ?_
  rintro e w4 ⟨rfl, hb4⟩
  have hb := (hb.alloc hb.size _).trans (hb4.mono (by simp only [World.size_alloc]; have := hb.size; omega))
  clear hb4 hs3 C4
  go_wp2_with fail
  go_ret
  exact ⟨rfl, hb⟩
end Go.Proofs.Ytcapaiiegfedmaa

