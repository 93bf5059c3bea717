/- work.Prepare: the reserved directory is made, and a log in it. (printed by gen_prep.py) -/
import Derived.Test.YtcapaiiegfedmaaWI
namespace Go.Proofs.Ytcapaiiegfedmaa
open Go.RowKit Go.Shelf
def needO (o : Option NodeD) : List OpD := match o with | none => [(1, flitB, [], 0, 0)] | some e => if e.2.1 = 1 then [] else [(6, flitB, [], 0, 0), (1, flitB, [], 0, 0)]
def prepO (es : List NodeD) (log : Bs) (bo ed : Int) : List OpD := needO (findN es flitB) ++ [(2, log, [], 0, 0), noteO log 1 (bo % 2147483648), noteO log 2 ed]
theorem B_flit : B flitB = ⟨#[46, 102, 108, 105, 116]⟩ := rfl
theorem two_new (w : World) (o1 o2 : Obj) : ((w.alloc o1).alloc o2).heap[w.heap.size + 1]? = some o2 := by have := heap_alloc_new (w.alloc o1) o2; rwa [World.size_alloc] at this
theorem slc_new (w : World) (cs : List Value) (e : TypeId) : Slc (w.alloc (.cells cs.toArray e)) (some ⟨w.heap.size, 0, none⟩) cs := by
  refine .inr ⟨w.heap.size, 0, rfl, by simp, fun i v hv => ?_⟩
  have := cells_new (heap_alloc_new w (.cells cs.toArray e)) i v hv
  rwa [addr_plus] at this
theorem made_own {w w' : World} {l : List OpD} {base : Nat} {e : TypeId} {v : Value} {n : Nat} {xs : List Value} (h : w'.ownsRow base e 5 v n xs) (hn : n = l.length) (hx : xs = l.flatMap oV) (hb : Below w.heap.size w w') : MadeO w l (.returned v) w' := by
  obtain ⟨A, c, rfl, hc, hs⟩ := own_form h
  subst hn hx
  exact ⟨A, c, rfl, hc, hs, hb⟩
set_option maxRecDepth 100000 in
set_option maxHeartbeats 4000000 in
theorem prep_walk (A0 : Option Addr) (c0 : Nat) (es : List NodeD) (hn : es.length ≤ 1000) (log : ByteArray) (bo ed : Int) (hb0 : 0 ≤ bo) (hb1 : bo ≤ 18446744073709551615) (w : World) (hx : Slc w A0 (es.flatMap nV)) :
    Calls Try.prog 60 #[.slice A0 es.length c0, .string log, .int .u64 bo, .int .i64 ed] w fun e w' => MadeO w (prepO es (L log) bo ed) e w' := by
  have F1 := Lib.hid (find_walk A0 c0 es ⟨#[46, 102, 108, 105, 116]⟩ w hx hn)
  rw [flit_B] at F1
  have N1 := Lib.hid (fun k n W => note_walk log k n W)
  have HPV := Lib.hid (str_mk log)
  cases hf : findN es flitB with
  | none =>
    rw [hf] at F1
    go_enter Try.func60, Try.ntmps60
    go_wp2_with (first | (go_at_call 103; refine F1.out.mono ?_; rintro e9 w1 ⟨rfl, hbw⟩; simp only [nodeV, nV, Option.getD_none, Option.isSome_none, strV]; obtain ⟨sv, hsv⟩ : ∃ sv, Value.slice none 0 0 = sv := ⟨_, rfl⟩; rw [hsv]; have hown0 : ∀ W : World, W.ownsRow w.heap.size 71 5 sv 0 [] := fun W => hsv ▸ World.ownsRow_nil _ _ _ _; have hbs := hbw.alloc hbw.size (.cells #[.string (B []), .int .i64 0, .int .i64 0, .int .i64 0, .string (B [])] 136)) | (at_builtin; refine wpList_app1 rfl _ _ 74 rfl elem_wop rfl (hown0 _) (cs := [.int .i64 1, .string ⟨#[46, 102, 108, 105, 116]⟩, .string ⟨#[]⟩, .int .i64 0, .int .i64 0]) rfl (by first | exact heap_alloc_new _ _ | exact two_new _ _ _) rfl (by intro u hu; simp at hu; rcases hu with rfl | rfl | rfl | rfl | rfl <;> rfl) (by omega) (by omega) (by have := hbs.size; simp only [World.size_alloc] at this ⊢; omega) ?_; intro g1 cap1 w9 hown1 hgr9 hb9; have hbs := ((hbs.alloc hbs.size _).trans hb9); try clear hb9) | (go_at_call 54; refine (N1.out _ _ _).mono ?_; rintro e9 w2 ⟨rfl, hb2⟩; have hown1 := own_keep hown1 hb2; have hbs := hbs.trans (hb2.mono hbs.size); clear hb2; simp only [oV, noteO, strV]) | (at_builtin; refine wpList_appN rfl _ _ 74 rfl elem_wop rfl (hown1.alloc _) (A := some ⟨_, 0, none⟩) (m := 3) (c := 3) (cs := [.int .i64 2, .string log, .string ⟨#[]⟩, .int .i64 0, .int .i64 0, .int .i64 3, .string (B (L log)), .string (B (lineB 1 (bo % 2147483648))), .int .i64 0, .int .i64 0, .int .i64 3, .string (B (L log)), .string (B (lineB 2 ed)), .int .i64 0, .int .i64 0]) rfl (slc_new _ _ _) rfl (by intro u hu; simp at hu; rcases hu with rfl | rfl | rfl | rfl | rfl | rfl | rfl | rfl | rfl | rfl | rfl | rfl | rfl | rfl | rfl <;> rfl) (by intro h; cases h) (by omega) (by omega) (by have := hbs.size; simp only [World.size_alloc] at this ⊢; omega) ?_; intro v7 w7 hown7 hgr7 hb7))
    go_ret
    refine made_own hown7 (by unfold prepO; rw [hf]; rfl) ?_ ((hbs.alloc hbs.size _).trans hb7)
    unfold prepO
    rw [hf]
    skip
    simp [needO, oV, noteO, strV, B_flit, B_nil0, B_L]
  | some e =>
    rw [hf] at F1
    by_cases hk : e.2.1 = 1
    · have hq : (e.2.1 != 1) = false := by simp [hk]
      have HK := Lib.hid hk
      clear hk
      go_enter Try.func60, Try.ntmps60
      go_wp2_with (first | (go_at_call 103; refine F1.out.mono ?_; rintro e9 w1 ⟨rfl, hbw⟩; simp only [nodeV, nV, Option.getD_some, Option.isSome_some, strV]; obtain ⟨sv, hsv⟩ : ∃ sv, Value.slice none 0 0 = sv := ⟨_, rfl⟩; rw [hsv]; have hown0 : ∀ W : World, W.ownsRow w.heap.size 71 5 sv 0 [] := fun W => hsv ▸ World.ownsRow_nil _ _ _ _; have hbs := hbw.alloc hbw.size (.cells #[.string (B e.1), .int .i64 e.2.1, .int .i64 e.2.2.1, .int .i64 e.2.2.2.1, .string (B e.2.2.2.2)] 136)) | (go_at_call 54; refine (N1.out _ _ _).mono ?_; rintro e9 w2 ⟨rfl, hb2⟩; have hbs := hbs.trans (hb2.mono hbs.size); clear hb2; simp only [oV, noteO, strV]) | (at_builtin; refine wpList_appN rfl _ _ 74 rfl elem_wop rfl (hown0 _) (A := some ⟨_, 0, none⟩) (m := 3) (c := 3) (cs := [.int .i64 2, .string log, .string ⟨#[]⟩, .int .i64 0, .int .i64 0, .int .i64 3, .string (B (L log)), .string (B (lineB 1 (bo % 2147483648))), .int .i64 0, .int .i64 0, .int .i64 3, .string (B (L log)), .string (B (lineB 2 ed)), .int .i64 0, .int .i64 0]) rfl (slc_new _ _ _) rfl (by intro u hu; simp at hu; rcases hu with rfl | rfl | rfl | rfl | rfl | rfl | rfl | rfl | rfl | rfl | rfl | rfl | rfl | rfl | rfl <;> rfl) (by intro h; cases h) (by omega) (by omega) (by have := hbs.size; simp only [World.size_alloc] at this ⊢; omega) ?_; intro v7 w7 hown7 hgr7 hb7))
      go_ret
      refine made_own hown7 (by unfold prepO; rw [hf]; simp [needO, HK.out]) ?_ ((hbs.alloc hbs.size _).trans hb7)
      unfold prepO
      rw [hf]
      skip
      simp [needO, oV, noteO, strV, B_flit, B_nil0, B_L, HK.out]
    · have hq : (e.2.1 != 1) = true := by simpa using hk
      have HK := Lib.hid hk
      clear hk
      go_enter Try.func60, Try.ntmps60
      go_wp2_with (first | (go_at_call 103; refine F1.out.mono ?_; rintro e9 w1 ⟨rfl, hbw⟩; simp only [nodeV, nV, Option.getD_some, Option.isSome_some, strV]; obtain ⟨sv, hsv⟩ : ∃ sv, Value.slice none 0 0 = sv := ⟨_, rfl⟩; rw [hsv]; have hown0 : ∀ W : World, W.ownsRow w.heap.size 71 5 sv 0 [] := fun W => hsv ▸ World.ownsRow_nil _ _ _ _; have hbs := hbw.alloc hbw.size (.cells #[.string (B e.1), .int .i64 e.2.1, .int .i64 e.2.2.1, .int .i64 e.2.2.2.1, .string (B e.2.2.2.2)] 136)) | (at_builtin; refine wpList_app1 rfl _ _ 74 rfl elem_wop rfl (hown0 _) (cs := [.int .i64 6, .string ⟨#[46, 102, 108, 105, 116]⟩, .string ⟨#[]⟩, .int .i64 0, .int .i64 0]) rfl (by first | exact heap_alloc_new _ _ | exact two_new _ _ _) rfl (by intro u hu; simp at hu; rcases hu with rfl | rfl | rfl | rfl | rfl <;> rfl) (by omega) (by omega) (by have := hbs.size; simp only [World.size_alloc] at this ⊢; omega) ?_; intro g1 cap1 w9 hown1 hgr9 hb9; have hbs := ((hbs.alloc hbs.size _).trans hb9); try clear hb9) | (at_builtin; refine wpList_app1 rfl _ _ 74 rfl elem_wop rfl (hown1.alloc _) (cs := [.int .i64 1, .string ⟨#[46, 102, 108, 105, 116]⟩, .string ⟨#[]⟩, .int .i64 0, .int .i64 0]) rfl (by first | exact heap_alloc_new _ _ | exact two_new _ _ _) rfl (by intro u hu; simp at hu; rcases hu with rfl | rfl | rfl | rfl | rfl <;> rfl) (by omega) (by omega) (by have := hbs.size; simp only [World.size_alloc] at this ⊢; omega) ?_; intro g2 cap2 w9 hown2 hgr9 hb9; have hbs := ((hbs.alloc hbs.size _).trans hb9); try clear hb9) | (go_at_call 54; refine (N1.out _ _ _).mono ?_; rintro e9 w2 ⟨rfl, hb2⟩; have hown2 := own_keep hown2 hb2; have hbs := hbs.trans (hb2.mono hbs.size); clear hb2; simp only [oV, noteO, strV]) | (at_builtin; refine wpList_appN rfl _ _ 74 rfl elem_wop rfl (hown2.alloc _) (A := some ⟨_, 0, none⟩) (m := 3) (c := 3) (cs := [.int .i64 2, .string log, .string ⟨#[]⟩, .int .i64 0, .int .i64 0, .int .i64 3, .string (B (L log)), .string (B (lineB 1 (bo % 2147483648))), .int .i64 0, .int .i64 0, .int .i64 3, .string (B (L log)), .string (B (lineB 2 ed)), .int .i64 0, .int .i64 0]) rfl (slc_new _ _ _) rfl (by intro u hu; simp at hu; rcases hu with rfl | rfl | rfl | rfl | rfl | rfl | rfl | rfl | rfl | rfl | rfl | rfl | rfl | rfl | rfl <;> rfl) (by intro h; cases h) (by omega) (by omega) (by have := hbs.size; simp only [World.size_alloc] at this ⊢; omega) ?_; intro v7 w7 hown7 hgr7 hb7))
      go_ret
      refine made_own hown7 (by unfold prepO; rw [hf]; simp [needO, HK.out]) ?_ ((hbs.alloc hbs.size _).trans hb7)
      unfold prepO
      rw [hf]
      skip
      simp [needO, oV, noteO, strV, B_flit, B_nil0, B_L, HK.out]
end Go.Proofs.Ytcapaiiegfedmaa
