/- paths.Names, and the law's collectors of what the two iterators tell. -/
import Derived.Test.YtcapaiiegfedmaaDoorUps
namespace Go.Proofs.YtcapaiiegfedmaaDoor
open Go.RowKit Go.Shelf
attribute [local go_sem] Oper.semAt_some
theorem grow9 {W w9 : World} {b0 base : Nat} {t e : TypeId} {size n : Nat} {v : Value} {xs : List Value} {o : Obj} {A : Value} (h3 : Boxed W b0 t A) (h4 : W.ownsRow base e size v n xs) (hg : (W.alloc o).grownBy w9 v.ownBlock) (hb : b0 < base) : Boxed w9 b0 t A :=
  (h3.alloc o).kept hg (fun h => by have := (h4.lt b0 h.symm).1; omega)
theorem Calm.app {Ks : Nat → Prop} {W C D : World} {base : Nat} {e : TypeId} {size n : Nat} {v : Value} {xs : List Value} (h : Calm Ks W C) (ho : C.ownsRow base e size v n xs) (hg : C.grownBy D v.ownBlock) (hk : ∀ j, base ≤ j → ¬ Ks j) : Calm Ks W D := by
  refine h.grown hg (fun j o hj hoj => ?_)
  refine ⟨?_, hk j (ho.lt j hj).1⟩
  rcases ho.2 with ⟨rfl, _⟩ | ⟨g, cap, cur, rfl, _, hgb, _⟩
  · simp [Value.ownBlock] at hj
  · obtain rfl : g = j := by simpa [Value.ownBlock] using hj
    rw [hgb] at hoj; cases hoj; rfl
theorem fn_nil (f : FuncId) (w : World) (a : Option Addr) : (binOp .eql 77 (.func (.func f) #[] #[.pointer a]) .nilFunc).run Tryd.prog w = .ok (.bool false) w := by kernel_rfl
end Go.Proofs.YtcapaiiegfedmaaDoor
