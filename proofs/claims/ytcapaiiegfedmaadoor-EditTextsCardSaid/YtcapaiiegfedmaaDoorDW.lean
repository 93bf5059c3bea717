/- edit.Read's closure: the next word. -/
import Derived.Test.YtcapaiiegfedmaaDoorDR
namespace Go.Proofs.YtcapaiiegfedmaaDoor
open Go.RowKit Go.Shelf
theorem one_set {W : World} {b : Nat} {u v : Value} {t : TypeId} (h : W.heap[b]? = some (.cells #[u] t (0, 0))) : (W.setCell ⟨b, 0, none⟩ v).heap[b]? = some (.cells #[v] t (0, 0)) := by simp [World.setCell, Array.getElem?_modify, h]
theorem cell1w {w : World} {b : Nat} {v : Value} {t : TypeId} {z : Nat × Nat} (h : w.heap[b]? = some (.cells #[v] t z)) : w.cell? ⟨b, 0, none⟩ = some v := by simp [World.cell?, h]
theorem free1w {w : World} {b : Nat} {v : Value} {t : TypeId} (h : w.heap[b]? = some (.cells #[v] t (0, 0))) : w.frozen? ⟨b, 0, none⟩ = false := by simp [World.frozen?, h]
def headW (ws : List Bs) : Bs := ws.headD []
/-- what the next word leaves -/
def NextRes (A0 : Option Addr) (h : Bool) (b : Nat) (ws : List Bs) (W : World) (e : Ending) (w' : World) : Prop :=
  (h = true ∧ ws ≠ [] ∧ e = .returned (.string (B (headW ws))) ∧ ∃ A' c', w' = W.setCell ⟨b, 0, none⟩ (.slice A' ws.tail.length c') ∧ Slc W A' (ws.tail.map strV) ∧ ws.tail.length ≤ c' ∧ c' ≤ 100000 ∧ ∃ g, A'.map (·.block) = some g ∧ ∃ o, A0 = some ⟨g, o, none⟩) ∨
  ((h = false ∨ ws = []) ∧ e = .returned (.string ⟨#[]⟩) ∧ w' = W)
set_option maxRecDepth 100000 in
set_option maxHeartbeats 2000000 in
theorem next_walk (h : Bool) (b : Nat) (A : Option Addr) (c : Nat) (ws : List Bs) (W : World) (hX : W.heap[b]? = some (.cells #[.slice A ws.length c] 46 (0, 0))) (hsl : Slc W A (ws.map strV)) (hcap : ws.length ≤ c) (hb : ws.length ≤ 100000) (hc : c ≤ 100000) :
    Calls Tryd.prog 30 #[.bool h, .pointer (some ⟨b, 0, none⟩)] W fun e w' => NextRes A h b ws W e w' := by
  have c0 := cell1w hX
  have f0 := free1w hX
  cases h with
  | false =>
    have HN : Hid (NextRes A false b ws W (.returned (.string ⟨#[]⟩)) W) := .inr ⟨.inl rfl, rfl, rfl⟩
    clear hX hsl
    go_enter Tryd.func30, Tryd.ntmps30
    go_wp2_with fail
    go_ret
    exact HN.out
  | true =>
    cases ws with
    | nil =>
      have HN : Hid (NextRes A true b [] W (.returned (.string ⟨#[]⟩)) W) := .inr ⟨.inr rfl, rfl, rfl⟩
      clear hX hsl
      go_enter Tryd.func30, Tryd.ntmps30
      go_wp2_with fail
      go_ret
      exact HN.out
    | cons x t =>
      have hx : (x :: t)[0]? = some x := rfl
      obtain ⟨g, o, rfl, hlg, q0⟩ := hsl.str hx
      simp only [Nat.add_zero] at q0
      have HT : Hid (∀ A' : Option Addr, (A' = some ⟨g, o, none⟩ ∧ t = []) ∨ A' = some ⟨g, o + 1, none⟩ → Slc W A' (t.map strV)) := by
        intro A' hA
        rcases hA with ⟨rfl, rfl⟩ | rfl
        · exact .inl rfl
        · rcases hsl with h1 | ⟨g', o', e, h1, h2⟩
          · cases h1
          · cases e
            refine .inr ⟨g, o + 1, rfl, h1, fun i v hv => ?_⟩
            have := h2 (i + 1) v (by simpa using hv)
            rwa [show o + 1 + i = o + (i + 1) by omega]
      have hl0 : ((((x :: t).length : Nat) : Int) == 0) = false := by simp; omega
      simp only [List.length_cons] at *
      have hg1 : (1 : Int) ≤ ((t.length + 1 : Nat) : Int) := by omega
      have hg2 : (0 : Int) < ((t.length + 1 : Nat) : Int) := by omega
      have hg3 : ((t.length + 1 : Nat) : Int) ≤ (c : Int) := by omega
      clear hsl hx hX
      have HC := Lib.hid hcap
      clear hcap
      by_cases h1c : c = 1
      · subst h1c
        have HT0 : Hid (t = []) := List.length_eq_zero_iff.1 (by have := HC.out; omega)
        go_enter Tryd.func30, Tryd.ntmps30
        go_wp2_with fail
        go_ret
        exact .inl ⟨rfl, by simp, rfl, some ⟨g, o, none⟩, 0, rfl, HT.out _ (.inl ⟨rfl, HT0.out⟩), by rw [HT0.out]; simp, by simp, g, rfl, o, rfl⟩
      · go_enter Tryd.func30, Tryd.ntmps30
        go_wp2_with fail
        go_ret
        exact .inl ⟨rfl, by simp, rfl, some ⟨g, o + 1, none⟩, c - 1, rfl, HT.out _ (.inr rfl), by have := HC.out; simp; omega, by omega, g, rfl, o, rfl⟩
def popW (h : Bool) (ws : List Bs) : Bs × List Bs := if h && !ws.isEmpty then (headW ws, ws.tail) else ([], ws)
/-- the words that are left, behind their variable -/
def WSt (b : Nat) (ws : List Bs) (W : World) : Prop := ∃ A c, W.heap[b]? = some (.cells #[.slice A ws.length c] 46 (0, 0)) ∧ Slc W A (ws.map strV) ∧ ws.length ≤ c ∧ c ≤ 100000 ∧ ∀ g o, A = some ⟨g, o, none⟩ → g < b
theorem WSt.keep {b : Nat} {ws : List Bs} {W W' : World} (h : WSt b ws W) (hb : Below W.heap.size W W') : WSt b ws W' := by
  obtain ⟨A, c, h1, h2, h3, h4, h5⟩ := h
  exact ⟨A, c, kept_block h1 hb, h2.keep hb, h3, h4, h5⟩
theorem Slc.other {W W' : World} {A : Option Addr} {vs : List Value} (b : Nat) (h : Slc W A vs) (hs : W.heap.size ≤ W'.heap.size) (hk : ∀ k, k ≠ b → W'.heap[k]? = W.heap[k]?) (hA : ∀ g o, A = some ⟨g, o, none⟩ → g ≠ b) : Slc W' A vs := by
  rcases h with h | ⟨g, o, rfl, h1, h2⟩
  · exact .inl h
  · exact .inr ⟨g, o, rfl, by omega, fun i v hv => (World.cell?_of_block (a := ⟨g, o + i, none⟩) (hk g (hA g o rfl))).trans (h2 i v hv)⟩
theorem WSt.other {b b' : Nat} {ws : List Bs} {W W' : World} (h : WSt b ws W) (hs : W.heap.size ≤ W'.heap.size) (hk : ∀ k, k ≠ b' → W'.heap[k]? = W.heap[k]?) (hb : b < b') : WSt b ws W' := by
  obtain ⟨A, c, h1, h2, h3, h4, h5⟩ := h
  exact ⟨A, c, (hk b (by omega)).trans h1, h2.other b' hs hk (fun g o e => by have := h5 g o e; omega), h3, h4, h5⟩
theorem nextW_walk (h : Bool) (b : Nat) (ws : List Bs) (W : World) (hb : ws.length ≤ 100000) (hw : WSt b ws W) :
    Calls Tryd.prog 30 #[.bool h, .pointer (some ⟨b, 0, none⟩)] W fun e w' => e = .returned (.string (B (popW h ws).1)) ∧ WSt b (popW h ws).2 w' ∧ (∀ k, k ≠ b → w'.heap[k]? = W.heap[k]?) ∧ w'.heap.size = W.heap.size ∧ Below b W w' := by
  obtain ⟨A, c, h1, h2, h3, h4, h5⟩ := hw
  refine (next_walk h b A c ws W h1 h2 h3 hb h4).mono fun e w' hr => ?_
  rcases hr with ⟨rfl, hne, rfl, A', c', rfl, hs, hc, hc2, g, hA, o, ho⟩ | ⟨hh, rfl, rfl⟩
  · have hp : popW true ws = (headW ws, ws.tail) := by unfold popW; cases ws with
      | nil => exact absurd rfl hne
      | cons x t => rfl
    have hk : ∀ k, k ≠ b → (W.setCell ⟨b, 0, none⟩ (.slice A' ws.tail.length c')).heap[k]? = W.heap[k]? := fun k hk => Below.heap_setCell _ _ _ _ hk
    have hsz : (W.setCell ⟨b, 0, none⟩ (.slice A' ws.tail.length c')).heap.size = W.heap.size := by simp [World.setCell]
    have hA' : ∀ g' o', A' = some ⟨g', o', none⟩ → g' < b := fun g' o' e => by
      have hg := h5 g o ho
      rw [e] at hA
      simp at hA
      rw [hA]; exact hg
    rw [hp]
    exact ⟨rfl, ⟨A', c', one_set h1, hs.other b (by omega) hk (fun g' o' e => by have := hA' g' o' e; omega), hc, by omega, hA'⟩, hk, hsz, (Below.refl b W).setCell (p := ⟨b, 0, none⟩) (Nat.le_refl _) _⟩
  · have hp : popW h ws = ([], ws) := by
      unfold popW
      rcases hh with rfl | rfl
      · rfl
      · cases h <;> rfl
    rw [hp]
    exact ⟨rfl, ⟨A, c, h1, h2, h3, h4, h5⟩, fun _ _ => rfl, rfl, Below.refl _ _⟩
end Go.Proofs.YtcapaiiegfedmaaDoor
