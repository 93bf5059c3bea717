/- Slices as lists of cells: what a slice that is read holds; append of one element onto a slice of the call's own. -/
import Derived.Maps.AppendAt
import Derived.OwnWalkIn
import Derived.OneCell
import Derived.Laws.AppendOwnNone
import Derived.RangeFuncBox
import Derived.Test.YtcapaiiegfedmaaDoorBase
namespace Go.Proofs.YtcapaiiegfedmaaDoor
open Go.RowKit
/-- the cells behind a slice's address -/
def Slc (w : World) (A : Option Addr) (cs : List Value) : Prop :=
  cs = [] ∨ ∃ b o, A = some ⟨b, o, none⟩ ∧ b < w.heap.size ∧ ∀ (i : Nat) v, cs[i]? = some v → w.cell? ⟨b, o + i, none⟩ = some v
theorem Slc.nil (w : World) (A : Option Addr) : Slc w A [] := .inl rfl
theorem Slc.keep {w w' : World} {A : Option Addr} {cs : List Value} (h : Slc w A cs) (hb : Below w.heap.size w w') : Slc w' A cs := by
  rcases h with h | ⟨b, o, rfl, hlt, hc⟩
  · exact .inl h
  · exact .inr ⟨b, o, rfl, Nat.lt_of_lt_of_le hlt hb.size, fun i v hv => (hb.cell (p := ⟨b, o + i, none⟩) hlt).trans (hc i v hv)⟩
theorem Slc.drewN {w : World} {A : Option Addr} {cs : List Value} (h : Slc w A cs) (n : Nat) : Slc (w.drewN n) A cs := h
theorem Slc.of_own {w : World} {base : Nat} {e : TypeId} {size n cap : Nat} {g : Nat} {xs : List Value} (h : w.ownsRow base e size (.slice (some ⟨g, 0, none⟩) n cap) n xs) : Slc w (some ⟨g, 0, none⟩) xs := by
  refine .inr ⟨g, 0, rfl, (h.lt g rfl).2, fun i v hv => ?_⟩
  have hi : i < n * size := by have := (List.getElem?_eq_some_iff.1 hv).1; rw [h.1] at this; exact this
  rw [Nat.zero_add, h.cellAt i hi]; exact hv
theorem own_form {w : World} {base : Nat} {e : TypeId} {size n : Nat} {v : Value} {xs : List Value} (h : w.ownsRow base e size v n xs) : ∃ A cap, v = .slice A n cap ∧ n ≤ cap ∧ Slc w A xs := by
  rcases h.2 with ⟨rfl, rfl⟩ | ⟨g, cap, cur, rfl, r⟩
  · exact ⟨none, 0, rfl, Nat.le_refl _, .inl (List.eq_nil_of_length_eq_zero (by simpa using h.1))⟩
  · exact ⟨_, cap, rfl, r.2.2.1, Slc.of_own h⟩
theorem own_cap {w : World} {base : Nat} {e : TypeId} {size n : Nat} {A : Option Addr} {c : Nat} {xs : List Value} (h : w.ownsRow base e size (.slice A n c) n xs) : n ≤ c := by
  obtain ⟨A', c', he, hc, _⟩ := own_form h
  cases he; exact hc
theorem own_keep {w w' : World} {base : Nat} {e : TypeId} {size n : Nat} {v : Value} {xs : List Value} (h : w.ownsRow base e size v n xs) (hb : Below w.heap.size w w') : w'.ownsRow base e size v n xs := by
  refine h.kept (row := none) ⟨hb.os, hb.tape, hb.output, hb.size, fun k hk _ => hb.block k hk⟩ ?_
  rcases h.2 with ⟨rfl, _⟩ | ⟨g, cap, cur, rfl, _⟩
  · exact .inl rfl
  · exact .inr (by simp [Value.ownBlock])
/-- an element type: its slice type, how many cells, how many bytes -/
structure Elem (P : Program) (t e : TypeId) (size bytes : Nat) : Prop where
  ht : P.underlying t = some (.slice e)
  hi : ∃ i z, P.info? e = some i ∧ i.zero = some z ∧ i.size = size ∧ i.bytes = bytes ∧ z.cells.size = size
  hs : 0 < size
theorem elem_mk {P : Program} {t e : TypeId} {z : Value} {size bytes : Nat} (ht : P.underlying t = some (.slice e)) (h : (P.info? e).map (fun i => (i.zero, i.size, i.bytes)) = some (some z, size, bytes)) (hz : z.cells.size = size) (hs : 0 < size) : Elem P t e size bytes := by
  obtain ⟨i, h1, h2, h3, h4⟩ := info_parts h
  exact ⟨ht, ⟨i, z, h1, h2, h3, h4, hz⟩, hs⟩
theorem own_below {w w' : World} {base : Nat} {e : TypeId} {size n : Nat} {v : Value} {xs : List Value} (h : w.ownsRow base e size v n xs) (hb : base ≤ w.heap.size) (hg : w.grownBy w' v.ownBlock) : Below base w w' :=
  (Below.refl _ _).grown hg hb (fun k e => (h.lt k e).1)
theorem cells_new {w : World} {g : Nat} {cs : List Value} {e : TypeId} {z : Nat × Nat} (hg : w.heap[g]? = some (.cells cs.toArray e z)) (j : Nat) (u : Value) (hu : cs[j]? = some u) : w.cell? ((⟨g, 0, none⟩ : Addr).add j) = some u := by
  have : (⟨g, 0, none⟩ : Addr).add j = ⟨g, j, none⟩ := by unfold Addr.add; split <;> simp_all
  rw [this]
  simp [World.cell?, hg, hu]
theorem wpList_app1 {P : Program} {ops : Array Oper} {rest : List Oper} {o : Oper} {a : Act} {Q : Exit → Act → World → Prop} {w : World}
    (hgd : o.guard = none) (s x : Operand) (t : TypeId) (ho : o.op = .call { callee := .builtin .append, args := #[s, x], argTypes := #[t, t] })
    {base : Nat} {e : TypeId} {size bytes : Nat} (E : Elem P t e size bytes) {v : Value} {n : Nat} {xs : List Value} (hs : a.eval s = v) (hown : w.ownsRow base e size v n xs)
    {g : Nat} {cs : List Value} {z : Nat × Nat} (hx : a.eval x = .slice (some ⟨g, 0, none⟩) 1 1) (hg : w.heap[g]? = some (.cells cs.toArray e z)) (hl : cs.length = size) (h1 : ∀ u ∈ cs, u.oneCell' = true)
    (hn : (n + 1) * bytes ≤ 140737488355328) (hn2 : n < 100000000) (hbase : base ≤ w.heap.size)
    (h : ∀ g' cap w', w'.ownsRow base e size (.slice (some ⟨g', 0, none⟩) (n + 1) cap) (n + 1) (xs ++ cs) → w.grownBy w' v.ownBlock → Below base w w' → wpList P ops Q rest (a.put o.dst (.slice (some ⟨g', 0, none⟩) (n + 1) cap)) w') : wpList P ops Q (o :: rest) a w := by
  obtain ⟨i, z0, hi, hz, hsz, hby, hzs⟩ := E.hi
  refine wpList_append_own w hgd s x t ho base e i z0 size bytes E.ht hi hz hsz hby hzs E.hs v n xs hs hown ⟨g, 0, none⟩ 1 1 cs hx (by omega) (cells_new hg) h1 (by unfold maxLen; omega) hn hbase ?_
  intro v' w' hown' hgr _
  obtain ⟨g', cap', rfl⟩ := ownsRow_succ hown'
  exact h g' cap' w' hown' hgr (own_below hown hbase hgr)
theorem wpListIn_app1 {F : Fence} {m : Nat} {P : Program} {ops : Array Oper} {rest : List Oper} {o : Oper} {a : Act} {Q : Exit → Act → World → Prop} {w : World}
    (hgd : o.guard = none) (s x : Operand) (t : TypeId) (ho : o.op = .call { callee := .builtin .append, args := #[s, x], argTypes := #[t, t] })
    {base : Nat} {e : TypeId} {size bytes : Nat} (E : Elem P t e size bytes) {v : Value} {n : Nat} {xs : List Value} (hs : a.eval s = v) (hown : w.ownsRow base e size v n xs)
    {g : Nat} {cs : List Value} {z : Nat × Nat} (hx : a.eval x = .slice (some ⟨g, 0, none⟩) 1 1) (hg : w.heap[g]? = some (.cells cs.toArray e z)) (hl : cs.length = size) (h1 : ∀ u ∈ cs, u.oneCell' = true)
    (hn : (n + 1) * bytes ≤ 140737488355328) (hn2 : n < 100000000) (hbase : base ≤ w.heap.size)
    (h : ∀ g' cap w', w'.ownsRow base e size (.slice (some ⟨g', 0, none⟩) (n + 1) cap) (n + 1) (xs ++ cs) → w.grownBy w' v.ownBlock → Below base w w' → wpListIn F m P ops Q rest (a.put o.dst (.slice (some ⟨g', 0, none⟩) (n + 1) cap)) w') : wpListIn F m P ops Q (o :: rest) a w := by
  obtain ⟨i, z0, hi, hz, hsz, hby, hzs⟩ := E.hi
  refine wpListIn_append_own w hgd s x t ho base e i z0 size bytes E.ht hi hz hsz hby hzs E.hs v n xs hs hown ⟨g, 0, none⟩ 1 1 cs hx (by omega) (cells_new hg) h1 (by unfold maxLen; omega) hn hbase ?_
  intro v' w' hown' hgr _
  obtain ⟨g', cap', rfl⟩ := ownsRow_succ hown'
  exact h g' cap' w' hown' hgr (own_below hown hbase hgr)
theorem Slc.cut {w : World} {A : Option Addr} {cs : List Value} (h : Slc w A cs) (k cap : Nat) (hc : cs.length ≤ cap) : Slc w (if cap = k then A else A.map (·.add k)) (cs.drop k) := by
  split
  · next e => left; exact List.drop_eq_nil_of_le (by omega)
  · rcases h with rfl | ⟨b, o, rfl, hlt, hcell⟩
    · left; simp
    · right
      refine ⟨b, o + k, ?_, hlt, fun i v hv => ?_⟩
      · simp only [Option.map_some, Addr.add]
        split
        · next e => subst e; rfl
        · rfl
      · rw [List.getElem?_drop] at hv
        have := hcell _ v hv
        rwa [← Nat.add_assoc] at this
theorem Slc.front {w : World} {A : Option Addr} {cs : List Value} (h : Slc w A cs) (k : Nat) : Slc w A (cs.take k) := by
  rcases h with rfl | ⟨b, o, rfl, hlt, hcell⟩
  · left; simp
  · right
    refine ⟨b, o, rfl, hlt, fun i v hv => hcell i v ?_⟩
    rw [List.getElem?_take] at hv
    split at hv
    · exact hv
    · cases hv
theorem wpList_appN {P : Program} {ops : Array Oper} {rest : List Oper} {o : Oper} {a : Act} {Q : Exit → Act → World → Prop} {w : World}
    (hgd : o.guard = none) (s x : Operand) (t : TypeId) (ho : o.op = .call { callee := .builtin .append, args := #[s, x], argTypes := #[t, t] })
    {base : Nat} {e : TypeId} {size bytes : Nat} (E : Elem P t e size bytes) {v : Value} {n : Nat} {xs : List Value} (hs : a.eval s = v) (hown : w.ownsRow base e size v n xs)
    {A : Option Addr} {m c : Nat} {cs : List Value} (hx : a.eval x = .slice A m c) (hcs : Slc w A cs) (hl : cs.length = m * size) (h1 : ∀ u ∈ cs, u.oneCell' = true) (hnil : A = none → c = 0)
    (hn : (n + m) * bytes ≤ 140737488355328) (hn2 : n + m < 100000000) (hbase : base ≤ w.heap.size)
    (h : ∀ v' w', w'.ownsRow base e size v' (n + m) (xs ++ cs) → w.grownBy w' v.ownBlock → Below base w w' → wpList P ops Q rest (a.put o.dst v') w') : wpList P ops Q (o :: rest) a w := by
  obtain ⟨i, z0, hi, hz, hsz, hby, hzs⟩ := E.hi
  rcases A with _ | ad
  · have hc0 : c = 0 := hnil rfl
    subst hc0
    have hcn : cs = [] := by
      rcases hcs with h | ⟨b, o, he, _⟩
      · exact h
      · cases he
    subst hcn
    have hm : m = 0 := by
      have h1 := E.hs
      have h2 : m * size = 0 := hl.symm
      rcases Nat.mul_eq_zero.1 h2 with h | h
      · exact h
      · omega
    subst hm
    refine wpList_append_own_none hgd s x t ho base e i size E.ht hi v n xs hs hown hx ?_
    have := h v w (by simpa using hown) (World.grownBy.refl w _) (Below.refl _ _)
    exact this
  · refine wpList_append_own w hgd s x t ho base e i z0 size bytes E.ht hi hz hsz hby hzs E.hs v n xs hs hown ad m c cs hx hl ?_ h1 (by unfold maxLen; omega) hn hbase ?_
    · rcases hcs with rfl | ⟨b, o, he, _, hcell⟩
      · intro j u hu; simp at hu
      · intro j u hu
        injection he with he
        subst he
        have : (⟨b, o, none⟩ : Addr).add j = ⟨b, o + j, none⟩ := by unfold Addr.add; split <;> simp_all
        rw [this]; exact hcell j u hu
    · intro v' w' hown' hgr _
      exact h v' w' hown' hgr (own_below hown hbase hgr)
/-- texts as cells -/
def strV (x : Bs) : Value := .string (B x)
theorem str_one (l : List Bs) : ∀ u ∈ l.map strV, u.oneCell' = true := by
  intro u hu
  obtain ⟨x, _, rfl⟩ := List.mem_map.1 hu
  rfl
theorem elem_str : Elem Tryd.prog 46 9 1 16 := elem_mk Tryd.underlying46 (z := .string ⟨#[]⟩) (by kernel_rfl) rfl (by omega)
end Go.Proofs.YtcapaiiegfedmaaDoor
