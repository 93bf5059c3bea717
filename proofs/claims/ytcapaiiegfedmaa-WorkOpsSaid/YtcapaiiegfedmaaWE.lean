/- work.Lay: a file's operations, collected from the iterator over its pieces. -/
import Derived.Test.YtcapaiiegfedmaaWC
import Derived.Test.YtcapaiiegfedmaaWD
import Derived.Test.YtcapaiiegfedmaaCol
namespace Go.Proofs.Ytcapaiiegfedmaa
open Go.RowKit Go.Shelf
attribute [local go_sem] Oper.semAt_some
theorem wpListIn_app1_at {F : Fence} {m : Nat} {P : Program} {ops : Array Oper} {rest : List Oper} {o : Oper} {a : Act} {Q : Exit → Act → World → Prop} {w : World}
    (hgd : o.guard = none) (s x : Operand) (t : TypeId) (ho : o.op = .call { callee := .builtin .append, args := #[s, x], argTypes := #[t, t] })
    {base : Nat} {e : TypeId} {size bytes : Nat} (E : Elem P t e size bytes) {v : Value} {n : Nat} {xs : List Value} (hs : a.eval s = v) (hown : w.ownsRow base e size v n xs)
    {g : Nat} {cs : List Value} {z : Nat × Nat} (hx : a.eval x = .slice (some ⟨g, 0, none⟩) 1 1) (hg : w.heap[g]? = some (.cells cs.toArray e z)) (hl : cs.length = size) (h1 : ∀ u ∈ cs, u.oneCell' = true)
    (hn : (n + 1) * bytes ≤ 140737488355328) (hn2 : n < 100000000) (hbase : base ≤ w.heap.size)
    (h : ∀ g' cap w', w'.ownsRow base e size (.slice (some ⟨g', 0, none⟩) (n + 1) cap) (n + 1) (xs ++ cs) → w.grownBy w' v.ownBlock → Below base w w' → (some g' = v.ownBlock ∨ g' = w.heap.size) → wpListIn F m P ops Q rest (a.put o.dst (.slice (some ⟨g', 0, none⟩) (n + 1) cap)) w') : wpListIn F m P ops Q (o :: rest) a w := by
  obtain ⟨i, z0, hi, hz, hsz, hby, hzs⟩ := E.hi
  refine wpListIn_plain hgd fun K hK' => ?_
  obtain ⟨v', w', hrun, hown', hgr, _, hat⟩ := run_append_own_at (P := P) w base t o.type e i z0 size bytes E.ht hi hz hsz hby hzs E.hs v n xs hown ⟨g, 0, none⟩ 1 1 cs (by omega) (cells_new hg) h1 (by unfold maxLen; omega) hn hbase
  obtain ⟨g', cap', rfl⟩ := ownsRow_succ hown'
  unfold Oper.wpIn
  refine ⟨?_, ?_⟩
  · simp [Oper.about, ho, resolve, Target.leads, Sem.run_pure]
  · rw [Oper.semAt_plain F _ _ (by rw [ho]; intro c hc'; cases hc')]
    simp [execOp, ho, resolve, invoke, builtin, hs, hx, hrun, Result.andThen]
    refine hK' _ _ (h g' cap' w' hown' hgr (own_below hown hbase hgr) ?_)
    rcases hat with h | h
    · exact .inl h
    · right; simpa [Value.ownBlock] using h
theorem TurnS.owns2 {base : Nat} {Rs : Nat → Prop} {W W' : World} (h : TurnS base Rs W W') {b : Nat} {e : TypeId} {size : Nat} {v : Value} {n : Nat} {xs : List Value} (ho : W.ownsRow b e size v n xs) (hr : ∀ r, Rs r → v.ownBlock ≠ some r) :
    W'.ownsRow b e size v n xs := by
  obtain ⟨h1, h2⟩ := ho
  refine ⟨h1, ?_⟩
  rcases h2 with h2 | ⟨g, cap, cur, hv, hg, hh, r⟩
  · exact .inl h2
  · exact .inr ⟨g, cap, cur, hv, hg, h.cells g _ hh rfl (fun e => hr g e (by rw [hv]; rfl)), r⟩
theorem elem_wop : Elem Try.prog 74 71 5 56 := elem_mk (z := .agg #[.int .i64 0, .string ⟨#[]⟩, .string ⟨#[]⟩, .int .i64 0, .int .i64 0]) Try.underlying74 (by kernel_rfl) rfl (by omega)
theorem chunksN_len (n m : Nat) (d : Bs) : (chunksN n m d).length ≤ n := by
  induction n generalizing d with
  | zero => exact Nat.le_refl _
  | succ n ih =>
    unfold chunksN
    split
    · simp
    · have := ih (d.drop m); simp; exact this
theorem chunks_len (m : Nat) (d : Bs) : (chunks m d).length ≤ d.length := chunksN_len _ _ _
theorem grow8g {W w9 : World} {b0 g n c : Nat} {t : TypeId} {o : Obj} {A : Value} (h3 : Boxed W b0 t A) (hg : (W.alloc o).grownBy w9 (Value.ownBlock (.slice (some ⟨g, 0, none⟩) n c))) (hb : g ≠ b0) : Boxed w9 b0 t A :=
  (h3.alloc o).kept hg (fun h => hb (Option.some.inj h).symm)
theorem grow8 {W w9 : World} {b0 base : Nat} {t e : TypeId} {size n : Nat} {v : Value} {xs : List Value} {o : Obj} {A : Value} (h3 : Boxed W b0 t A) (hg : (W.alloc o).grownBy w9 v.ownBlock) (hb : v.ownBlock ≠ some b0) : Boxed w9 b0 t A :=
  (h3.alloc o).kept hg (fun h => hb h.symm)
theorem Calm.app2 {Ks : Nat → Prop} {W C D : World} {base : Nat} {e : TypeId} {size n : Nat} {v : Value} {xs : List Value} (h : Calm Ks W C) (ho : C.ownsRow base e size v n xs) (hg : C.grownBy D v.ownBlock) (hk : ∀ j, v.ownBlock = some j → ¬ Ks j) : Calm Ks W D := by
  refine h.grown hg (fun j o hj hoj => ?_)
  refine ⟨?_, hk j hj⟩
  rcases ho.2 with ⟨rfl, _⟩ | ⟨g, cap, cur, rfl, _, hgb, _⟩
  · simp [Value.ownBlock] at hj
  · obtain rfl : g = j := by simpa [Value.ownBlock] using hj
    rw [hgb] at hoj; cases hoj; rfl
theorem lay_len (p : Bs) (l : List Bs) : ([((2 : Int), p, ([] : Bs), (0 : Int), (0 : Int))] ++ appL p l).length = 1 + l.length := by unfold appL; simp; omega
set_option maxRecDepth 100000 in
set_option maxHeartbeats 4000000 in
theorem lay_walk (p d : ByteArray) (m : Int) (hp : p.size ≤ 100000) (hd : d.size ≤ 100000) (hm1 : m ≤ 9223372036854775807) (w : World) :
    Calls Try.prog 58 #[.string p, .string d, .int .i64 m] w fun e w' =>
      ∃ A c, e = .returned (.slice A (layL (L p) (L d) (pieceM m)).length c) ∧ (layL (L p) (L d) (pieceM m)).length ≤ c ∧ Slc w' A ((layL (L p) (L d) (pieceM m)).flatMap oV) ∧ Below w.heap.size w w' := by
  refine (callsIn_wide (n := 0)).1 ?_
  refine callsIn_of_wp_marks Try.func58 rfl trivial ?_ rfl
  simp only [Try.ntmps58, List.size_toArray, List.length_cons, List.length_nil, Nat.reduceAdd, Nat.reduceSub, Array.replicate_succ, Array.replicate_zero, List.push_toArray, List.append_toArray, List.nil_append, List.cons_append]
  gi_wp2_with (refine ⟨trivial, rfl, ?_⟩; gi_at_call 102; refine (callsIn_wide.2 (pieces_walk d m _)).mono ?_; rintro e w1 ⟨rfl, rfl⟩)
  obtain ⟨W0, hW0⟩ : ∃ W0, (((((w.alloc (Obj.cells #[Value.string p] 9)).alloc (Obj.cells #[Value.int IntKind.i64 2, Value.string p, Value.string { data := #[] }, Value.int IntKind.i64 0, Value.int IntKind.i64 0] 71)).alloc (Obj.cells #[Value.slice (some { block := w.heap.size + 1, off := 0 }) 1 1] 74)).alloc (Obj.cells #[Value.string d] 9)).alloc (Obj.cells #[Value.int IntKind.i64 m] 3)) = W0 := ⟨_, rfl⟩
  rw [hW0]
  have hsz : W0.heap.size = w.heap.size + 5 := by rw [← hW0]; simp
  have hBP : Boxed W0 w.heap.size 9 (.string p) := by
    rw [← hW0]; exact ((((Boxed.new w 9 (.string p)).alloc _).alloc _).alloc _).alloc _
  have hX := World.alloc_heap_new (w.alloc (Obj.cells #[Value.string p] 9)) (.cells #[.int .i64 2, .string p, .string ⟨#[]⟩, .int .i64 0, .int .i64 0] 71)
  rw [World.size_alloc] at hX
  have hROW := own_first (o := (2, L p, [], 0, 0)) (base := w.heap.size + 1) hX (Nat.le_refl _)
  have hROW2 : W0.ownsRow (w.heap.size + 1) 71 5 (.slice (some ⟨w.heap.size + 1, 0, none⟩) 1 1) 1 (([((2 : Int), L p, ([] : Bs), (0 : Int), (0 : Int))] ++ appL (L p) []).flatMap oV) := by
    rw [← hW0]; exact ((hROW.alloc _).alloc _).alloc _
  clear hX hROW
  have hBO : Boxed W0 (w.heap.size + 2) 74 (.slice (some ⟨w.heap.size + 1, 0, none⟩) 1 1) := by
    have := Boxed.new ((w.alloc (Obj.cells #[Value.string p] 9)).alloc (Obj.cells #[Value.int IntKind.i64 2, Value.string p, Value.string { data := #[] }, Value.int IntKind.i64 0, Value.int IntKind.i64 0] 71)) 74 (.slice (some ⟨w.heap.size + 1, 0, none⟩) 1 1)
    rw [World.size_alloc, World.size_alloc] at this
    rw [← hW0]; exact (this.alloc _).alloc _
  have hBD : W0.heap[w.heap.size + 3]? = some (.cells #[.string d] 9 (0, 0)) := by
    have := World.alloc_heap_new (((w.alloc (Obj.cells #[Value.string p] 9)).alloc (Obj.cells #[Value.int IntKind.i64 2, Value.string p, Value.string { data := #[] }, Value.int IntKind.i64 0, Value.int IntKind.i64 0] 71)).alloc (Obj.cells #[Value.slice (some { block := w.heap.size + 1, off := 0 }) 1 1] 74)) (.cells #[.string d] 9)
    rw [World.size_alloc, World.size_alloc, World.size_alloc] at this
    rw [← hW0]; exact Boxed.alloc this _
  have hBM : W0.heap[w.heap.size + 4]? = some (.cells #[.int .i64 m] 3 (0, 0)) := by
    have := World.alloc_heap_new ((((w.alloc (Obj.cells #[Value.string p] 9)).alloc (Obj.cells #[Value.int IntKind.i64 2, Value.string p, Value.string { data := #[] }, Value.int IntKind.i64 0, Value.int IntKind.i64 0] 71)).alloc (Obj.cells #[Value.slice (some { block := w.heap.size + 1, off := 0 }) 1 1] 74)).alloc (.cells #[.string d] 9)) (.cells #[.int .i64 m] 3)
    rw [World.size_alloc, World.size_alloc, World.size_alloc, World.size_alloc] at this
    rw [← hW0]; exact this
  have hBW : Below w.heap.size w W0 := by
    rw [← hW0]
    exact (((((Below.refl _ w).alloc (Nat.le_refl _) _).alloc (by simp) _).alloc (by simp; omega) _).alloc (by simp; omega) _).alloc (by simp; omega) _
  clear hW0
  have hCL := Lib.hid (chunks_len (pieceM m) (L d))
  have hHSEQ := Lib.hid (fun W (hk : ∀ k, k < W0.heap.size → W.heap[k]? = W0.heap[k]?) => pieces_iter d hd m hm1 (w.heap.size + 4) (w.heap.size + 3) (by omega) W ((hk _ (by omega)).trans hBM) ((hk _ (by omega)).trans hBD))
  have hCS : Hid (∀ i, i ≤ (chunks (pieceM m) (L d)).length → i < 100002) := by intro i hi; have := hCL.out; rw [L_len] at this; omega
  generalize hs : w.heap.size = s at *
  refine wp_rangeS (gf := 128) (lb := #[.pointer (some ⟨s + 1 + 1 + 1 + 1, 0, none⟩), .pointer (some ⟨s + 1 + 1 + 1, 0, none⟩)]) rfl (enters_of Try.func128 (by kernel_rfl) rfl) (xs := chunks (pieceM m) (L d))
    (Rs := fun k => k = s + 4 ∨ k = s + 3) (Ks := fun k => k = s + 4 ∨ k = s + 3) (by rintro r (rfl | rfl) <;> omega)
    (fun W _ hk => hHSEQ.out W hk) (fun x => rfl)
    (fun i W => Boxed W s 9 (.string p) ∧ (∃ g c, (g = s + 1 ∨ s + 5 ≤ g) ∧ Boxed W (s + 2) 74 (.slice (some ⟨g, 0, none⟩) (1 + i) c) ∧ W.ownsRow (s + 1) 71 5 (.slice (some ⟨g, 0, none⟩) (1 + i) c) (1 + i) (([((2 : Int), L p, ([] : Bs), (0 : Int), (0 : Int))] ++ appL (L p) ((chunks (pieceM m) (L d)).take i)).flatMap oV)) ∧ Below s w W ∧ s + 5 ≤ W.heap.size)
    (fun _ _ _ => False)
    ?hI ?hIx ⟨hBP, ⟨_, _, .inl rfl, hBO, hROW2⟩, hBW, by omega⟩
    (fun x => { tmps := #[.string p, .string d, .int .i64 m, .pointer (some ⟨s, 0, none⟩), undef, undef, .slice none 0 0, .pointer (some ⟨s + 1 + 1, 0, none⟩), .string (B x), .string p, .agg #[.int .i64 2, .string p, .string ⟨#[]⟩, .int .i64 0, .int .i64 0], .slice (some ⟨s + 1, 0, none⟩) 1 1, .string d, .int .i64 m, .func (.func 128) #[] #[.pointer (some ⟨s + 1 + 1 + 1 + 1, 0, none⟩), .pointer (some ⟨s + 1 + 1 + 1, 0, none⟩)], .string (B x), undef, undef, undef, undef, undef, undef, undef], defers := [] })
    ?assign ?body ?done ?stop
  case hI =>
    rintro i A C ⟨h1, ⟨g, c1, hg, h3, h4⟩, h5, h6⟩ ht
    exact ⟨ht.boxed h1 (by omega), ⟨g, c1, hg, ht.boxed h3 (by omega), ht.owns2 h4 (by rintro r hr e; simp [Value.ownBlock] at e; omega)⟩, ht.below h5 (by omega) (by rintro r (rfl | rfl) <;> omega), Nat.le_trans h6 ht.size⟩
  case hIx =>
    rintro c i A C h ht
    exact h
  case assign =>
    intro l x W K hK
    gi_wp2
    exact hK
  case body =>
    rintro l i x W hx ⟨h1, ⟨g, c1, hg, h3, h4⟩, h5, h6⟩
    have hil := (List.getElem?_eq_some_iff.1 hx).1
    have hi5 := hCS.out i (by omega)
    have hc1 := Boxed.cell h1
    have hc3 := Boxed.cell h3
    have hf3 := Boxed.frozen h3
    have HX := Lib.hid hx
    clear hx
    gi_wp2_with (gi_at_builtin; refine wpListIn_app1_at rfl _ _ 74 rfl elem_wop rfl (h4.alloc _) (cs := [.int .i64 3, .string p, .string (B x), .int .i64 0, .int .i64 0]) rfl (heap_alloc_new _ _) rfl (by intro u hu; simp at hu; rcases hu with rfl | rfl | rfl | rfl | rfl <;> rfl) (by omega) (by omega) (by simp only [World.size_alloc]; omega) ?_; intro g' cap' w9 hown1 hgr1 hb9 hat; have hb10 := grow8g h3 hgr1 (by omega); have hc9 := Boxed.cell hb10; have hf9 := Boxed.frozen hb10)
    have hs9 := hb9.size
    simp only [World.size_alloc] at hs9 hat
    have hg' : g' = s + 1 ∨ s + 5 ≤ g' := by
      rcases hat with h | h
      · have h : g' = g := Option.some.inj h
        omega
      · omega
    refine ⟨(((Calm.refl _ W).alloc _).app2 (h4.alloc _) hgr1 (by intro j hj; have hj : g = j := Option.some.inj hj; omega)).setCell _ (by show ¬ (s + 2 = s + 4 ∨ s + 2 = s + 3); omega), ?_, ⟨g', cap', hg', Boxed.set _ hb10, ?_⟩, ?_, ?_⟩
    · exact (grow8g h1 hgr1 (by omega)).other (by show s ≠ s + 2; omega) _
    · rw [take_one_more _ _ _ HX.out, appL_snoc, ← List.append_assoc, opsV_app]
      exact ownsRow_setCell_other hown1 (by show some g' ≠ some (s + 2); intro e; have := Option.some.inj e; omega) _
    · exact ((h5.alloc (by omega) _).trans (hb9.mono (by omega))).setCell (by show s ≤ s + 2; omega) _
    · simp only [World.setCell, Array.size_modify]; omega
  case done =>
    rintro D W hD ⟨h1, ⟨g, c1, hg, h3, h4⟩, h5, h6⟩ hK
    have hc3 := Boxed.cell h3
    rw [List.take_length] at h4
    have h4 := ownsRow_putObj h4 (.deferred none) hK rfl
    have h5 := below_mark (D := D) h5 (by omega) (by omega)
    obtain ⟨A2, c2, he, hcap, hsl⟩ := own_form h4
    cases he
    clear h4 h3 h1
    gi_wp2
    refine end_markM rfl hK (results_tmp rfl _ _ _) ?_
    rw [layL_eq, lay_len, hs]
    exact ⟨_, c1, rfl, hcap, hsl, h5⟩
  case stop =>
    rintro D c i W hD _ hil h hK
    exact h.elim
end Go.Proofs.Ytcapaiiegfedmaa
