/- rule.ends: the iterator over a path's ends. · rule's form.hits: does the core match the path, or one of its ends? -/
import Derived.Test.YtcapaiiegfedmaaRt19
namespace Go.Proofs.Ytcapaiiegfedmaa
open Go.RowKit Go.Shelf
attribute [local go_sem] Oper.semAt_some
theorem ends_walk (p : ByteArray) (w : World) : Calls Try.prog 139 #[.string p] w fun e w' => e = .returned (.func (.func 153) #[] #[.pointer (some ⟨w.heap.size, 0, none⟩)]) ∧ w' = w.alloc (.cells #[.string p] 9) := by
  go_enter Try.func139, Try.ntmps139
  go_wp2
  go_ret
  exact ⟨rfl, rfl⟩
def oneV : Value → Nat
  | .bool true => 1
  | _ => 0
theorem grown_draw (W : World) (b n : Nat) (v : Value) : W.grownBy ((W.drewN n).setCell ⟨b, 0, none⟩ v) (some b) := grown_below (below_draw (Below.refl _ _)) (grownBy_setCell' _ b v)
theorem ends_len (p : Bs) : (endsS p).length = (split1 p).length := by unfold endsS; simp
set_option maxRecDepth 100000 in
set_option maxHeartbeats 4000000 in
theorem ends_iter (p : ByteArray) (hp : p.size ≤ 100000) (b : Nat) (W : World) (hb : W.heap[b]? = some (.cells #[.string p] 9 (0, 0))) :
    Iter Try.prog 153 #[.pointer (some ⟨b, 0, none⟩)] (fun s : Bs => #[.string (B s)]) (endsS (L p)) (some b) (fun k => k = b) W := by
  intro l J Jx hJ hJx hY h0
  refine callsIn_of_wp Try.func153 rfl trivial ?_ rfl
  simp only [Try.ntmps153, List.size_toArray, List.length_cons, List.length_nil, Nat.reduceAdd, Nat.reduceSub, Array.replicate_succ, Array.replicate_zero, List.push_toArray, List.append_toArray, List.nil_append, List.cons_append]
  have HJ := Lib.hid hJ
  have HJX := Lib.hid hJx
  clear hJ hJx
  gi_wp2_with fail
  gi_loopw [3] (fun v wr => ∃ (k : Nat) (rest : ByteArray) (ok : Bool), v = .bool ok ∧ wr.heap[b]? = some (.cells #[.string rest] 9 (0, 0)) ∧ Hid ((endsS (L p)).drop k = if ok then endsS (L rest) else []) ∧ k ≤ (endsS (L p)).length ∧ rest.size ≤ 100000 ∧ J k wr) (fun v wr => boxS b wr + oneV v)
  case atStart => exact ⟨0, p, true, rfl, hb, rfl, Nat.zero_le _, hp, h0⟩
  case round =>
    obtain ⟨k, rest, ok, rfl, hbr, HD, hkl, hrs, hJk⟩ := hrel
    have hcr := cell_of_one hbr
    have hfr := free_of_one hbr
    cases ok with
    | false =>
      have HL : Hid ((endsS (L p)).length = k) := by
        show _ = _
        have h1 := congrArg List.length HD.out
        rw [List.length_drop] at h1
        simp at h1; omega
      gi_wp2_with fail
      refine bodyPost_end (results_none rfl _ _ _) rfl ?_
      exact ⟨⟨_, rfl⟩, .inl (by rw [HL.out]; exact hJk)⟩
    | true =>
      have C1 := Lib.hid (fun X => cut1_walk rest hrs 47 X)
      rcases idx_at 47 (L rest) with ⟨_, hno⟩ | ⟨a, t, hat, hno, _⟩
      · have he := ends_no (L rest) hno
        have hget : (endsS (L p))[k]? = some (L rest) := by
          have := congrArg (fun z => z[0]?) HD.out
          simpa [he] using this
        have hnext : (endsS (L p)).drop (k + 1) = [] := by
          have := congrArg (fun z => z.drop 1) HD.out
          simpa [he] using this
        have hkl' : k < (endsS (L p)).length := (List.getElem?_eq_some_iff.1 hget).1
        rw [(before_no 47 (L rest) hno).1, (before_no 47 (L rest) hno).2, B_L, show decide (47 ∈ L rest) = false by simpa using hno] at C1
        obtain ⟨fn, tmps, assign, body, hy, hR⟩ := hY k (L rest) wr hget hJk
        rw [B_L] at hy
        have HN := Lib.hid hnext
        clear he hno hget hnext hY
        gi_wp2_with (refine ⟨trivial, rfl, ?_⟩; gi_at_call 118; refine (callsIn_wide.2 (C1.out _)).mono ?_; rintro e w1 ⟨rfl, nd, rfl⟩)
        refine ⟨rfl, ?_⟩
        refine hR.mono ?_
        clear hR hy
        rintro e W3 (⟨rfl, hJ3, hk3⟩ | ⟨rfl, hJx3⟩)
        · have hb3 := hk3.same b _ hbr (.inr rfl)
          have hc3 := cell_of_one hb3
          have hf3 := free_of_one hb3
          gi_wp2_with (refine ⟨trivial, rfl, ?_⟩; gi_at_call 118; refine (callsIn_wide.2 (C1.out _)).mono ?_; rintro e w1 ⟨rfl, nd, rfl⟩)
          go_roundw
          case rel => exact ⟨k + 1, B [], false, rfl, one_setCell hb3, by show _ = _; rw [HN.out]; rfl, by omega, by simp, HJ.out _ _ _ hJ3 (grown_draw W3 b nd _)⟩
          case measure =>
            have hb5 : (W3.drewN nd).heap[b]? = _ := hb3
            rw [boxS_of (one_setCell hb5), boxS_of hbr]
            simp [oneV]
        · gi_wp2
          refine bodyPost_ret (results_none rfl _ _ _) rfl ?_
          exact ⟨⟨_, rfl⟩, .inr ⟨k + 1, by omega, by omega, hJx3⟩⟩
      · have he := ends_slash a t hno
        have hba := before_app 47 a t hno
        have hal : a.length + 1 + t.length = rest.size := by rw [← L_len, hat]; simp; omega
        rw [← hat] at he
        have hget : (endsS (L p))[k]? = some (L rest) := by
          have := congrArg (fun z => z[0]?) HD.out
          simpa [he] using this
        have hnext : (endsS (L p)).drop (k + 1) = endsS t := by
          have := congrArg (fun z => z.drop 1) HD.out
          simpa [he] using this
        have hkl' : k < (endsS (L p)).length := (List.getElem?_eq_some_iff.1 hget).1
        rw [show before 47 (L rest) = a by rw [hat]; exact hba.1, show after 47 (L rest) = t by rw [hat]; exact hba.2, show decide (47 ∈ L rest) = true by rw [hat]; simp] at C1
        obtain ⟨fn, tmps, assign, body, hy, hR⟩ := hY k (L rest) wr hget hJk
        rw [B_L] at hy
        have HN := Lib.hid hnext
        clear he hno hget hnext hY hat hba
        gi_wp2_with (refine ⟨trivial, rfl, ?_⟩; gi_at_call 118; refine (callsIn_wide.2 (C1.out _)).mono ?_; rintro e w1 ⟨rfl, nd, rfl⟩)
        refine ⟨rfl, ?_⟩
        refine hR.mono ?_
        clear hR hy
        rintro e W3 (⟨rfl, hJ3, hk3⟩ | ⟨rfl, hJx3⟩)
        · have hb3 := hk3.same b _ hbr (.inr rfl)
          have hc3 := cell_of_one hb3
          have hf3 := free_of_one hb3
          gi_wp2_with (refine ⟨trivial, rfl, ?_⟩; gi_at_call 118; refine (callsIn_wide.2 (C1.out _)).mono ?_; rintro e w1 ⟨rfl, nd, rfl⟩)
          go_roundw
          case rel => exact ⟨k + 1, B t, true, rfl, one_setCell hb3, by show _ = _; rw [HN.out, L_B]; rfl, by omega, by rw [B_size]; omega, HJ.out _ _ _ hJ3 (grown_draw W3 b nd _)⟩
          case measure =>
            have hb5 : (W3.drewN nd).heap[b]? = _ := hb3
            rw [boxS_of (one_setCell hb5), boxS_of hbr, B_size]
            simp [oneV]; omega
        · gi_wp2
          refine bodyPost_ret (results_none rfl _ _ _) rfl ?_
          exact ⟨⟨_, rfl⟩, .inr ⟨k + 1, by omega, by omega, hJx3⟩⟩
end Go.Proofs.Ytcapaiiegfedmaa
namespace Go.Proofs.Ytcapaiiegfedmaa
open Go.RowKit Go.Shelf
attribute [local go_sem] Oper.semAt_some
theorem glue_drop_len (l : List Bs) (i : Nat) : (glue (l.drop i)).length ≤ (glue l).length := by
  induction l generalizing i with
  | nil => simp
  | cons a t ih =>
    cases i with
    | zero => simp
    | succ i =>
      rw [List.drop_succ_cons]
      refine Nat.le_trans (ih i) ?_
      cases t with
      | nil => simp [glue]
      | cons b t => rw [glue_cons a _ (by simp)]; simp; omega
theorem ends_small (p x : Bs) (h : x ∈ endsS p) : x.length ≤ p.length := by
  unfold endsS at h
  rw [List.mem_map] at h
  obtain ⟨i, _, rfl⟩ := h
  have := glue_drop_len (split1 p) i
  rwa [glue_split1] at this
theorem hits_end {W : World} {b : Nat} {v : Bool} {R : Ending → World → Prop} (tmps : Array Value) (h4 : tmps.getD 4 undef = .pointer (some ⟨b, 0, none⟩)) (hX : W.heap[b]? = some (.cells #[.bool v] 4 (0, 0))) (hR : R (.returned (.bool v)) W) :
    bodyPost Try.prog Try.f115 R .ret { tmps := tmps, defers := [] } W := by
  refine bodyPost_ret (v := .bool v) ?_ rfl hR
  have z := cell1 hX
  simp only [Array.getD_eq_getD_getElem?] at h4
  simp [results, Try.results115, h4, go_sem, z]
theorem any_take_next {α : Type} (l : List α) (i : Nat) (x : α) (f : α → Bool) (hx : l[i]? = some x) (h : (l.take i).any f = false) (hn : f x = false) : (l.take (i + 1)).any f = false := by
  rw [take_one_more l i x hx, List.any_append, h]
  simp [hn]
set_option maxRecDepth 100000 in
set_option maxHeartbeats 4000000 in
theorem hits_walk (co : Bs) (wh di : Bool) (A : Option Addr) (c : Nat) (l : List Part) (p : ByteArray) (hp : p.size ≤ 100000) (hn : l.length ≤ 1000) (w : World) (hs : Slc w A (partsV l)) :
    Calls Try.prog 115 #[.agg #[.string (B co), .bool wh, .bool di, .slice A l.length c], .string p] w fun e w' => e = .returned (.bool (hitB wh l (L p))) ∧ Below w.heap.size w w' := by
  have M1 := Lib.hid (fun (s : ByteArray) (h : s.size ≤ 100000) W (hW : Slc W A (partsV l)) => match_walk A c l s W hW hn h)
  have HS := Lib.hid hs
  have hb2 := ((Below.refl w.heap.size w).alloc (Nat.le_refl _) (.cells #[.string (B co), .bool wh, .bool di, .slice A l.length c] 156)).alloc (by simp) (.cells #[.bool false] 4)
  have hX1 := new2 w (.cells #[.string (B co), .bool wh, .bool di, .slice A l.length c] 156) (.cells #[.bool false] 4)
  have hX0 := kept_o (World.alloc_heap_new w (.cells #[.string (B co), .bool wh, .bool di, .slice A l.length c] 156)) (.cells #[.bool false] 4)
  cases wh with
  | true =>
    have HM := Lib.hid (M1.out p hp _ (hs.keep hb2))
    clear hs hX0
    go_enter Try.func115, Try.ntmps115
    go_wp2_with (go_at_call 87; refine HM.out.mono ?_; rintro e w9 ⟨rfl, hb9⟩; have hY := (hb9.block _ (lt_o hX1)).trans hX1; have c1 := cell1 hY; have f1 := free1 hY)
    exact hits_end _ rfl (one_setCell hY) ⟨rfl, (hb2.trans (hb9.mono hb2.size)).setCell (by simp) _⟩
  | false =>
    refine (callsIn_wide (n := 0)).1 ?_
    refine callsIn_of_wp_marks Try.func115 rfl trivial ?_ rfl
    simp only [Try.ntmps115, List.size_toArray, List.length_cons, List.length_nil, Nat.reduceAdd, Nat.reduceSub, Array.replicate_succ, Array.replicate_zero, List.push_toArray, List.append_toArray, List.nil_append, List.cons_append]
    clear hs
    gi_wp2_with (refine ⟨trivial, rfl, ?_⟩; gi_at_call 139; refine (callsIn_wide.2 (ends_walk _ _)).mono ?_; rintro e w' ⟨rfl, rfl⟩)
    obtain ⟨w3, hw3⟩ : ∃ w3, ((w.alloc (.cells #[.string (B co), .bool false, .bool di, .slice A l.length c] 156)).alloc (.cells #[.bool false] 4)).alloc (.cells #[.string p] 9) = w3 := ⟨_, rfl⟩
    have h3 := three_new w (.cells #[.string (B co), .bool false, .bool di, .slice A l.length c] 156) (.cells #[.bool false] 4) (.cells #[.string p] 9)
    have hb3 := hb2.alloc (by simp; omega) (.cells #[.string p] 9)
    have hsz : w3.heap.size = w.heap.size + 3 := by rw [← hw3]; simp
    rw [hw3] at h3 hb3 ⊢
    obtain ⟨hF, hB, hE⟩ := h3
    have hB : Boxed w3 (w.heap.size + 1) 4 (.bool false) := hB
    clear hw3 hX0 hX1 hb2
    have HEN := Lib.hid (fun x (h : x ∈ endsS (L p)) => ends_small (L p) x h)
    refine wp_range (gf := 153) (lb := #[.pointer (some ⟨w.heap.size + 1 + 1, 0, none⟩)]) rfl (enters_of Try.func153 (by kernel_rfl) rfl) (xs := endsS (L p))
      (row := some (w.heap.size + 1 + 1)) (Ks := fun k => k = w.heap.size + 1 + 1) (by rintro r e; cases e; omega)
      (fun W hs hk => ends_iter p hp (w.heap.size + 1 + 1) W ((hk _ (by omega)).trans hE)) (fun x => rfl)
      (fun i W => W.heap[w.heap.size]? = some (.cells #[.string (B co), .bool false, .bool di, .slice A l.length c] 156 (0, 0)) ∧ Boxed W (w.heap.size + 1) 4 (.bool false) ∧ ((endsS (L p)).take i).any (matchB l) = false ∧ Below w.heap.size w W)
      (fun c i W => c = .ret ∧ Boxed W (w.heap.size + 1) 4 (.bool true) ∧ (endsS (L p)).any (matchB l) = true ∧ Below w.heap.size w W)
      ?hI ?hIx ⟨hF, hB, rfl, hb3⟩
      (fun x => { tmps := #[.agg #[.string (B co), .bool false, .bool di, .slice A l.length c], .string p, .pointer (some ⟨w.heap.size, 0, none⟩), undef, .pointer (some ⟨w.heap.size + 1, 0, none⟩), .string (B x), .pointer (some ⟨w.heap.size, 1, none⟩), .bool false, undef, undef, undef, undef, .string p, .func (.func 153) #[] #[.pointer (some ⟨w.heap.size + 1 + 1, 0, none⟩)], .string (B x), undef, undef, undef, undef], defers := [] })
      ?assign ?body ?done ?stop
    case hI =>
      rintro i A C ⟨h1, h2, h3, h4⟩ ht
      exact ⟨ht.heap h1 (by simp; omega), ht.boxed h2 (by simp), h3, ht.below h4 (by omega) (by rintro r e; cases e; omega)⟩
    case hIx =>
      rintro c i A C ⟨h1, h2, h3, h4⟩ ht
      exact ⟨h1, ht.boxed h2 (by simp), h3, ht.below h4 (by omega) (by rintro r e; cases e; omega)⟩
    case assign =>
      intro l x W K hK
      gi_wp2
      exact hK
    case body =>
      rintro lp i x W hx ⟨h1, h2, h3, h4⟩
      have hxm := List.mem_of_getElem? hx
      have hxl := HEN.out x hxm
      rw [L_len] at hxl
      have HM := Lib.hid (M1.out (B x) (by rw [B_size]; omega) W (HS.out.keep h4))
      rw [L_B] at HM
      obtain ⟨⟨z0, z1, z2, z3⟩, _⟩ := cells4 h1
      cases hm : matchB l x with
      | true =>
        have HR : Hid ((endsS (L p)).any (matchB l) = true) := by show _ = _; rw [List.any_eq_true]; exact ⟨x, hxm, hm⟩
        rw [hm] at HM
        clear hx hxm h3 hm
        gi_wp2_with (refine ⟨trivial, rfl, ?_⟩; gi_at_call 87; refine (CallsIn.inRound lp (callsIn_wide.2 HM.out)).mono ?_; rintro e w9 ⟨rfl, hb9⟩; have h29 : Boxed w9 (w.heap.size + 1) 4 (.bool false) := (hb9.block _ (lt_o h2)).trans h2; have c2 := h29.cell; have f2 := h29.frozen)
        exact ⟨((Calm.refl _ _).below hb9).setCell _ (by simp), rfl, h29.set _, HR.out, (h4.trans (hb9.mono h4.size)).setCell (by simp) _⟩
      | false =>
        have HR := Lib.hid (any_take_next _ i x (matchB l) hx h3 hm)
        rw [hm] at HM
        clear hx hxm h3 hm
        gi_wp2_with (refine ⟨trivial, rfl, ?_⟩; gi_at_call 87; refine (CallsIn.inRound lp (callsIn_wide.2 HM.out)).mono ?_; rintro e w9 ⟨rfl, hb9⟩)
        exact ⟨(Calm.refl _ _).below hb9, (hb9.block _ (lt_o h1)).trans h1, (hb9.block _ (lt_o h2)).trans h2, HR.out, h4.trans (hb9.mono h4.size)⟩
    case done =>
      rintro D W hD ⟨h1, h2, h3, h4⟩ hK
      have HR : Hid (hitB false l (L p) = false) := by rw [List.take_length] at h3; exact h3
      have hc1 := h2.cell
      have hf1 := h2.frozen
      clear h3
      gi_wp2
      have hK' := (KeepsOthers.setCell W ⟨w.heap.size + 1, 0, none⟩ (.bool false)).same D _ hK rfl
      refine end_markM (v := .bool false) rfl hK' ?_ ⟨ret_bool (by first | rfl | exact HR.out.symm), below_mark (h4.setCell (by simp) _) (by omega) (by have := h4.size; simpa [World.setCell] using this)⟩
      have hc := (Boxed.mark (Boxed.set (.bool false) h2) hK').cell
      simp [results, Try.results115, go_sem, hc]
    case stop =>
      rintro D c i W hD _ _ ⟨rfl, h1, h2, h3⟩ hK
      gi_wp2
      refine end_markM (v := .bool true) rfl hK ?_ ⟨ret_bool h2.symm, below_mark h3 (by omega) h3.size⟩
      have hc := (Boxed.mark h1 hK).cell
      simp [results, Try.results115, go_sem, hc]
end Go.Proofs.Ytcapaiiegfedmaa
