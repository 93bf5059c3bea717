/- journal: records turned into the document's; two lists of records compared. -/
import Derived.Test.YtcapaiiegfedmaaJE
import Derived.Deep.RegionHeld3
import Derived.Deep.AppendLies
namespace Go.Proofs.Ytcapaiiegfedmaa
open Go.RowKit Go.Shelf
theorem recsV_get (rs : List (Int × Int)) (k : Nat) (h : k < rs.length) : (recsV rs)[k * 2]? = some (.int .i64 (rs[k]).1) ∧ (recsV rs)[k * 2 + 1]? = some (.int .i64 (rs[k]).2) := by
  induction rs generalizing k with
  | nil => simp at h
  | cons x t ih =>
    cases k with
    | zero => exact ⟨rfl, rfl⟩
    | succ k =>
      have := ih k (by simpa using h)
      have e1 : (k + 1) * 2 = k * 2 + 2 := by omega
      rw [e1]
      exact this
theorem Slc.rec {w : World} {A : Option Addr} {rs : List (Int × Int)} (h : Slc w A (recsV rs)) {k : Nat} (hk : k < rs.length) :
    ∃ b o, A = some ⟨b, o, none⟩ ∧ b < w.heap.size ∧ w.cell? ⟨b, o + k * 2, none⟩ = some (.int .i64 (rs[k]).1) ∧ w.cell? ⟨b, o + k * 2 + 1, none⟩ = some (.int .i64 (rs[k]).2) := by
  rcases h with h | ⟨b, o, rfl, hlt, hc⟩
  · have := congrArg List.length h
    rw [recsV_len] at this; simp only [List.length_nil] at this; omega
  · have h2 := recsV_get rs k hk
    exact ⟨b, o, rfl, hlt, hc _ _ h2.1, hc _ _ h2.2⟩
theorem elem_rrec : Elem Try.prog 45 54 2 16 := elem_mk (z := .agg #[.int .i64 0, .int .i64 0]) Try.underlying45 (by kernel_rfl) rfl (by omega)
theorem step_app1 {P : Program} {w : World} {ops : Array Oper} {o : Oper} {a : Act} {K : Act → World → Prop} {Q : Exit → Act → World → Prop} {E : Prop} (hgd : o.guard = none) (s x : Operand) (t : TypeId)
    (ho : o.op = .call { callee := .builtin .append, args := #[s, x], argTypes := #[t, t] })
    {base : Nat} {e : TypeId} {size bytes : Nat} (el : Elem P t e size bytes) {v : Value} {n : Nat} {xs : List Value} (hs : a.eval s = v) (hown : w.ownsRow base e size v n xs)
    {g : Nat} {cs : List Value} {z : Nat × Nat} (hx : a.eval x = .slice (some ⟨g, 0, none⟩) 1 1) (hg : w.heap[g]? = some (.cells cs.toArray e z)) (hl : cs.length = size) (h1 : ∀ u ∈ cs, u.oneCell' = true)
    (hn : (n + 1) * bytes ≤ 140737488355328) (hn2 : n < 100000000) (hbase : base ≤ w.heap.size)
    (h : ∀ g' cap w', w'.ownsRow base e size (.slice (some ⟨g', 0, none⟩) (n + 1) cap) (n + 1) (xs ++ cs) → w.grownBy w' v.ownBlock → Below base w w' → K (a.put o.dst (.slice (some ⟨g', 0, none⟩) (n + 1) cap)) w') :
    if Region.wanted o (yielded ops a.tmps) = true then Oper.wp P o a w K Q else E := by
  obtain ⟨i, z0, hi, hz, hsz, hby, hzs⟩ := el.hi
  refine step_append_lies w hgd s x t ho base e i z0 size bytes el.ht hi hz hsz hby hzs el.hs v n xs hs hown ⟨g, 0, none⟩ 1 1 cs hx (by rw [hl]; omega) (cells_new hg) h1 (by omega) (by unfold maxLen; omega) hn hbase _ rfl ?_
  intro g' cap w' hown' hgr _ _
  exact h g' cap w' hown' hgr (own_below hown hbase hgr)
set_option maxRecDepth 100000 in
set_option maxHeartbeats 3200000 in
theorem from_walk (A : Option Addr) (c : Nat) (rs : List (Int × Int)) (w : World) (hx : Slc w A (recsV rs)) (hn : rs.length ≤ 100000) :
    Calls Try.prog 46 #[.slice A rs.length c] w fun e w' => ∃ A' c', e = .returned (.slice A' rs.length c') ∧ rs.length ≤ c' ∧ Slc w' A' (recsV rs) ∧ Below w.heap.size w w' := by
  go_enter Try.func46, Try.ntmps46
  go_wp2_with fail
  go_loopw [3, 4] (fun v i wr => ∃ k : Nat, k ≤ rs.length ∧ i = .int .i64 k ∧ (∃ A c, v = .slice A k c ∧ wr.ownsRow w.heap.size 54 2 (.slice A k c) k (recsV (rs.take k))) ∧ Below w.heap.size w wr)
    (fun _ i _ => rs.length - (intOf i).toNat)
  case atStart => exact ⟨0, Nat.zero_le _, rfl, ⟨none, 0, rfl, World.ownsRow_nil _ _ _ _⟩, Below.refl _ _⟩
  case round =>
    obtain ⟨k, hk, rfl, ⟨A1, c1, rfl, hown⟩, hbr⟩ := hrel
    by_cases hlt : k < rs.length
    · obtain ⟨b, o, rfl, hlb, hc0, hc1⟩ := (hx.keep hbr).rec hlt
      have hT := Lib.hid (take_one_more rs k _ (List.getElem?_eq_getElem hlt))
      have hlw := World.block_lt_of_cell? wr _ hc0
      have hrs := hbr.size
      have hlb0 : b < w.heap.size := by
        rcases hx with h | ⟨b', o', e, h1, _⟩
        · have := congrArg List.length h
          rw [recsV_len] at this; simp only [List.length_nil] at this; omega
        · cases e; exact h1
      have hfar : (Value.slice A1 k c1).ownBlock ≠ some b := fun h => by have := (hown.lt b h).1; omega
      generalize hxy : rs[k] = xy at *
      clear hxy
      obtain ⟨x, y⟩ := xy
      simp only at hc0 hc1
      have hi0 : (0 : Int) ≤ (k : Int) := Int.natCast_nonneg _
      have hi1 : (k : Int) < (rs.length : Int) := by omega
      go_wp2_with fail
      go_region_held3 (fun w' => w'.cell? ⟨b, o + k * 2, none⟩ = some (.int .i64 x) ∧ w'.cell? ⟨b, o + k * 2 + 1, none⟩ = some (.int .i64 y))
        (first
          | go_keep
          | (go_split_ands
             refine ⟨?_, ?_⟩
             · (rw [hgrow.cell_far _ (by simp; omega) (Ne.symm hfar)]; assumption)
             · (rw [hgrow.cell_far _ (by simp; omega) (Ne.symm hfar)]; assumption)))
        ((refine step_app1 (by rfl) _ _ _ (by rfl) elem_rrec (by rfl) ((hown.alloc _).drew) (by rfl) (cs := [.int .i64 x, .int .i64 y]) (heap_alloc_new wr _) rfl (by simp [Value.oneCell']) (by omega) (by omega) (by simp; omega) ?_; intro g' cap' w9 hown1 hgrow hb9))
      go_wp2_with fail
      refine ⟨⟨k + 1, by omega, by go_num, ⟨_, cap', rfl, ?_⟩, ?_⟩, ?_⟩
      · rw [hT.out, recsV_app]; exact hown1
      · exact (hbr.alloc hrs _).drew.trans hb9
      · simp [intOf]; omega
    · have hk' : k = rs.length := by omega
      subst hk'
      rw [List.take_length] at hown
      obtain ⟨A2, c2, he, hcap, hs⟩ := own_form hown
      cases he
      clear hown hlt
      go_wp2_with fail
      go_ret
      exact ⟨A1, c1, rfl, hcap, hs, hbr⟩
def eqR (a b : List (Int × Int)) : Bool := decide (a = b)
set_option maxRecDepth 100000 in
theorem rsame_walk (A C : Option Addr) (c d : Nat) (rs qs : List (Int × Int)) (w : World) (hx : Slc w A (recsV rs)) (hy : Slc w C (recsV qs)) (hn : rs.length ≤ 100000) (hm : qs.length ≤ 100000) :
    Calls Try.prog 48 #[.slice A rs.length c, .slice C qs.length d] w fun e w' => e = .returned (.bool (eqR rs qs)) ∧ Below w.heap.size w w' := by
  by_cases hlen : rs.length = qs.length
  case neg =>
    have HF : Hid (eqR rs qs = false) := by
      show eqR rs qs = false
      unfold eqR; rw [decide_eq_false_iff_not]; intro h; exact hlen (by rw [h])
    have hne : ((rs.length : Int) != (qs.length : Int)) = true := by simp; omega
    clear hlen
    go_enter Try.func48, Try.ntmps48
    go_wp2_with fail
    go_ret
    rw [HF.out]
    exact ⟨rfl, Below.refl _ _⟩
  case pos =>
    have hne : ((rs.length : Int) != (qs.length : Int)) = false := by simp; omega
    go_enter Try.func48, Try.ntmps48
    go_wp2_with fail
    go_loopw [5] (fun i wr => ∃ k : Nat, k ≤ rs.length ∧ i = .int .i64 k ∧ rs.take k = qs.take k ∧ ∃ n, wr = w.drewN n) (fun i _ => rs.length - (intOf i).toNat)
    case atStart => exact ⟨0, Nat.zero_le _, rfl, rfl, 0, rfl⟩
    case round =>
      obtain ⟨k, hk, rfl, heq, n, rfl⟩ := hrel
      by_cases hlt : k < rs.length
      · obtain ⟨b, o, rfl, hlb, hc0, hc1⟩ := hx.rec hlt
        obtain ⟨b', o', rfl, hlb', hd0, hd1⟩ := hy.rec (show k < qs.length by omega)
        have HX := Lib.hid (take_one_more rs k _ (List.getElem?_eq_getElem hlt))
        have HY := Lib.hid (take_one_more qs k _ (List.getElem?_eq_getElem (show k < qs.length by omega)))
        have HF : Hid (rs[k] ≠ qs[k] → eqR rs qs = false) := by
          intro hne
          unfold eqR; rw [decide_eq_false_iff_not]; intro h; subst h; exact hne rfl
        have HQ := Lib.hid heq
        clear heq
        generalize rs[k] = x at *
        generalize qs[k] = y at *
        obtain ⟨x1, x2⟩ := x
        obtain ⟨y1, y2⟩ := y
        simp only at hc0 hc1 hd0 hd1
        have hk2 : k < qs.length := by omega
        by_cases h1 : x1 = y1
        · by_cases h2 : x2 = y2
          · subst h1; subst h2
            go_wp2_with fail
            go_quiet (fail)
            go_wp2_with fail
            exact ⟨⟨k + 1, by omega, by go_num, by rw [HX.out, HY.out, HQ.out], _, rfl⟩, by simp [intOf]; omega⟩
          · subst h1
            have hq : (x2 == y2) = false := by simpa using h2
            have HE := Lib.hid (HF.out (by simpa using h2))
            clear h2
            go_wp2_with fail
            go_quiet (fail)
            go_wp2_with fail
            go_ret
            rw [HE.out]
            exact ⟨rfl, below_draw (below_draw (Below.refl _ _))⟩
        · have hq : (x1 == y1) = false := by simpa using h1
          have HE := Lib.hid (HF.out (by simp [h1]))
          clear h1
          go_wp2_with fail
          go_quiet (fail)
          go_wp2_with fail
          go_ret
          rw [HE.out]
          exact ⟨rfl, below_draw (below_draw (Below.refl _ _))⟩
      · have hk' : k = rs.length := by omega
        have HF : Hid (eqR rs qs = true) := by
          rw [hk', List.take_length, List.take_of_length_le (by omega)] at heq
          show eqR rs qs = true
          unfold eqR; rw [decide_eq_true_eq]; exact heq
        clear hk' heq
        go_wp2_with fail
        go_ret
        rw [HF.out]
        exact ⟨rfl, below_draw (Below.refl _ _)⟩
end Go.Proofs.Ytcapaiiegfedmaa
