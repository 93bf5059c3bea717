/- rule.CheckAll, rule.Keeps, rule.Shut. · rule.Shut: a path is shut out if it isn't kept, or one above it isn't. -/
import Derived.Test.YtcapaiiegfedmaaRt22
namespace Go.Proofs.Ytcapaiiegfedmaa
open Go.RowKit Go.Shelf
attribute [local go_sem] Oper.semAt_some
def rV (r : RuleD) : List Value := [.bool r.1, strV r.2]
theorem two_at {α : Type} (f : α → List Value) (hf2 : ∀ x, (f x).length = 2) {w : World} {A : Option Addr} {es : List α} (h : Slc w A (es.flatMap f)) {k : Nat} {e : α} (hk : es[k]? = some e) {v0 v1 : Value} (he : f e = [v0, v1]) :
    ∃ b o, A = some ⟨b, o, none⟩ ∧ b < w.heap.size ∧ w.cell? ⟨b, o + k * 2, none⟩ = some v0 ∧ w.cell? ⟨b, o + k * 2 + 1, none⟩ = some v1 := by
  have hf := fun j hj => flat_get f 2 hf2 es k j hj
  rw [hk] at hf
  simp only [Option.bind_some, he] at hf
  rcases h with h | ⟨b, o, rfl, hlt, hc⟩
  · have := hf 0 (by omega)
    rw [h] at this; simp at this
  · refine ⟨b, o, rfl, hlt, ?_, ?_⟩
    · exact hc (k * 2 + 0) _ (hf 0 (by omega))
    · rw [Nat.add_assoc]; exact hc (k * 2 + 1) _ (hf 1 (by omega))
theorem two_new2 {w : World} {b : Nat} {v0 v1 : Value} {t : TypeId} (h : w.heap[b]? = some (.cells #[v0, v1] t (0, 0))) : w.cell? ⟨b, 0, none⟩ = some v0 ∧ w.cell? ⟨b, 1, none⟩ = some v1 := by simp [World.cell?, h]
theorem find_here {α : Type} (es : List α) (f : α → Bool) (k : Nat) (e : α) (hk : es[k]? = some e) (he : f e = true) (h0 : (es.take k).find? f = none) : es.find? f = some e := by
  obtain ⟨hlt, hv⟩ := List.getElem?_eq_some_iff.1 hk
  rw [← List.take_append_drop k es, List.find?_append, h0, ← List.getElem_cons_drop hlt, hv, List.find?_cons_of_pos he]
  rfl
theorem find_on {α : Type} (es : List α) (f : α → Bool) (k : Nat) (e : α) (hk : es[k]? = some e) (he : f e = false) (h0 : (es.take k).find? f = none) : (es.take (k + 1)).find? f = none := by
  rw [take_one_more es k e hk, List.find?_append, h0, List.find?_cons_of_neg (by rw [he]; simp)]
  rfl
theorem keeps_at (rs : List RuleD) (p : Bs) (d : Bool) (r : RuleD) (h : rs.find? (fun r => matchesB r.2 p d) = some r) : keepsB rs p d = r.1 := by unfold keepsB; rw [h]
theorem keeps_no (rs : List RuleD) (p : Bs) (d : Bool) (h : rs.find? (fun r => matchesB r.2 p d) = none) : keepsB rs p d = true := by unfold keepsB; rw [h]
set_option maxRecDepth 100000 in
set_option maxHeartbeats 4000000 in
theorem keeps_walk (A : Option Addr) (c : Nat) (rs : List RuleD) (p : ByteArray) (d : Bool) (hp : p.size ≤ 100000) (hn : rs.length ≤ 1000) (hr : ∀ r ∈ rs, r.2.length ≤ 100000) (w : World) (hx : Slc w A (rs.flatMap rV)) :
    Calls Try.prog 71 #[.slice A rs.length c, .string p, .bool d] w fun e w' => e = .returned (.bool (keepsB rs (L p) d)) ∧ Below w.heap.size w w' := by
  have M1 := Lib.hid (fun k (r : ByteArray) (h : r.size ≤ 100000) W => rmatches_walk k r p d h hp W)
  have HX := Lib.hid hx
  have HRS := Lib.hid hr
  clear hx hr
  go_enter Try.func71, Try.ntmps71
  go_wp2_with fail
  go_loopw [11] (fun i wr => ∃ k : Nat, k ≤ rs.length ∧ i = .int .i64 k ∧ Hid ((rs.take k).find? (fun r => matchesB r.2 (L p) d) = none) ∧ Below w.heap.size w wr) (fun i _ => rs.length - (intOf i).toNat)
  case atStart => exact ⟨0, Nat.zero_le _, rfl, by rw [List.take_zero]; rfl, Below.refl _ _⟩
  case round =>
    obtain ⟨k, hk, rfl, HP, hbr⟩ := hrel
    by_cases hlt : k < rs.length
    · obtain ⟨r, hrk⟩ : ∃ r, rs[k]? = some r := ⟨_, List.getElem?_eq_getElem hlt⟩
      have HK := Lib.hid hrk
      have hrl := HRS.out r (List.mem_of_getElem? hrk)
      obtain ⟨b, o, rfl, hlb, c0, c1⟩ := two_at rV (fun _ => rfl) (HX.out.keep hbr) hrk rfl
      unfold strV at c1
      have HM := Lib.hid (M1.out r.1 (B r.2) (by rw [B_size]; exact hrl))
      rw [L_B] at HM
      have hi0 : (0 : Int) ≤ (k : Int) := Int.natCast_nonneg _
      have hi1 : (k : Int) < (rs.length : Int) := by omega
      clear hrk
      have hb2 := hbr.alloc hbr.size (.cells #[.bool r.1, .string (B r.2)] 102)
      cases hm : matchesB r.2 (L p) d with
      | true =>
        have HR := Lib.hid (keeps_at rs (L p) d r (find_here rs _ k r HK.out hm HP.out))
        rw [hm] at HM
        clear hm
        go_wp2_with (go_at_call 78; refine (HM.out _).mono ?_; rintro e w9 ⟨rfl, hb9⟩; have hX := (hb9.block _ (by simp)).trans (World.alloc_heap_new wr (.cells #[.bool r.1, .string (B r.2)] 102)); obtain ⟨z0, z1⟩ := two_new2 hX)
        go_ret
        rw [HR.out]
        exact ⟨rfl, hb2.trans (hb9.mono hb2.size)⟩
      | false =>
        have HN := Lib.hid (find_on rs (fun r => matchesB r.2 (L p) d) k r HK.out hm HP.out)
        rw [hm] at HM
        clear hm
        go_wp2_with (go_at_call 78; refine (HM.out _).mono ?_; rintro e w9 ⟨rfl, hb9⟩)
        go_roundw
        case rel => exact ⟨k + 1, by omega, by go_num, HN.out, hb2.trans (hb9.mono hb2.size)⟩
        case measure => simp [intOf]; omega
    · obtain rfl : k = rs.length := by omega
      rw [List.take_length] at HP
      have HR := Lib.hid (keeps_no rs (L p) d HP.out)
      go_wp2_with fail
      go_ret
      rw [HR.out]
      exact ⟨rfl, hbr⟩
theorem checks_at (rs : List RuleD) (k : Nat) (r : RuleD) (hk : rs[k]? = some r) (h : rulesC1 rs = rulesC1 (rs.drop k)) : rulesC1 rs = if ruleC r.2 = 0 then rulesC1 (rs.drop (k + 1)) else ruleC r.2 := by
  obtain ⟨hlt, hv⟩ := List.getElem?_eq_some_iff.1 hk
  rw [h, ← List.getElem_cons_drop hlt, hv, rulesC1]
set_option maxRecDepth 100000 in
set_option maxHeartbeats 4000000 in
theorem checkAll_walk (A : Option Addr) (c : Nat) (rs : List RuleD) (hn : rs.length ≤ 1000) (hr : ∀ r ∈ rs, r.2.length ≤ 100000) (w : World) (hx : Slc w A (rs.flatMap rV)) :
    Calls Try.prog 79 #[.slice A rs.length c] w fun e w' => e = .returned (.int .i64 (rulesC rs)) ∧ Below w.heap.size w w' := by
  have M1 := Lib.hid (fun k (r : ByteArray) (h : r.size ≤ 100000) W => rcheck_walk k r h W)
  have HX := Lib.hid hx
  have HRS := Lib.hid hr
  clear hx hr
  by_cases h16 : 16 < rs.length
  · have hq : decide ((16 : Int) < (rs.length : Int)) = true := by simp; omega
    have HF : Hid (rulesC rs = 5) := if_pos h16
    go_enter Try.func79, Try.ntmps79
    go_wp2_with fail
    go_ret
    rw [HF.out]
    exact ⟨rfl, Below.refl _ _⟩
  have hq : decide ((16 : Int) < (rs.length : Int)) = false := by simp; omega
  have HF : Hid (rulesC rs = rulesC1 rs) := if_neg h16
  rw [HF.out]
  go_enter Try.func79, Try.ntmps79
  go_wp2_with fail
  go_loopw [11] (fun i wr => ∃ k : Nat, k ≤ rs.length ∧ i = .int .i64 k ∧ Hid (rulesC1 rs = rulesC1 (rs.drop k)) ∧ Below w.heap.size w wr) (fun i _ => rs.length - (intOf i).toNat)
  case atStart => exact ⟨0, Nat.zero_le _, rfl, by rw [List.drop_zero]; rfl, Below.refl _ _⟩
  case round =>
    obtain ⟨k, hk, rfl, HP, hbr⟩ := hrel
    by_cases hlt : k < rs.length
    · obtain ⟨r, hrk⟩ : ∃ r, rs[k]? = some r := ⟨_, List.getElem?_eq_getElem hlt⟩
      have hca := checks_at rs k r hrk HP.out
      have hrl := HRS.out r (List.mem_of_getElem? hrk)
      obtain ⟨b, o, rfl, hlb, c0, c1⟩ := two_at rV (fun _ => rfl) (HX.out.keep hbr) hrk rfl
      unfold strV at c1
      have HM := Lib.hid (M1.out r.1 (B r.2) (by rw [B_size]; exact hrl))
      rw [L_B] at HM
      have hi0 : (0 : Int) ≤ (k : Int) := Int.natCast_nonneg _
      have hi1 : (k : Int) < (rs.length : Int) := by omega
      clear hrk
      have hb2 := hbr.alloc hbr.size (.cells #[.bool r.1, .string (B r.2)] 102)
      by_cases hm : ruleC r.2 = 0
      · rw [if_pos hm] at hca
        have HN := Lib.hid hca
        rw [hm] at HM
        clear hm hca
        go_wp2_with (go_at_call 76; refine (HM.out _).mono ?_; rintro e w9 ⟨rfl, hb9⟩)
        go_roundw
        case rel => exact ⟨k + 1, by omega, by go_num, HN.out, hb2.trans (hb9.mono hb2.size)⟩
        case measure => simp [intOf]; omega
      · rw [if_neg hm] at hca
        have HN := Lib.hid hca
        have hq2 : (ruleC r.2 != 0) = true := by simpa using hm
        clear hm hca
        generalize ruleC r.2 = cc at *
        go_wp2_with (go_at_call 76; refine (HM.out _).mono ?_; rintro e w9 ⟨rfl, hb9⟩)
        go_ret
        rw [HN.out]
        exact ⟨rfl, hb2.trans (hb9.mono hb2.size)⟩
    · obtain rfl : k = rs.length := by omega
      have HR : Hid (rulesC1 rs = 0) := by show _ = _; rw [HP.out, List.drop_length]; rfl
      go_wp2_with fail
      go_ret
      rw [HR.out]
      exact ⟨rfl, hbr⟩
set_option maxRecDepth 100000 in
theorem shuts_walk (A : Option Addr) (c : Nat) (rs : List RuleD) (p : ByteArray) (hp : p.size ≤ 100000) (hn : rs.length ≤ 1000) (hr : ∀ r ∈ rs, r.2.length ≤ 100000) (w : World) (hx : Slc w A (rs.flatMap rV)) :
    Calls Try.prog 110 #[.slice A rs.length c, .string p] w fun e w' => e = .returned (.bool (!keepsB rs (L p) true)) ∧ Below w.heap.size w w' := by
  have K1 := Lib.hid (keeps_walk A c rs p true hp hn hr w hx)
  go_enter Try.func110, Try.ntmps110
  go_wp2_with (go_at_call 71; refine K1.out.mono ?_; rintro e w9 ⟨rfl, hb9⟩)
  go_ret
  exact ⟨rfl, hb9⟩
end Go.Proofs.Ytcapaiiegfedmaa
namespace Go.Proofs.Ytcapaiiegfedmaa
open Go.RowKit Go.Shelf
attribute [local go_sem] Oper.semAt_some
theorem run_store_func {P : Program} {w : World} {a : Addr} {m : Mode} (f : Fn) (xs ys : Array Value) : (store a (.func f xs ys) m).run P w = stored P w a (.func f xs ys) m := run_store P w a _ m rfl
attribute [local go_sem] run_store_func
theorem shut_end {W : World} {b : Nat} {v : Bool} {R : Ending → World → Prop} (tmps : Array Value) (h4 : tmps.getD 6 undef = .pointer (some ⟨b, 0, none⟩)) (hX : W.heap[b]? = some (.cells #[.bool v] 4 (0, 0))) (hR : R (.returned (.bool v)) W) :
    bodyPostM Fence.wide 0 Try.prog Try.f73 R .ret { tmps := tmps, defers := [] } W := by
  refine end_plainM (v := .bool v) rfl ?_ hR
  have z := cell1 hX
  simp only [Array.getD_eq_getD_getElem?] at h4
  simp [results, Try.results73, h4, go_sem, z]
theorem glue_front_len (l : List Bs) (i : Nat) : (glue (l.take i)).length ≤ (glue l).length := by
  induction l generalizing i with
  | nil => simp
  | cons a t ih =>
    cases i with
    | zero => simp [glue]
    | succ i =>
      rw [List.take_succ_cons]
      cases t with
      | nil => simp
      | cons b t =>
        rw [glue_cons a (b :: t) (by simp)]
        cases i with
        | zero => simp [glue]
        | succ i =>
          have h3 := ih (i + 1)
          rw [glue_cons a _ (by simp), List.length_append, List.length_append, List.length_cons, List.length_cons]
          omega
theorem ups_len (p x : Bs) (h : x ∈ upsL p) : x.length ≤ p.length := by
  rw [upsL_eq, List.mem_map] at h
  obtain ⟨i, _, rfl⟩ := h
  unfold names
  split
  · have h2 := glue_front_len (cut p) i
    rwa [glue_cut p] at h2
  · simp [glue]
theorem shut_eq (rs : List RuleD) (p : Bs) (d : Bool) : shutB rs p d = (!keepsB rs p d || (upsL p).any (fun u => !keepsB rs u true)) := rfl
set_option maxRecDepth 100000 in
set_option maxHeartbeats 4000000 in
theorem shut_walk (A : Option Addr) (c : Nat) (rs : List RuleD) (p : ByteArray) (d : Bool) (hp : p.size ≤ 100000) (hn : rs.length ≤ 1000) (hr : ∀ r ∈ rs, r.2.length ≤ 100000) (w : World) (hx : Slc w A (rs.flatMap rV)) :
    Calls Try.prog 73 #[.slice A rs.length c, .string p, .bool d] w fun e w' => e = .returned (.bool (shutB rs (L p) d)) ∧ Below w.heap.size w w' := by
  have K1 := Lib.hid (fun W (h : Slc W A (rs.flatMap rV)) => keeps_walk A c rs p d hp hn hr W h)
  have S1 := Lib.hid (fun (q : ByteArray) (hq : q.size ≤ 100000) W (h : Slc W A (rs.flatMap rV)) => shuts_walk A c rs q hq hn hr W h)
  have U1 := Lib.hid (fun X => ups_fn p hp X)
  have HS := Lib.hid hx
  have hb1 := (Below.refl w.heap.size w).alloc (Nat.le_refl _) (.cells #[.bool false] 4)
  have hX0 := World.alloc_heap_new w (.cells #[.bool false] 4)
  have HK := Lib.hid (K1.out _ (hx.keep hb1))
  clear hx hr
  refine (callsIn_wide (n := 0)).1 ?_
  refine callsIn_of_wp_marks Try.func73 rfl trivial ?_ rfl
  simp only [Try.ntmps73, List.size_toArray, List.length_cons, List.length_nil, Nat.reduceAdd, Nat.reduceSub, Array.replicate_succ, Array.replicate_zero, List.push_toArray, List.append_toArray, List.nil_append, List.cons_append]
  cases hk : keepsB rs (L p) d with
  | false =>
    have HF : Hid (shutB rs (L p) d = true) := by show _ = _; rw [shut_eq, hk]; rfl
    rw [hk] at HK
    clear hk
    gi_wp2_with (refine ⟨trivial, rfl, ?_⟩; gi_at_call 71; refine (callsIn_wide.2 HK.out).mono ?_; rintro e w9 ⟨rfl, hb9⟩; have hY := (hb9.block _ (lt_o hX0)).trans hX0; have c1 := cell1 hY; have f1 := free1 hY)
    rw [HF.out]
    exact shut_end _ rfl (one_setCell hY) ⟨rfl, (hb1.trans (hb9.mono hb1.size)).setCell (Nat.le_refl _) _⟩
  | true =>
    have HF : Hid (shutB rs (L p) d = (upsL (L p)).any (fun u => !keepsB rs u true)) := by show _ = _; rw [shut_eq, hk]; rfl
    rw [hk] at HK
    clear hk
    gi_wp2_with (refine ⟨trivial, rfl, ?_⟩; first | (gi_at_call 71; refine (callsIn_wide.2 HK.out).mono ?_; rintro e w9 ⟨rfl, hb9⟩) | (gi_at_call 94; refine (callsIn_wide.2 (U1.out _)).mono ?_; rintro e w8 ⟨b, q, rfl, hbb0, hbx, hcq, hqs, hb8⟩))
    obtain ⟨w7, hw7⟩ : ∃ w7, w9.alloc (.cells #[.func (.func 110) #[.slice A rs.length c] #[]] 23) = w7 := ⟨_, rfl⟩
    have hX1 : Boxed w9 w.heap.size 4 (.bool false) := (hb9.block _ (lt_o hX0)).trans hX0
    have hbw9 := hb1.trans (hb9.mono hb1.size)
    have hF7 : Boxed w7 w9.heap.size 23 (.func (.func 110) #[.slice A rs.length c] #[]) := by rw [← hw7]; exact Boxed.new _ _ _
    have hX7 : Boxed w7 w.heap.size 4 (.bool false) := by rw [← hw7]; exact hX1.alloc _
    have hbw7 : Below w.heap.size w w7 := by rw [← hw7]; exact hbw9.alloc hbw9.size _
    have hs97 : w9.heap.size < w7.heap.size := by rw [← hw7]; simp
    have hs9 : w.heap.size < w9.heap.size := by have := hb9.size; simp at this; omega
    rw [hw7] at hb8 hbb0
    clear hw7 hX1 hbw9 hb9
    have hF8 : Boxed w8 w9.heap.size 23 (.func (.func 110) #[.slice A rs.length c] #[]) := (hb8.block _ hs97).trans hF7
    have hX8 : Boxed w8 w.heap.size 4 (.bool false) := (hb8.block _ (by omega)).trans hX7
    have hbw8 := hbw7.trans (hb8.mono hbw7.size)
    have hblt : b < w8.heap.size := lt_o hbx
    have hs8 := hb8.size
    clear hF7 hX7 hbw7 hb8
    have HUL := Lib.hid (fun x (h : x ∈ upsL (L p)) => ups_len (L p) x h)
    refine wp_range (gf := 122) (lb := #[.pointer (some ⟨b, 0, none⟩)]) rfl (enters_of Try.func122 (by kernel_rfl) rfl) (xs := upsL (L p))
      (row := none) (Ks := fun k => k = b) (by rintro r e; cases e)
      (fun W hs hk => hcq ▸ ups_iter q hqs b W ((hk b (by omega)).trans hbx)) (fun x => rfl)
      (fun i W => Boxed W w9.heap.size 23 (.func (.func 110) #[.slice A rs.length c] #[]) ∧ Boxed W w.heap.size 4 (.bool false) ∧ ((upsL (L p)).take i).any (fun u => !keepsB rs u true) = false ∧ Below w.heap.size w W)
      (fun c i W => c = .ret ∧ Boxed W w.heap.size 4 (.bool true) ∧ (upsL (L p)).any (fun u => !keepsB rs u true) = true ∧ Below w.heap.size w W)
      ?hI ?hIx ⟨hF8, hX8, rfl, hbw8⟩
      (fun x => { tmps := #[.slice A rs.length c, .string p, .bool d, undef, undef, undef, .pointer (some ⟨w.heap.size, 0, none⟩), .pointer (some ⟨w9.heap.size, 0, none⟩), .string (B x), .slice A rs.length c, .string p, .bool d, .bool true, .bool false, .slice A rs.length c, .func (.func 110) #[.slice A rs.length c] #[], .string p, .func (.func 122) #[] #[.pointer (some ⟨b, 0, none⟩)], .string (B x), undef, undef, undef], defers := [] })
      ?assign ?body ?done ?stop
    case hI =>
      rintro i A C ⟨h1, h2, h3, h4⟩ ht
      exact ⟨ht.boxed h1 (by simp), ht.boxed h2 (by simp), h3, ht.below h4 (by omega) (by rintro r e; cases e)⟩
    case hIx =>
      rintro c i A C ⟨h1, h2, h3, h4⟩ ht
      exact ⟨h1, ht.boxed h2 (by simp), h3, ht.below h4 (by omega) (by rintro r e; cases e)⟩
    case assign =>
      intro l x W K hK
      gi_wp2
      exact hK
    case body =>
      rintro lp i x W hx ⟨h1, h2, h3, h4⟩
      have hxm := List.mem_of_getElem? hx
      have hxl := HUL.out x hxm
      rw [L_len] at hxl
      have HM := Lib.hid (S1.out (B x) (by rw [B_size]; omega) W (HS.out.keep h4))
      rw [L_B] at HM
      have hc1 := h1.cell
      cases hm : keepsB rs x true with
      | false =>
        have HR : Hid ((upsL (L p)).any (fun u => !keepsB rs u true) = true) := by show _ = _; rw [List.any_eq_true]; exact ⟨x, hxm, by rw [hm]; rfl⟩
        rw [hm] at HM
        clear hx hxm h3 hm
        gi_wp2_with (refine ⟨trivial, rfl, ?_⟩; gi_at_call 110; refine (CallsIn.inRound lp (callsIn_wide.2 HM.out)).mono ?_; rintro e w6 ⟨rfl, hb6⟩; have h29 : Boxed w6 w.heap.size 4 (.bool false) := (hb6.block _ (lt_o h2)).trans h2; have c2 := h29.cell; have f2 := h29.frozen)
        exact ⟨((Calm.refl _ _).below hb6).setCell _ (by show ¬ w.heap.size = b; omega), rfl, h29.set _, HR.out, (h4.trans (hb6.mono h4.size)).setCell (by simp) _⟩
      | true =>
        have HR := Lib.hid (any_take_next _ i x (fun u => !keepsB rs u true) hx h3 (by rw [hm]; rfl))
        rw [hm] at HM
        clear hx hxm h3 hm
        gi_wp2_with (refine ⟨trivial, rfl, ?_⟩; gi_at_call 110; refine (CallsIn.inRound lp (callsIn_wide.2 HM.out)).mono ?_; rintro e w6 ⟨rfl, hb6⟩)
        exact ⟨(Calm.refl _ _).below hb6, (hb6.block _ (lt_o h1)).trans h1, (hb6.block _ (lt_o h2)).trans h2, HR.out, h4.trans (hb6.mono h4.size)⟩
    case done =>
      rintro D W hD ⟨h1, h2, h3, h4⟩ hK
      have HR : Hid (shutB rs (L p) d = false) := by show _ = _; rw [HF.out]; rw [List.take_length] at h3; exact h3
      have hc1 := h2.cell
      have hf1 := h2.frozen
      clear h3
      gi_wp2
      have hK' := (KeepsOthers.setCell W ⟨w.heap.size, 0, none⟩ (.bool false)).same D _ hK rfl
      refine end_markM (v := .bool false) rfl hK' ?_ ⟨ret_bool (by first | rfl | exact HR.out.symm), below_mark (h4.setCell (by simp) _) (by omega) (by have := h4.size; simpa [World.setCell] using this)⟩
      have hc := (Boxed.mark (Boxed.set (.bool false) h2) hK').cell
      simp [results, Try.results73, go_sem, hc]
    case stop =>
      rintro D c i W hD _ _ ⟨rfl, h1, h2, h3⟩ hK
      gi_wp2
      refine end_markM (v := .bool true) rfl hK ?_ ⟨ret_bool (by rw [HF.out]; exact h2.symm), below_mark h3 (by omega) h3.size⟩
      have hc := (Boxed.mark h1 hK).cell
      simp [results, Try.results73, go_sem, hc]
end Go.Proofs.Ytcapaiiegfedmaa
