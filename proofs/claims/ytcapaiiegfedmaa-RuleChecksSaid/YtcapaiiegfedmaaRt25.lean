/- The document's patterns (flittingref02): a part, which bytes it stands for. · A region that draws its order, walked in one order that the prover tells: what is taken first must yield in every world that meets a condition; each call is the only one that may come up. The order's checks are asked apart from the walk. -/
import Derived.Deep.RegionHeld3
import Derived.Great.Walk
import Derived.Test.YtcapaiiegfedmaaRt24
namespace Go.Proofs.Ytcapaiiegfedmaa
open Go.RowKit Go.Shelf
structure RQ where
  many : Int
  A : Option Addr
  cap : Nat
  inn : Bs
  no : Bool
  any : Bool
def rqV (q : RQ) : List Value := [.int .i64 q.many, .slice q.A q.inn.length q.cap, .bool q.no, .bool q.any]
def byteV (c : UInt8) : Value := .int .u8 (c.toNat : Int)
def bytesV (b : Bs) : List Value := b.map byteV
def hasB (l : Bs) (c : UInt8) : Bool := l.contains c
def standsB (q : RQ) (c : UInt8) : Bool := if q.any then c != 47 else if q.no then !hasB q.inn c && c != 47 else hasB q.inn c
def RelP (q : RQ) (p : Part) : Prop := (q.many = 0 ∧ p.2 = false ∧ ∀ c, standsB q c = p.1 c) ∨ (q.many = 1 ∧ p = (anyB false, true)) ∨ (q.many = 2 ∧ p = (anyB true, true))
theorem okay_walk (c : UInt8) (w : World) : Calls Try.prog 150 #[.int .u8 (c.toNat : Int)] w fun e w' => e = .returned (.bool (memberB c)) ∧ w = w' := by
  have h1 := bne_byte c 93 93 rfl
  have h2 := bne_byte c 91 91 rfl
  have h3 := bne_byte c 47 47 rfl
  have h4 := bne_byte c 92 92 rfl
  have HM : Hid (memberB c = ((c != 93) && (c != 91) && (c != 47) && (c != 92))) := rfl
  generalize (c != 93) = a1 at *
  generalize (c != 91) = a2 at *
  generalize (c != 47) = a3 at *
  generalize (c != 92) = a4 at *
  rw [HM.out]
  clear HM
  cases a1 <;> cases a2 <;> cases a3 <;> cases a4
  all_goals
    go_enter Try.func150, Try.ntmps150
    go_wp2_with fail
    go_ret
    exact ⟨rfl, rfl⟩
theorem byte_at {w : World} {A : Option Addr} {b : Bs} (h : Slc w A (bytesV b)) {k : Nat} {c : UInt8} (hk : b[k]? = some c) : ∃ g o, A = some ⟨g, o, none⟩ ∧ g < w.heap.size ∧ w.cell? ⟨g, o + k, none⟩ = some (byteV c) := by
  have hc : (bytesV b)[k]? = some (byteV c) := by unfold bytesV; rw [List.getElem?_map, hk]; rfl
  rcases h with h | ⟨g, o, rfl, hlt, hcell⟩
  · rw [h] at hc; cases hc
  · exact ⟨g, o, rfl, hlt, hcell k _ hc⟩
theorem bytes_beq (a c : UInt8) : ((a.toNat : Int) == (c.toNat : Int)) = (a == c) := by
  rw [Bool.eq_iff_iff]
  simp only [beq_iff_eq]
  constructor
  · intro h; exact UInt8.toNat_inj.1 (by omega)
  · rintro rfl; rfl
theorem has_more (b : Bs) (k : Nat) (x c : UInt8) (h : b[k]? = some x) : hasB (b.take (k + 1)) c = (hasB (b.take k) c || (x == c)) := by
  rw [take_one_more b k x h]
  unfold hasB
  rw [Bool.eq_iff_iff]
  simp only [List.contains_iff_mem, List.mem_append, List.mem_singleton, Bool.or_eq_true, beq_iff_eq]
  constructor
  · rintro (h | h)
    · exact .inl h
    · exact .inr h.symm
  · rintro (h | h)
    · exact .inl h
    · exact .inr h.symm
set_option maxRecDepth 100000 in
set_option maxHeartbeats 4000000 in
theorem stands_walk (q : RQ) (c : UInt8) (w : World) (hn : q.inn.length ≤ 100000) (hs : Slc w q.A (bytesV q.inn)) :
    Calls Try.prog 136 #[.agg #[.int .i64 q.many, .slice q.A q.inn.length q.cap, .bool q.no, .bool q.any], .int .u8 (c.toNat : Int)] w fun e w' => e = .returned (.bool (standsB q c)) ∧ Below w.heap.size w w' := by
  obtain ⟨many, A, cap, inn, no, any⟩ := q
  simp only at hn hs ⊢
  have hne := bne_byte c 47 47 rfl
  have HSB : Hid (standsB ⟨many, A, cap, inn, no, any⟩ c = if any then c != 47 else if no then !hasB inn c && c != 47 else hasB inn c) := rfl
  rw [HSB.out]
  clear HSB
  have hb := (Below.refl w.heap.size w).alloc (Nat.le_refl _) (.cells #[.int .i64 many, .slice A inn.length cap, .bool no, .bool any] 190)
  have HS := Lib.hid (hs.keep hb)
  have hX := World.alloc_heap_new w (.cells #[.int .i64 many, .slice A inn.length cap, .bool no, .bool any] 190)
  clear hs
  generalize (c != 47) = ne at *
  generalize hW : w.alloc (.cells #[.int .i64 many, .slice A inn.length cap, .bool no, .bool any] 190) = W at *
  obtain ⟨⟨z0, z1, z2, z3⟩, _⟩ := cells4 hX
  cases any with
  | true =>
    go_enter Try.func136, Try.ntmps136
    go_wp2_with fail
    go_ret
    exact ⟨rfl, hb⟩
  | false =>
    go_enter Try.func136, Try.ntmps136
    go_wp2_with fail
    go_loop [5, 6] (fun v i => ∃ k : Nat, k ≤ inn.length ∧ i = .int .i64 k ∧ v = .bool (hasB (inn.take k) c)) (fun _ i => inn.length - (intOf i).toNat)
    case atStart => exact ⟨0, Nat.zero_le _, rfl, by rw [List.take_zero]; rfl⟩
    case round =>
      obtain ⟨k, hk, rfl, rfl⟩ := hrel
      by_cases hlt : k < inn.length
      · obtain ⟨x, hxk⟩ : ∃ x, inn[k]? = some x := ⟨_, List.getElem?_eq_getElem hlt⟩
        obtain ⟨g, o, rfl, hlb, c0⟩ := byte_at HS.out hxk
        unfold byteV at c0
        have HM := Lib.hid (has_more inn k x c hxk)
        have hbe := bytes_beq x c
        have hi0 : (0 : Int) ≤ (k : Int) := Int.natCast_nonneg _
        have hi1 : (k : Int) < (inn.length : Int) := by omega
        clear hxk
        generalize hasB (inn.take k) c = u at *
        cases hq : (x == c) with
        | true =>
          rw [hq] at hbe HM
          clear hq
          go_wp2_with fail
          go_round
          case rel => exact ⟨k + 1, by omega, by go_num, by rw [HM.out]; simp⟩
          case measure => simp [intOf]; omega
        | false =>
          rw [hq] at hbe HM
          clear hq
          go_wp2_with fail
          go_round
          case rel => exact ⟨k + 1, by omega, by go_num, by rw [HM.out]; simp⟩
          case measure => simp [intOf]; omega
      · obtain rfl : k = inn.length := by omega
        rw [List.take_length]
        have hu : hasB inn c = true ∨ hasB inn c = false := by cases hasB inn c <;> simp
        rcases hu with hu | hu <;> rw [hu]
        all_goals have HU := Lib.hid hu
        all_goals clear hu
        all_goals cases no
        all_goals
          go_wp2_with fail
          go_ret
          rw [HU.out]
          exact ⟨rfl, hb⟩
end Go.Proofs.Ytcapaiiegfedmaa
namespace Go.Proofs.Ytcapaiiegfedmaa
open Go.RowKit
def updB (ls : Array Bool) (is : List Nat) : Array Bool := is.foldl (fun l i => l.setIfInBounds i true) ls
def orderP (ops : Array Oper) (calls : List Nat) : Array Bool → List Nat → Bool
  | _, [] => true
  | ls, i :: rest => (if calls.contains i then Region.ready .any ops ls == [i] else Region.free .any ops ls i && (Region.ready .any ops ls).contains i) && orderP ops calls (ls.setIfInBounds i true) rest
theorem orderP_app (ops : Array Oper) (calls : List Nat) (a b : List Nat) (ls : Array Bool) : orderP ops calls ls (a ++ b) = (orderP ops calls ls a && orderP ops calls (updB ls a) b) := by
  induction a generalizing ls with
  | nil => rfl
  | cons i t ih => rw [List.cons_append, orderP, ih, orderP, Bool.and_assoc]; rfl
section
variable (P : Program) (ops : Array Oper) (S : World → Prop) (Q : Exit → Act → World → Prop) (calls : List Nat)
def seqW : List Nat → Act → World → Prop
  | [], a, w => Q .normal a w
  | i :: rest, a, w => ∃ o, ops[i]? = some o ∧
    if calls.contains i then (if Region.wanted o (yielded ops a.tmps) then o.wp P a w (fun a' w' => S w' ∧ seqW rest a' w') Q else S w ∧ seqW rest (a.put o.dst undef) w)
    else ∃ v, YieldsIf P ops S o v a ∧ S w ∧ seqW rest (a.put o.dst v) w
/-- the same, the operations written beside their numbers -/
def seqL : List Nat → List (Option Oper) → Act → World → Prop
  | [], _, a, w => Q .normal a w
  | i :: rest, some o :: os, a, w =>
    if calls.contains i then (if Region.wanted o (yielded ops a.tmps) then o.wp P a w (fun a' w' => S w' ∧ seqL rest os a' w') Q else S w ∧ seqL rest os (a.put o.dst undef) w)
    else ∃ v, YieldsIf P ops S o v a ∧ S w ∧ seqL rest os (a.put o.dst v) w
  | _ :: _, _, _, _ => False
end
section
variable {P : Program} {ops : Array Oper} {S : World → Prop} {Q : Exit → Act → World → Prop} {calls : List Nat}
theorem seqL_list (is : List Nat) (a : Act) (w : World) (h : seqL P ops S Q calls is (is.map (fun i => ops[i]?)) a w) : seqW P ops S Q calls is a w := by
  induction is generalizing a w with
  | nil => exact h
  | cons i t ih =>
    rw [List.map_cons] at h
    cases ho : ops[i]? with
    | none => rw [ho] at h; exact h.elim
    | some o =>
      rw [ho] at h
      unfold seqL at h
      unfold seqW
      refine ⟨o, ho, ?_⟩
      cases hk : calls.contains i with
      | true =>
        rw [hk] at h
        simp only [if_true] at h ⊢
        cases hw : Region.wanted o (yielded ops a.tmps) with
        | true =>
          rw [hw] at h
          simp only [if_true] at h ⊢
          exact Oper.wp_mono (fun a' w' h' => ⟨h'.1, ih a' w' h'.2⟩) h
        | false =>
          rw [hw] at h
          simp only [Bool.false_eq_true, if_false] at h ⊢
          exact ⟨h.1, ih _ w h.2⟩
      | false =>
        rw [hk] at h
        simp only [Bool.false_eq_true, if_false] at h ⊢
        obtain ⟨v, hy, hS, hn⟩ := h
        exact ⟨v, hy, hS, ih _ w hn⟩
theorem seqL_take {i : Nat} {o : Oper} {rest : List Nat} {os : List (Option Oper)} {v : Value} {a : Act} {w : World} (hk : calls.contains i = false) (hy : YieldsIf P ops S o v a) (hS : S w) (h : seqL P ops S Q calls rest os (a.put o.dst v) w) :
    seqL P ops S Q calls (i :: rest) (some o :: os) a w := by
  unfold seqL
  rw [if_neg (by rw [hk]; simp)]
  exact ⟨v, hy, hS, h⟩
theorem seqL_call {i : Nat} {o : Oper} {rest : List Nat} {os : List (Option Oper)} {a : Act} {w : World} (hk : calls.contains i = true) (hw : Region.wanted o (yielded ops a.tmps) = true)
    (h : ∀ K : Act → World → Prop, Hid (∀ a' w', S w' → seqL P ops S Q calls rest os a' w' → K a' w') → o.wp P a w K Q) : seqL P ops S Q calls (i :: rest) (some o :: os) a w := by
  unfold seqL
  rw [if_pos hk, if_pos hw]
  exact h _ (show ∀ a' w', S w' → seqL P ops S Q calls rest os a' w' → S w' ∧ seqL P ops S Q calls rest os a' w' from fun a' w' h1 h2 => ⟨h1, h2⟩)
theorem seqL_skip {i : Nat} {o : Oper} {rest : List Nat} {os : List (Option Oper)} {a : Act} {w : World} (hk : calls.contains i = true) (hw : Region.wanted o (yielded ops a.tmps) = false) (hS : S w) (h : seqL P ops S Q calls rest os (a.put o.dst undef) w) :
    seqL P ops S Q calls (i :: rest) (some o :: os) a w := by
  unfold seqL
  rw [if_pos hk, if_neg (by rw [hw]; simp)]
  exact ⟨hS, h⟩
/-- the numbered region of a body -/
def regionN (n : Nat) : Code → Option (Array Oper)
  | .region m o _ => if m = n then some o else none
  | .seq a b => match regionN n a with
    | some c => some c
    | none => regionN n b
  | .block _ c => regionN n c
  | .scope c => regionN n c
  | .loop c => regionN n c
  | .cond _ a b => match regionN n a with
    | some c => some c
    | none => regionN n b
  | _ => none
theorem seqL_done {a : Act} {w : World} (h : Q .normal a w) : seqL P ops S Q calls [] [] a w := h
theorem y_row {o : Oper} {a : Act} {t : TypeId} {x : Operand} (ho : o.op = .load t x) (hw : Region.wanted o (yielded ops a.tmps) = true) {b : Nat} (hx : a.eval x = .pointer (some ⟨b, 0, none⟩)) {cs : Array Value} {e : TypeId} {z : Nat × Nat} (hb : ∀ w, S w → w.heap[b]? = some (.cells cs e z))
    {d : TypeDesc} (hu : P.underlying t = some d) (hd : d.isRow = true) (hi : (P.info? t).map (·.size) = some cs.size) : YieldsIf P ops S o (.agg cs) a :=
  .inl ⟨hw, fun w hs => by
    unfold execOp
    simp only [ho, hx, Instr.loadAt, Instr.sureAddr, Sem.run_bind, Sem.run_pure, Result.andThen_ok, run_loadVar_row w b e t cs z d (hb w hs) hu (by cases d <;> first | rfl | exact hd) hi]⟩
theorem y_skip {o : Oper} {a : Act} (hw : Region.wanted o (yielded ops a.tmps) = false) : YieldsIf P ops S o undef a := .inr ⟨hw, rfl⟩
theorem wpAnyH_of_seq (hs : Region.noSelect ops = true) (hQ : ∀ d v c a w, Q (.panic c) (Act.put a d v) w → Q (.panic c) a w) :
    ∀ (is : List Nat) (ls : Array Bool) (a : Act) (w : World), orderP ops calls ls is = true → Region.ready .any ops (updB ls is) = [] → seqW P ops S Q calls is a w → wpAnyH P .any ops Q S is.length ls a w := by
  intro is
  induction is with
  | nil => intro ls a w _ hr h; exact ⟨hr, h⟩
  | cons i t ih =>
    intro ls a w hc hr h
    unfold seqW at h
    obtain ⟨o, ho, h⟩ := h
    rw [orderP, Bool.and_eq_true] at hc
    obtain ⟨hc, hc'⟩ := hc
    have hr' : Region.ready .any ops (updB (ls.setIfInBounds i true) t) = [] := hr
    cases hk : calls.contains i with
    | true =>
      rw [hk] at h hc
      simp only [if_true, beq_iff_eq] at h hc
      refine wpAnyH_all hc (by simp) ?_
      intro j hj
      obtain rfl : j = i := by simpa using hj
      unfold wpOp
      simp only [ho]
      cases hw : Region.wanted o (yielded ops a.tmps) with
      | true =>
        rw [hw] at h
        rw [if_pos rfl]
        simp only [if_true] at h
        exact Or.inl (Oper.wp_mono (fun a' w' h' => ⟨h'.1, ih _ a' w' hc' hr' h'.2⟩) h)
      | false =>
        rw [hw] at h
        rw [if_neg (by simp)]
        simp only [Bool.false_eq_true, if_false] at h
        exact ⟨h.1, ih _ _ w hc' hr' h.2⟩
    | false =>
      rw [hk] at h hc
      simp only [Bool.false_eq_true, if_false, Bool.and_eq_true] at h hc
      obtain ⟨v, hy, hS, hn⟩ := h
      exact wpAnyH_take ho hs hc.1 hc.2 (fun c a w => hQ o.dst v c a w) hy hS (ih _ _ w hc' hr' hn)
theorem region_seq {id : Nat} {ops : Array Oper} {is : List Nat} {n : Nat} (hm : P.follows .mixedOrders = true) (hn : ops.size = n) (hl : is.length = n) (hs : Region.noSelect ops = true) (ho : orderP ops calls (Array.replicate n false) is = true) (hd : Region.ready .any ops (updB (Array.replicate n false) is) = [])
    {a : Act} {w : World} (h : seqL P ops S (NoPanic Q) calls is (is.map (fun i => ops[i]?)) a w.drew) : (Code.region id ops true).wp P Q a w := by
  refine wp_region_noPanic (wp_region_held (S := S) hm ?_)
  have h1 := wpAnyH_of_seq (P := P) (S := S) (Q := NoPanic Q) (calls := calls) hs (fun _ _ _ _ _ h => h) is _ a w.drew ho hd (seqL_list is a w.drew h)
  rw [hn]
  rw [hl] at h1
  exact h1
end
end Go.Proofs.Ytcapaiiegfedmaa
