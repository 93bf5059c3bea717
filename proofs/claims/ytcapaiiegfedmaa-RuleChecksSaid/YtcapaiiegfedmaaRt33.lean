/- flittingref02.Parse: what its loop keeps. · flittingref02.Parse. -/
import Derived.Test.YtcapaiiegfedmaaRt32
namespace Go.Proofs.Ytcapaiiegfedmaa
open Go.RowKit Go.Shelf
theorem elem_rq : Elem Try.prog 151 190 4 40 := elem_mk (z := .agg #[.int .i64 0, .slice none 0 0, .bool false, .bool false]) Try.underlying151 (by kernel_rfl) rfl (by omega)
def Ins5 (W : World) (l : List RQ) : Prop := ∀ q ∈ l, q.inn.length ≤ 100000 ∧ Row5 W q.A (bytesV q.inn)
theorem Ins5.ins {W : World} {l : List RQ} (h : Ins5 W l) : Ins W l := fun q hq => ⟨(h q hq).1, (h q hq).2.slc⟩
theorem Ins5.keep {W W' : World} {l : List RQ} (h : Ins5 W l) (hb : Below W.heap.size W W') : Ins5 W' l := fun q hq => ⟨(h q hq).1, (h q hq).2.keep hb⟩
theorem Row5.grown {W W' : World} {base n m : Nat} {v : Value} {xs vs : List Value} {A : Option Addr} (h : Row5 W A vs) (hown : W.ownsRow base 190 4 v n xs) (hg : W.grownBy W' v.ownBlock) : Row5 W' A vs :=
  h.kept fun g cur fz hh => hg.block g (Array.getElem?_eq_some_iff.1 hh).1 fun e => by
    rcases hown.2 with ⟨rfl, _⟩ | ⟨g', cap, cur', rfl, _, hh', _⟩
    · simp [Value.ownBlock] at e
    · simp only [Value.ownBlock, Option.some.injEq] at e
      subst e
      rw [hh] at hh'
      cases hh'
/-- the parts that have been read lie in the slice -/
def PrsW (w : World) (l : List RQ) (A : Option Addr) (c : Nat) (W : World) : Prop := W.ownsRow w.heap.size 190 4 (.slice A l.length c) l.length (l.flatMap rqV) ∧ Ins5 W l ∧ Below w.heap.size w W
theorem prs_start (w : World) : PrsW w [] none 0 w := ⟨World.ownsRow_nil _ _ _ _, fun q hq => (by cases hq), Below.refl _ _⟩
theorem PrsW.keep {w W W1 : World} {l : List RQ} {A : Option Addr} {c : Nat} (h : PrsW w l A c W) (hb : Below W.heap.size W W1) : PrsW w l A c W1 := ⟨own_keep h.1 hb, h.2.1.keep hb, h.2.2.trans (hb.mono h.2.2.size)⟩
theorem prs_step {w W1 w9 : World} {l : List RQ} {q : RQ} {A : Option Addr} {c g9 cap9 : Nat} (h : PrsW w l A c W1) (hq : q.inn.length ≤ 100000 ∧ Row5 W1 q.A (bytesV q.inn))
    (hown : w9.ownsRow w.heap.size 190 4 (.slice (some ⟨g9, 0, none⟩) (l.length + 1) cap9) (l.length + 1) (l.flatMap rqV ++ rqV q)) (hg : W1.grownBy w9 (Value.slice A l.length c).ownBlock) (hb : Below w.heap.size W1 w9) :
    PrsW w (l ++ [q]) (some ⟨g9, 0, none⟩) cap9 w9 := by
  refine ⟨?_, ?_, h.2.2.trans hb⟩
  · rw [List.flatMap_append, List.length_append]
    simpa using hown
  · intro x hx
    rcases List.mem_append.1 hx with hx | hx
    · exact ⟨(h.2.1 x hx).1, (h.2.1 x hx).2.grown (m := 0) h.1 hg⟩
    · rw [List.mem_singleton] at hx
      subst hx
      exact ⟨hq.1, hq.2.grown (m := 0) h.1 hg⟩
theorem RelL.nil : RelL [] [] := ⟨rfl, fun i q p h => by simp at h⟩
theorem RelL.snoc {l : List RQ} {ps : List Part} {q : RQ} {p : Part} (h : RelL l ps) (hq : RelP q p) : RelL (l ++ [q]) (ps ++ [p]) := by
  refine ⟨by rw [List.length_append, List.length_append, h.1]; rfl, fun i a b ha hb => ?_⟩
  by_cases hi : i < l.length
  · rw [List.getElem?_append_left hi] at ha
    rw [List.getElem?_append_left (by rw [← h.1]; exact hi)] at hb
    exact h.2 i a b ha hb
  · have hlt := (List.getElem?_eq_some_iff.1 ha).1
    rw [List.length_append, List.length_singleton] at hlt
    obtain rfl : i = l.length := by omega
    rw [List.getElem?_append_right (Nat.le_refl _), Nat.sub_self] at ha
    rw [h.1, List.getElem?_append_right (Nat.le_refl _), Nat.sub_self] at hb
    simp at ha hb
    subst ha; subst hb
    exact hq
theorem rel_two : RelP ⟨2, none, 0, [], false, false⟩ (anyB true, true) := .inr (.inr ⟨rfl, rfl⟩)
theorem rel_one : RelP ⟨1, none, 0, [], false, false⟩ (anyB false, true) := .inr (.inl ⟨rfl, rfl⟩)
theorem rel_any : RelP ⟨0, none, 0, [], false, true⟩ (anyB false, false) := .inl ⟨rfl, rfl, fun c => by simp [standsB, anyB]⟩
theorem rel_just (A : Option Addr) (k : Nat) (c : UInt8) : RelP ⟨0, A, k, [c], false, false⟩ (justB c, false) := .inl ⟨rfl, rfl, fun d => by
  show hasB [c] d = (d == c)
  unfold hasB
  rw [Bool.eq_iff_iff]
  simp⟩
theorem row_none (W : World) : Row5 W none (bytesV []) := .inl rfl
theorem row_new (W : World) (c : UInt8) : Row5 (W.alloc (.cells #[.int .u8 (c.toNat : Int)] 5)) (some ⟨W.heap.size, 0, none⟩) (bytesV [c]) := by
  have h := World.alloc_heap_new W (.cells #[.int .u8 (c.toNat : Int)] 5)
  refine .inr ⟨W.heap.size, _, _, rfl, h, fun i v hv => ?_⟩
  match i, hv with
  | 0, hv =>
    have e : byteV c = v := by simpa [bytesV] using hv
    subst e
    exact cell1 h
  | i + 1, hv => simp [bytesV] at hv
end Go.Proofs.Ytcapaiiegfedmaa
namespace Go.Proofs.Ytcapaiiegfedmaa
open Go.RowKit Go.Shelf
def RParseO (s : ByteArray) (o : Option (List Part)) (e : Ending) (w' : World) : Prop :=
  match o with
  | none => e = .returned (.tuple #[.slice none 0 0, .int .i64 (if 64 < s.size then 5 else 3)])
  | some ps => ∃ A c, ∃ l : List RQ, e = .returned (.tuple #[.slice A l.length c, .int .i64 0]) ∧ l.length ≤ c ∧ RelL l ps ∧ Slc w' A (l.flatMap rqV) ∧ Ins w' l
set_option maxRecDepth 100000 in
set_option maxHeartbeats 4000000 in
theorem rparse_walk : RParseC := by
  intro s hs w
  show Calls _ _ _ _ fun e w' => RParseO s (parseB (L s)) e w' ∧ Below w.heap.size w w'
  rw [parse_parts]
  by_cases h64 : 64 < s.size
  · have hq : decide ((64 : Int) < (s.size : Int)) = true := by simp; omega
    have HN : Hid ((if 64 < s.size then none else partsB (L s)) = none) := if_pos h64
    have HV : Hid ((if 64 < s.size then (5 : Int) else 3) = 5) := if_pos h64
    rw [HN.out]
    go_enter Try.func112, Try.ntmps112
    go_wp2_with fail
    go_ret2
    exact ⟨by show _ = _; rw [HV.out]; rfl, Below.refl _ _⟩
  · have hq : decide ((64 : Int) < (s.size : Int)) = false := by simp; omega
    have HN : Hid ((if 64 < s.size then none else partsB (L s)) = partsB (L s)) := if_neg h64
    have HV : Hid ((if 64 < s.size then (5 : Int) else 3) = 3) := if_neg h64
    have hs64 : s.size ≤ 64 := by omega
    rw [HN.out]
    go_enter Try.func112, Try.ntmps112
    go_wp2_with fail
    have HS := Lib.hid (prs_start w)
    go_loopw [4, 5] (fun v i wr => ∃ (k : Nat) (l : List RQ) (ps : List Part) (A : Option Addr) (c : Nat), k ≤ s.size ∧ i = .int .i64 k ∧ l.length ≤ k ∧ v = .slice A l.length c ∧ Hid (RelL l ps) ∧ Hid (partsB (L s) = (partsB ((L s).drop k)).map (ps ++ ·)) ∧ Hid (PrsW w l A c wr))
      (fun _ i _ => s.size - (intOf i).toNat)
    case atStart => exact ⟨0, [], [], none, 0, Nat.zero_le _, rfl, Nat.le_refl _, rfl, RelL.nil, parts_start s, HS.out⟩
    case round =>
      clear HS
      obtain ⟨k, l, ps, A1, c1, hk, rfl, hl, rfl, HRL, HP, HW⟩ := hrel
      by_cases hlt : k < s.size
      case neg =>
        obtain rfl : k = s.size := by omega
        have HE := Lib.hid (parts_end s ps HP.out)
        have hcap := own_cap HW.out.1
        have HC := Lib.hid hcap
        clear hcap
        go_wp2_with fail
        go_ret2
        rw [HE.out]
        obtain ⟨A2, c2, he, hcc, hsl⟩ := own_form HW.out.1
        cases he
        exact ⟨⟨A1, c1, l, rfl, HC.out, HRL.out, hsl, HW.out.2.1.ins⟩, HW.out.2.2⟩
      have hi0 : (0 : Int) ≤ (k : Int) := Int.natCast_nonneg _
      have hi1 : (k : Int) < (s.size : Int) := by omega
      have e42 := beq_byte s[k] 42 42 rfl
      have e63 := beq_byte s[k] 63 63 rfl
      have e91 := bne_byte s[k] 91 91 rfl
      have e92 := beq_byte s[k] 92 92 rfl
      by_cases h42 : s[k] = 42
      · have q42 : ((s[k].toNat : Int) == 42) = true := by rw [e42]; simpa using h42
        clear e42 e63 e91 e92
        by_cases hk1 : k + 1 < s.size
        · have hd1 : decide ((k : Int) + 1 < (s.size : Int)) = true := by simp; omega
          have hb1 : (k : Int) + 1 < (s.size : Int) := by omega
          have hb2 : (0 : Int) ≤ (k : Int) + 1 := by omega
          by_cases h2 : s[k + 1] = 42
          · have q2 : ((s[k + 1].toNat : Int) == 42) = true := by rw [beq_byte _ 42 42 rfl]; simpa using h2
            have HPN := Lib.hid (parts_step s k (k + 2) ps _ hlt HP.out (one_star2 s k hk1 h42 h2))
            clear h42 h2 HP
            have hown := HW.out.1
            go_wp2_with (at_builtin; refine wpList_app1 rfl _ _ 151 rfl elem_rq rfl (hown.alloc _) (cs := [.int .i64 2, .slice none 0 0, .bool false, .bool false]) rfl (heap_alloc_new _ _) rfl (by intro u hu; simp at hu; rcases hu with rfl | rfl | rfl <;> rfl) (by omega) (by omega) (by have := HW.out.2.2.size; simp only [World.size_alloc]; omega) ?_; intro g9 cap9 w9 hown9 hgr9 hb9)
            go_roundw
            case rel => exact ⟨k + 2, l ++ [(⟨2, none, 0, [], false, false⟩ : RQ)], ps ++ [_], some ⟨g9, 0, none⟩, cap9, by omega, by go_num, by simp; omega, by simp, HRL.out.snoc rel_two, HPN.out, prs_step (q := ⟨2, none, 0, [], false, false⟩) (HW.out.keep ((Below.refl _ _).alloc (Nat.le_refl _) _)) ⟨Nat.zero_le _, row_none _⟩ hown9 hgr9 hb9⟩
            case measure => simp [intOf]; omega
          · have q2 : ((s[k + 1].toNat : Int) == 42) = false := by rw [beq_byte _ 42 42 rfl]; simpa using h2
            have HPN := Lib.hid (parts_step s k (k + 1) ps _ hlt HP.out (one_star1 s k hlt h42 (fun _ => h2)))
            clear h42 h2 HP
            have hown := HW.out.1
            go_wp2_with (at_builtin; refine wpList_app1 rfl _ _ 151 rfl elem_rq rfl (hown.alloc _) (cs := [.int .i64 1, .slice none 0 0, .bool false, .bool false]) rfl (heap_alloc_new _ _) rfl (by intro u hu; simp at hu; rcases hu with rfl | rfl | rfl <;> rfl) (by omega) (by omega) (by have := HW.out.2.2.size; simp only [World.size_alloc]; omega) ?_; intro g9 cap9 w9 hown9 hgr9 hb9)
            go_roundw
            case rel => exact ⟨k + 1, l ++ [(⟨1, none, 0, [], false, false⟩ : RQ)], ps ++ [_], some ⟨g9, 0, none⟩, cap9, by omega, by go_num, by simp; omega, by simp, HRL.out.snoc rel_one, HPN.out, prs_step (q := ⟨1, none, 0, [], false, false⟩) (HW.out.keep ((Below.refl _ _).alloc (Nat.le_refl _) _)) ⟨Nat.zero_le _, row_none _⟩ hown9 hgr9 hb9⟩
            case measure => simp [intOf]; omega
        · have hd1 : decide ((k : Int) + 1 < (s.size : Int)) = false := by simp; omega
          have HPN := Lib.hid (parts_step s k (k + 1) ps _ hlt HP.out (one_star1 s k hlt h42 (fun h => absurd h hk1)))
          clear h42 HP
          have hown := HW.out.1
          go_wp2_with (at_builtin; refine wpList_app1 rfl _ _ 151 rfl elem_rq rfl (hown.alloc _) (cs := [.int .i64 1, .slice none 0 0, .bool false, .bool false]) rfl (heap_alloc_new _ _) rfl (by intro u hu; simp at hu; rcases hu with rfl | rfl | rfl <;> rfl) (by omega) (by omega) (by have := HW.out.2.2.size; simp only [World.size_alloc]; omega) ?_; intro g9 cap9 w9 hown9 hgr9 hb9)
          go_roundw
          case rel => exact ⟨k + 1, l ++ [(⟨1, none, 0, [], false, false⟩ : RQ)], ps ++ [_], some ⟨g9, 0, none⟩, cap9, by omega, by go_num, by simp; omega, by simp, HRL.out.snoc rel_one, HPN.out, prs_step (q := ⟨1, none, 0, [], false, false⟩) (HW.out.keep ((Below.refl _ _).alloc (Nat.le_refl _) _)) ⟨Nat.zero_le _, row_none _⟩ hown9 hgr9 hb9⟩
          case measure => simp [intOf]; omega
      have q42 : ((s[k].toNat : Int) == 42) = false := by rw [e42]; simpa using h42
      by_cases h63 : s[k] = 63
      · have q63 : ((s[k].toNat : Int) == 63) = true := by rw [e63]; simpa using h63
        clear e42 e63 e91 e92
        have HPN := Lib.hid (parts_step s k (k + 1) ps _ hlt HP.out (one_any s k hlt h63))
        clear h42 h63 HP
        have hown := HW.out.1
        go_wp2_with (at_builtin; refine wpList_app1 rfl _ _ 151 rfl elem_rq rfl (hown.alloc _) (cs := [.int .i64 0, .slice none 0 0, .bool false, .bool true]) rfl (heap_alloc_new _ _) rfl (by intro u hu; simp at hu; rcases hu with rfl | rfl | rfl | rfl <;> rfl) (by omega) (by omega) (by have := HW.out.2.2.size; simp only [World.size_alloc]; omega) ?_; intro g9 cap9 w9 hown9 hgr9 hb9)
        go_roundw
        case rel => exact ⟨k + 1, l ++ [(⟨0, none, 0, [], false, true⟩ : RQ)], ps ++ [_], some ⟨g9, 0, none⟩, cap9, by omega, by go_num, by simp; omega, by simp, HRL.out.snoc rel_any, HPN.out, prs_step (q := ⟨0, none, 0, [], false, true⟩) (HW.out.keep ((Below.refl _ _).alloc (Nat.le_refl _) _)) ⟨Nat.zero_le _, row_none _⟩ hown9 hgr9 hb9⟩
        case measure => simp [intOf]; omega
      have q63 : ((s[k].toNat : Int) == 63) = false := by rw [e63]; simpa using h63
      by_cases h92 : s[k] = 92
      · have q92 : ((s[k].toNat : Int) == 92) = true := by rw [e92]; simpa using h92
        clear e42 e63 e91 e92
        by_cases hk1 : k + 1 < s.size
        · have hd1 : decide ((s.size : Int) ≤ (k : Int) + 1) = false := by simp; omega
          have hb1 : (k : Int) + 1 < (s.size : Int) := by omega
          have hb2 : (0 : Int) ≤ (k : Int) + 1 := by omega
          have HPN := Lib.hid (parts_step s k (k + 2) ps _ hlt HP.out (one_esc s k hk1 h92))
          clear h42 h63 h92 HP
          have hown := HW.out.1
          have HR5 := Lib.hid (row_new wr (s[k + 1]))
          go_wp2_with (at_builtin; refine wpList_app1 rfl _ _ 151 rfl elem_rq rfl ((hown.alloc _).alloc _) (cs := [.int .i64 0, .slice (some ⟨wr.heap.size, 0, none⟩) 1 1, .bool false, .bool false]) rfl (new2 _ _ _) rfl (by intro u hu; simp at hu; rcases hu with rfl | rfl | rfl <;> rfl) (by omega) (by omega) (by have := HW.out.2.2.size; simp only [World.size_alloc]; omega) ?_; intro g9 cap9 w9 hown9 hgr9 hb9)
          go_roundw
          case rel => exact ⟨k + 2, l ++ [(⟨0, some ⟨wr.heap.size, 0, none⟩, 1, [s[k + 1]], false, false⟩ : RQ)], ps ++ [_], some ⟨g9, 0, none⟩, cap9, by omega, by go_num, by simp; omega, by simp, HRL.out.snoc (rel_just _ _ _), HPN.out, prs_step (q := ⟨0, some ⟨wr.heap.size, 0, none⟩, 1, [s[k + 1]], false, false⟩) (HW.out.keep (((Below.refl _ _).alloc (Nat.le_refl _) _).alloc (by simp) _)) ⟨by show (1 : Nat) ≤ 100000; omega, HR5.out.keep ((Below.refl _ _).alloc (Nat.le_refl _) _)⟩ hown9 hgr9 hb9⟩
          case measure => simp [intOf]; omega
        · have hd1 : decide ((s.size : Int) ≤ (k : Int) + 1) = true := by simp; omega
          have HE := Lib.hid (parts_none s k ps hlt HP.out (one_last s k hlt h92 (by omega)))
          clear h42 h63 h92 HP
          go_wp2_with fail
          go_ret2
          rw [HE.out]
          exact ⟨by show _ = _; rw [HV.out]; rfl, HW.out.2.2⟩
      have q92 : ((s[k].toNat : Int) == 92) = false := by rw [e92]; simpa using h92
      by_cases h91 : s[k] = 91
      · have q91 : ((s[k].toNat : Int) != 91) = false := by rw [e91]; simpa using h91
        have HO := Lib.hid (one_class s k hlt h91)
        clear e42 e63 e91 e92 h42 h63 h92 h91
        have O1 := Lib.hid (fun W => rmem_walk s hs64 (k + 1) (by omega) W)
        have hb2 : (k : Int) + 1 = ((k + 1 : Nat) : Int) := by omega
        have HB2 := Lib.hid hb2
        clear hb2
        cases ho : classB ((L s).drop (k + 1)) with
        | none =>
          rw [ho] at O1
          have HE := Lib.hid (parts_none s k ps hlt HP.out (HO.out.trans ho))
          clear ho HP
          go_wp2_with (go_at_call 135; refine (O1.out _).mono ?_; rintro e2 w2 ⟨h2, hb2⟩; have h2 := h2; unfold MemRes at h2; subst h2)
          go_ret2
          rw [HE.out]
          exact ⟨by show _ = _; rw [HV.out]; rfl, (HW.out.2.2.trans (hb2.mono HW.out.2.2.size)).alloc (Nat.le_trans HW.out.2.2.size hb2.size) _⟩
        | some pr =>
          obtain ⟨p0, r0⟩ := pr
          rw [ho] at O1
          have HOO := Lib.hid (HO.out.trans ho)
          clear ho
          go_wp2_with (first | (go_at_call 135; refine (O1.out _).mono ?_; rintro e2 w2 ⟨⟨q, nx, hnx, hr, h2, hrp, hql, hr5⟩, hb2⟩; subst h2; have hon := one_on s k nx p0 hlt hnx (by rw [HOO.out, hr]); have HPN := Lib.hid (parts_step s k nx ps p0 hlt HP.out (by rw [HOO.out, hr])); have HR5 := Lib.hid hr5; have HRP := Lib.hid hrp; have HW2 := Lib.hid (HW.out.keep hb2); have hbs := hb2.size; clear hr5 hrp hb2 hr; have hown := HW2.out.1) | (at_builtin; refine wpList_app1 rfl _ _ 151 rfl elem_rq rfl ((hown.alloc _).alloc _) (cs := [.int .i64 q.many, .slice q.A q.inn.length q.cap, .bool q.no, .bool q.any]) rfl (new2 _ _ _) rfl (by intro u hu; simp at hu; rcases hu with rfl | rfl | rfl | rfl <;> rfl) (by omega) (by omega) (by have := HW2.out.2.2.size; simp only [World.size_alloc]; omega) ?_; intro g9 cap9 w9 hown9 hgr9 hb9))
          go_roundw
          case rel => exact ⟨nx, l ++ [q], ps ++ [p0], some ⟨g9, 0, none⟩, cap9, by omega, by go_num, by simp; omega, by simp, HRL.out.snoc HRP.out, HPN.out, prs_step (q := q) ((HW2.out.keep ((Below.refl _ _).alloc (Nat.le_refl _) _)).keep ((Below.refl _ _).alloc (Nat.le_refl _) _)) ⟨hql, (HR5.out.keep ((Below.refl _ _).alloc (Nat.le_refl _) _)).keep ((Below.refl _ _).alloc (Nat.le_refl _) _)⟩ hown9 hgr9 hb9⟩
          case measure => simp [intOf]; omega
      have q91 : ((s[k].toNat : Int) != 91) = true := by rw [e91]; simpa using h91
      clear e42 e63 e91 e92
      have HPN := Lib.hid (parts_step s k (k + 1) ps _ hlt HP.out (one_else s k hlt h42 h63 h91 h92))
      clear h42 h63 h92 h91 HP
      have hown := HW.out.1
      have HR5 := Lib.hid (row_new wr (s[k]))
      go_wp2_with (at_builtin; refine wpList_app1 rfl _ _ 151 rfl elem_rq rfl ((hown.alloc _).alloc _) (cs := [.int .i64 0, .slice (some ⟨wr.heap.size, 0, none⟩) 1 1, .bool false, .bool false]) rfl (new2 _ _ _) rfl (by intro u hu; simp at hu; rcases hu with rfl | rfl | rfl <;> rfl) (by omega) (by omega) (by have := HW.out.2.2.size; simp only [World.size_alloc]; omega) ?_; intro g9 cap9 w9 hown9 hgr9 hb9)
      go_roundw
      case rel => exact ⟨k + 1, l ++ [(⟨0, some ⟨wr.heap.size, 0, none⟩, 1, [s[k]], false, false⟩ : RQ)], ps ++ [_], some ⟨g9, 0, none⟩, cap9, by omega, by go_num, by simp; omega, by simp, HRL.out.snoc (rel_just _ _ _), HPN.out, prs_step (q := ⟨0, some ⟨wr.heap.size, 0, none⟩, 1, [s[k]], false, false⟩) (HW.out.keep (((Below.refl _ _).alloc (Nat.le_refl _) _).alloc (by simp) _)) ⟨by show (1 : Nat) ≤ 100000; omega, HR5.out.keep ((Below.refl _ _).alloc (Nat.le_refl _) _)⟩ hown9 hgr9 hb9⟩
      case measure => simp [intOf]; omega
end Go.Proofs.Ytcapaiiegfedmaa
