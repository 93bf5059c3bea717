/- edit.Parse: edits read of lines. -/
import Derived.Test.YtcapaiiegfedmaaDoorDK
import Derived.Deep.RegionHeld3
namespace Go.Proofs.YtcapaiiegfedmaaDoor
open Go.RowKit Go.Shelf
theorem elem_edit : Elem Tryd.prog 25 23 4 48 := elem_mk (z := .agg #[.int .i64 0, .string ⟨#[]⟩, .string ⟨#[]⟩, .int .i64 0]) Tryd.underlying25 (by kernel_rfl) rfl (by omega)
theorem second_new2 (w : World) (o o2 : Obj) : ((w.alloc o).alloc o2).heap[w.heap.size + 1]? = some o2 := by
  have := World.alloc_heap_new (w.alloc o) o2
  rwa [World.size_alloc] at this
def errP (m : Int) : Int := if m = 0 then 0 else 3
theorem errP_ok : errP 0 = 0 := rfl
theorem errP_bad (n : Int) (h : ¬ n = 0) : errP n = 3 := if_neg h
def strM : Value → Nat
  | .string s => s.size
  | _ => 0
theorem four_new2 {w : World} {b : Nat} {v0 v1 v2 v3 : Value} {t : TypeId} (h : w.heap[b]? = some (.cells #[v0, v1, v2, v3] t (0, 0))) : w.cell? ⟨b, 0, none⟩ = some v0 ∧ w.cell? ⟨b, 1, none⟩ = some v1 ∧ w.cell? ⟨b, 2, none⟩ = some v2 ∧ w.cell? ⟨b, 3, none⟩ = some v3 := by simp [World.cell?, h]
theorem readE_yes (line : ByteArray) (hs : line.size ≤ 1000) (k : Int) (f t : Bs) (n : Int) (h : lineO (L line) = some (k, f, t, n)) (W : World) :
    Calls Tryd.prog 13 #[.string line] W fun e w' => e = .returned (.tuple #[.agg #[.int .i64 k, .string (B f), .string (B t), .int .i64 n], .int .i64 0]) ∧ Below W.heap.size W w' := by
  refine (eread_walk line hs W).mono fun e w' ⟨⟨o, ho, he⟩, hb⟩ => ⟨?_, hb⟩
  rw [lineO_eq ho, h] at he
  exact he
theorem readE_no (line : ByteArray) (hs : line.size ≤ 1000) (h : lineO (L line) = none) (W : World) :
    Calls Tryd.prog 13 #[.string line] W fun e w' => e = .returned (.tuple #[.agg #[.int .i64 0, .string ⟨#[]⟩, .string ⟨#[]⟩, .int .i64 0], .int .i64 3]) ∧ Below W.heap.size W w' := by
  refine (eread_walk line hs W).mono fun e w' ⟨⟨o, ho, he⟩, hb⟩ => ⟨?_, hb⟩
  rw [lineO_eq ho, h] at he
  exact he
theorem readF_yes (line : ByteArray) (hs : line.size ≤ 1000) (k : Int) (f t : Bs) (n : Int) (h : lineO (L line) = some (k, f, t, n)) (W : World) :
    Calls Tryd.prog 14 #[.string line] W fun e w' => e = .returned (.tuple #[.agg #[.int .i64 k, .string (B f), .string (B t), .int .i64 n], .bool true]) ∧ Below W.heap.size W w' := by
  refine (rread_walk line hs W).mono fun e w' ⟨⟨o, ho, he⟩, hb⟩ => ⟨?_, hb⟩
  rw [lineO_eq ho, h] at he
  exact he
theorem readF_no (line : ByteArray) (hs : line.size ≤ 1000) (h : lineO (L line) = none) (W : World) :
    Calls Tryd.prog 14 #[.string line] W fun e w' => e = .returned (.tuple #[.agg #[.int .i64 0, .string ⟨#[]⟩, .string ⟨#[]⟩, .int .i64 0], .bool false]) ∧ Below W.heap.size W w' := by
  refine (rread_walk line hs W).mono fun e w' ⟨⟨o, ho, he⟩, hb⟩ => ⟨?_, hb⟩
  rw [lineO_eq ho, h] at he
  exact he
theorem editsV_app (a b : List EditD) : (a ++ b).flatMap eV = a.flatMap eV ++ b.flatMap eV := List.flatMap_append
theorem eV_is (k : Int) (f t : Bs) (n : Int) : [((k, f, t, n) : EditD)].flatMap eV = [.int .i64 k, .string (B f), .string (B t), .int .i64 n] := by simp [eV, strV]
set_option maxRecDepth 100000 in
set_option maxHeartbeats 4000000 in
theorem editParse_walk (s : ByteArray) (hs : s.size ≤ 100000) (hsh : Sh (L s)) (w : World) : Calls Tryd.prog 16 #[.string s] w fun e w' =>
    ∃ A c, e = .returned (.tuple #[.slice A (readP 1 (L s)).1.length c, .int .i64 (readP 1 (L s)).2, .int .i64 (errP (readP 1 (L s)).2)]) ∧ (readP 1 (L s)).1.length ≤ c ∧ Slc w' A ((readP 1 (L s)).1.flatMap eV) ∧ Below w.heap.size w w' := by
  go_enter Tryd.func16, Tryd.ntmps16
  go_wp2_with fail
  go_loopw [0, 5, 6] (fun v o i wr => ∃ (rest : ByteArray) (acc : List EditD) (n : Nat), v = .string rest ∧ i = .int .i64 n ∧ 1 ≤ n ∧ acc.length + 1 = n ∧ acc.length + rest.size ≤ 100000 ∧ Hid (Sh (L rest)) ∧ Hid (readP 1 (L s) = preP acc (readP n (L rest))) ∧
      (∃ A c, o = .slice A acc.length c ∧ wr.ownsRow w.heap.size 23 4 (.slice A acc.length c) acc.length (acc.flatMap eV)) ∧ Hid (Below w.heap.size w wr)) (fun v _ _ _ => strM v)
  case atStart => exact ⟨s, [], 1, rfl, rfl, Nat.le_refl _, rfl, by simp; omega, hsh, (show _ = _ from (preP_nil (readP 1 (L s)) (readP_shape _ _)).symm), ⟨none, 0, rfl, World.ownsRow_nil _ _ _ _⟩, Below.refl _ _⟩
  case round =>
    clear hsh
    obtain ⟨rest, acc, n, rfl, rfl, hn1, hna, hnr, HSH, HR, ⟨A1, c1, rfl, hown⟩, HBR⟩ := hrel
    have hbrs := HBR.out.size
    by_cases he : L rest = []
    · have hemp : rest.toList.isEmpty = true := by rw [L_toList, he]; rfl
      have HE : Hid (readP 1 (L s) = (acc, 0)) := by show _ = _; rw [HR.out, he, readP_nil]; simp [preP]
      obtain ⟨A2, c2, he2, hcap, hsl⟩ := own_form hown
      cases he2
      have HSL := Lib.hid hsl
      clear hown hsl he
      go_wp2_with fail
      refine bodyPost_ret (results_tmp3 rfl _ _ _) rfl ?_
      rw [HE.out]
      exact ⟨A1, c1, rfl, hcap, HSL.out, HBR.out⟩
    · have hemp : rest.toList.isEmpty = false := by rw [L_toList]; simpa using he
      have C1 := Lib.hid (fun X => cut1_walk rest (by omega) 10 X)
      rcases idx_at 10 (L rest) with ⟨_, hno⟩ | ⟨a, t, hat, hno, _⟩
      · have HE : Hid (readP 1 (L s) = ([], (n : Int))) := by show _ = _; rw [HR.out, readP_open n _ he hno, preP_bad _ _ (by omega)]
        have hop := HSH.out.open hno
        rw [L_len] at hop
        have hbe := before_no 10 (L rest) hno
        rw [show decide (10 ∈ L rest) = false by simpa using hno, hbe.1, B_L] at C1
        have hn0 : ¬ (n : Int) = 0 := by omega
        obtain ⟨k, f, t, m, c, K1⟩ : ∃ (k : Int) (f t : ByteArray) (m c : Int), ∀ W, Calls Tryd.prog 13 #[.string rest] W fun e w' => e = .returned (.tuple #[.agg #[.int .i64 k, .string f, .string t, .int .i64 m], .int .i64 c]) ∧ Below W.heap.size W w' := by
          cases ho : lineO (L rest) with
          | none => exact ⟨_, _, _, _, _, readE_no rest hop ho⟩
          | some e => exact ⟨_, _, _, _, _, readE_yes rest hop e.1 e.2.1 e.2.2.1 e.2.2.2 ho⟩
        have K1 := Lib.hid K1
        clear he hno hbe hop
        go_wp2_with (first | (go_at_call 35; refine (C1.out _).mono ?_; rintro e w1 ⟨rfl, nd, rfl⟩; have HBQ : Hid (Below w.heap.size w (wr.drewN nd)) := below_draw HBR.out) | (go_at_call 13; refine (K1.out _).mono ?_; rintro e w8 ⟨rfl, hb8⟩; have HB8 := Lib.hid ((HBQ.out.trans (hb8.mono HBQ.out.size)).alloc (Nat.le_trans HBQ.out.size hb8.size) (.cells #[.int .i64 k, .string f, .string t, .int .i64 m] 23))))
        refine bodyPost_ret (results_tmp3 rfl _ _ _) rfl ?_
        rw [HE.out]
        rw [show ((([], (n : Int)) : ReadP).2) = (n : Int) from rfl, errP_bad _ hn0]
        exact ⟨none, 0, rfl, Nat.le_refl _, .inl rfl, HB8.out⟩
      · have hba := before_app 10 a t hno
        have hmem : 10 ∈ L rest := by rw [hat]; simp
        have hal : a.length + 1 + t.length = rest.size := by rw [← L_len, hat]; simp; omega
        have hbe : before 10 (L rest) = a := by rw [hat]; exact hba.1
        have haf : after 10 (L rest) = t := by rw [hat]; exact hba.2
        obtain ⟨hcl, hct⟩ := HSH.out.cut hno hat
        rw [hbe, haf, show decide (10 ∈ L rest) = true by simpa using hmem] at C1
        obtain ⟨one, hone⟩ : ∃ one, B a = one := ⟨_, rfl⟩
        have hla : a = L one := by rw [← hone, L_B]
        rw [hone] at C1
        have hos : one.size = a.length := by rw [← hone, B_size]
        cases ho : lineO a with
        | none =>
          have HE : Hid (readP 1 (L s) = ([], (n : Int))) := by show _ = _; rw [HR.out, hat, readP_bad n a t hno ho, preP_bad _ _ (by omega)]
          have hn0 : ¬ (n : Int) = 0 := by omega
          have K1 := Lib.hid (readE_no one (by omega) (by rw [← hla]; exact ho))
          clear he hno hba hmem hbe haf hat hal hct hcl hone hla ho
          go_wp2_with (first | (go_at_call 35; refine (C1.out _).mono ?_; rintro e w1 ⟨rfl, nd, rfl⟩; have HBQ : Hid (Below w.heap.size w (wr.drewN nd)) := below_draw HBR.out) | (go_at_call 13; refine (K1.out _).mono ?_; rintro e w8 ⟨rfl, hb8⟩; have HB8 := Lib.hid ((HBQ.out.trans (hb8.mono HBQ.out.size)).alloc (Nat.le_trans HBQ.out.size hb8.size) (.cells #[.int .i64 0, .string ⟨#[]⟩, .string ⟨#[]⟩, .int .i64 0] 23))))
          refine bodyPost_ret (results_tmp3 rfl _ _ _) rfl ?_
          rw [HE.out]
          rw [show ((([], (n : Int)) : ReadP).2) = (n : Int) from rfl, errP_bad _ hn0]
          exact ⟨none, 0, rfl, Nat.le_refl _, .inl rfl, HB8.out⟩
        | some e =>
          obtain ⟨k, f, t', m⟩ := e
          have HN : Hid (readP 1 (L s) = preP (acc ++ [(k, f, t', m)]) (readP (n + 1) (L (B t)))) := by
            show _ = _
            rw [HR.out, hat, readP_step n a t _ hno ho, preP_pre, L_B]
          have K1 := Lib.hid (readE_yes one (by omega) k f t' m (by rw [← hla]; exact ho))
          have HCT := Lib.hid hct
          have HEV := Lib.hid (eV_is k f t' m)
          clear he hno hba hmem hbe haf hat hct hcl hone hla ho
          generalize B f = fb at *
          generalize B t' = tb at *
          go_wp2_with (first | (go_at_call 35; refine (C1.out _).mono ?_; rintro e w1 ⟨rfl, nd, rfl⟩; have HBQ : Hid (Below w.heap.size w (wr.drewN nd)) := below_draw HBR.out; have hownq : World.ownsRow (wr.drewN nd) _ _ _ _ _ _ := hown) | (go_at_call 13; refine (K1.out _).mono ?_; rintro e w8 ⟨rfl, hb8⟩; have hb88 : Below w.heap.size w w8 := HBQ.out.trans (hb8.mono HBQ.out.size); have hown8 := (own_keep hownq hb8).alloc (.cells #[.int .i64 k, .string fb, .string tb, .int .i64 m] 23); have hX8 := World.alloc_heap_new w8 (.cells #[.int .i64 k, .string fb, .string tb, .int .i64 m] 23); obtain ⟨y0, y1, y2, y3⟩ := four_new2 hX8; clear hX8; have hs88 := hb88.size) | (at_builtin; refine wpList_app1 rfl _ _ 25 rfl elem_edit rfl (hown8.alloc _) (cs := [.int .i64 k, .string fb, .string tb, .int .i64 m]) rfl (second_new2 _ _ _) rfl (by intro u hu; simp at hu; rcases hu with rfl | rfl | rfl | rfl <;> rfl) (by omega) (by omega) (by simp only [World.size_alloc]; omega) ?_; intro g9 cap9 w9 hown9 hgr9 hb9))
          refine ⟨⟨B t, acc ++ [(k, f, t', m)], n + 1, rfl, by first | rfl | go_num, by omega, by simp; omega, by simp; omega, HCT.out, HN.out, ⟨some ⟨g9, 0, none⟩, cap9, by rw [List.length_append, List.length_singleton, hna], ?_⟩, ((hb88.alloc hb88.size _).alloc (by simp; omega) _).trans hb9⟩, by simp [strM]; omega⟩
          rw [editsV_app, List.length_append, HEV.out]
          exact hown9
end Go.Proofs.YtcapaiiegfedmaaDoor
