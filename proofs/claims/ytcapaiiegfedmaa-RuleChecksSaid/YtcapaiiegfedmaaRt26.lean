/- The document's match: its drawn region's order. (printed by gen_ord.py) · flittingref02.Match: row by row, the last part first. (printed by gen_rk.py) -/
import Derived.Test.YtcapaiiegfedmaaRt25
namespace Go.Proofs.Ytcapaiiegfedmaa
open Go.RowKit
noncomputable def opsM11 : Array Oper := ((Try.f113.body.bind (regionN 11)).getD #[])
def callsM11 : List Nat := [14, 24]
theorem noselM11 : Region.noSelect opsM11 = true := by kernel_rfl
theorem sizeM11 : opsM11.size = 25 := by kernel_rfl
def chM11_0 : List Nat := [0, 1, 2, 3, 4, 5, 6, 7, 8, 9, 10, 11]
def chM11_1 : List Nat := [12, 13, 14, 15, 16, 17, 18, 19, 20, 21, 22, 23, 24]
def ixM11 : List Nat := chM11_0 ++ chM11_1
theorem ixM11_lit : ixM11 = [0, 1, 2, 3, 4, 5, 6, 7, 8, 9, 10, 11, 12, 13, 14, 15, 16, 17, 18, 19, 20, 21, 22, 23, 24] := rfl
theorem ordM11_0 : orderP opsM11 callsM11 (updB (Array.replicate 25 false) ([])) chM11_0 = true := by kernel_rfl
theorem ordM11_1 : orderP opsM11 callsM11 (updB (Array.replicate 25 false) ([] ++ chM11_0)) chM11_1 = true := by kernel_rfl
theorem doneM11 : Region.ready .any opsM11 (updB (Array.replicate 25 false) ixM11) = [] := by kernel_rfl
theorem orderM11 : orderP opsM11 callsM11 (Array.replicate 25 false) ixM11 = true := by
  have h0 : orderP opsM11 callsM11 (Array.replicate 25 false) chM11_0 = true := ordM11_0
  have h1 : orderP opsM11 callsM11 (Array.replicate 25 false) (chM11_0 ++ chM11_1) = true := by rw [orderP_app, h0, Bool.true_and]; exact ordM11_1
  exact h1
theorem regionM11 {ops : Array Oper} (hops : ops = opsM11) {S : World → Prop} {Q : Exit → Act → World → Prop} {a : Act} {w : World} (h : seqL Try.prog ops S (NoPanic Q) callsM11 ixM11 (ixM11.map (fun i => ops[i]?)) a w.drew) : (Code.region 11 ops true).wp Try.prog Q a w := by
  subst hops
  exact region_seq (by kernel_rfl) sizeM11 rfl noselM11 orderM11 doneM11 h
end Go.Proofs.Ytcapaiiegfedmaa
namespace Go.Proofs.Ytcapaiiegfedmaa
open Go.RowKit Go.Shelf
def mG (ps : List Part) (t : Bs) (k i : Nat) : Bool := matchB (ps.drop k) (t.drop i)
theorem mG_one (ps : List Part) (s : ByteArray) (k i : Nat) (p : Part) (hk : ps[k]? = some p) (h2 : p.2 = false) (hi : i < s.size) : mG ps (L s) k i = (p.1 s[i] && mG ps (L s) (k + 1) (i + 1)) := by
  obtain ⟨hlt, hv⟩ := List.getElem?_eq_some_iff.1 hk
  unfold mG
  rw [← List.getElem_cons_drop hlt, hv, drop_cons s i hi, matchB, if_neg (by rw [h2]; simp)]
theorem mG_one_end (ps : List Part) (s : ByteArray) (k : Nat) (p : Part) (hk : ps[k]? = some p) (h2 : p.2 = false) : mG ps (L s) k s.size = false := by
  obtain ⟨hlt, hv⟩ := List.getElem?_eq_some_iff.1 hk
  unfold mG
  rw [← List.getElem_cons_drop hlt, hv, drop_none s s.size (Nat.le_refl _), matchB, if_neg (by rw [h2]; simp)]
theorem mG_many (ps : List Part) (s : ByteArray) (k i : Nat) (p : Part) (hk : ps[k]? = some p) (h2 : p.2 = true) (hi : i < s.size) : mG ps (L s) k i = (mG ps (L s) (k + 1) i || (p.1 s[i] && mG ps (L s) k (i + 1))) := by
  obtain ⟨hlt, hv⟩ := List.getElem?_eq_some_iff.1 hk
  unfold mG
  have e : ∀ u, matchB (p :: ps.drop (k + 1)) u = starM p.1 (matchB (ps.drop (k + 1))) u := fun u => by cases u <;> rw [matchB, if_pos h2]
  rw [← List.getElem_cons_drop hlt, hv, e, e, drop_cons s i hi, starM]
theorem mG_many_end (ps : List Part) (s : ByteArray) (k : Nat) (p : Part) (hk : ps[k]? = some p) (h2 : p.2 = true) : mG ps (L s) k s.size = mG ps (L s) (k + 1) s.size := by
  obtain ⟨hlt, hv⟩ := List.getElem?_eq_some_iff.1 hk
  unfold mG
  rw [← List.getElem_cons_drop hlt, hv, drop_none s s.size (Nat.le_refl _), matchB, if_pos h2, starM]
theorem mG_last (ps : List Part) (s : ByteArray) : rowV (s.size + 1) (fun i => if i = s.size then true else false) = rowV (s.size + 1) (mG ps (L s) ps.length) := by
  apply rowV_ext
  intro i hi
  unfold mG
  rw [List.drop_length, matchB]
  by_cases h : i = s.size
  · subst h; rw [if_pos rfl, drop_none s s.size (Nat.le_refl _)]; rfl
  · rw [if_neg h, drop_cons s i (by omega)]; rfl
def nG (ps : List Part) (t : Bs) (k j : Nat) : Nat → Bool := fun x => if j ≤ x then mG ps t k x else false
theorem nG_start (ps : List Part) (t : Bs) (k n : Nat) : rowV n (fun _ => false) = rowV n (nG ps t k n) := by
  apply rowV_ext; intro i hi; unfold nG; rw [if_neg (by omega)]
theorem nG_end (ps : List Part) (t : Bs) (k n : Nat) : rowV n (nG ps t k 0) = rowV n (mG ps t k) := by
  apply rowV_ext; intro i _; unfold nG; rw [if_pos (Nat.zero_le _)]
theorem nG_next (ps : List Part) (t : Bs) (k n j : Nat) : rowV n (fun x => if x = j then mG ps t k j else nG ps t k (j + 1) x) = rowV n (nG ps t k j) := by
  apply rowV_ext
  intro x _
  unfold nG
  by_cases h : x = j
  · subst h; rw [if_pos rfl, if_pos (Nat.le_refl _)]
  · rw [if_neg h]
    by_cases h2 : j + 1 ≤ x
    · rw [if_pos h2, if_pos (by omega)]
    · rw [if_neg h2, if_neg (by omega)]
theorem nG_at (ps : List Part) (t : Bs) (k j x : Nat) (h : j ≤ x) : nG ps t k j x = mG ps t k x := by unfold nG; rw [if_pos h]
theorem cell_far (w : World) (b i : Nat) {g : Nat} {x : Nat} {v : Value} (h : g ≠ b) : (w.setCell ⟨b, i, none⟩ v).cell? ⟨g, x, none⟩ = w.cell? ⟨g, x, none⟩ := by
  unfold World.cell?
  have := cell_set_other w b i g v h
  simp only
  rw [this]
theorem row_store {ps : List Part} {t : Bs} {k i n b : Nat} {W : World} {v : Bool} (h : W.heap[b]? = some (.cells (rowV n (nG ps t k (i + 1))) 4 (0, 0))) (hv : mG ps t k i = v) : (W.setCell ⟨b, i, none⟩ (.bool v)).heap[b]? = some (.cells (rowV n (nG ps t k i)) 4 (0, 0)) := by
  subst hv
  rw [← nG_next]
  exact set_row h i _
def RelL (l : List RQ) (ps : List Part) : Prop := l.length = ps.length ∧ ∀ (i : Nat) (q : RQ) (p : Part), l[i]? = some q → ps[i]? = some p → RelP q p
def Ins (w : World) (l : List RQ) : Prop := ∀ q ∈ l, q.inn.length ≤ 100000 ∧ Slc w q.A (bytesV q.inn)
theorem Ins.keep {w w' : World} {l : List RQ} (h : Ins w l) (hb : Below w.heap.size w w') : Ins w' l := fun q hq => ⟨(h q hq).1, (h q hq).2.keep hb⟩
theorem four_at {α : Type} (f : α → List Value) (hf : ∀ x, (f x).length = 4) {w : World} {A : Option Addr} {es : List α} (h : Slc w A (es.flatMap f)) {k : Nat} {e : α} (hk : es[k]? = some e) {v0 v1 v2 v3 : Value} (he : f e = [v0, v1, v2, v3]) :
    ∃ b o, A = some ⟨b, o, none⟩ ∧ b < w.heap.size ∧ w.cell? ⟨b, o + k * 4, none⟩ = some v0 ∧ w.cell? ⟨b, o + k * 4 + 1, none⟩ = some v1 ∧ w.cell? ⟨b, o + k * 4 + 2, none⟩ = some v2 ∧ w.cell? ⟨b, o + k * 4 + 3, none⟩ = some v3 := by
  have hf := fun j hj => flat_get f 4 hf es k j hj
  rw [hk] at hf
  simp only [Option.bind_some, he] at hf
  rcases h with h | ⟨b, o, rfl, hlt, hc⟩
  · have := hf 0 (by omega)
    rw [h] at this; simp at this
  · refine ⟨b, o, rfl, hlt, ?_, ?_, ?_, ?_⟩
    · exact hc (k * 4 + 0) _ (hf 0 (by omega))
    · rw [Nat.add_assoc]; exact hc (k * 4 + 1) _ (hf 1 (by omega))
    · rw [Nat.add_assoc]; exact hc (k * 4 + 2) _ (hf 2 (by omega))
    · rw [Nat.add_assoc]; exact hc (k * 4 + 3) _ (hf 3 (by omega))
set_option maxRecDepth 100000 in
set_option maxHeartbeats 8000000 in
theorem rmatch_walk (A : Option Addr) (c : Nat) (l : List RQ) (ps : List Part) (s : ByteArray) (w : World) (hr : RelL l ps) (hx : Slc w A (l.flatMap rqV)) (hi : Ins w l) (hn : l.length ≤ 1000) (hs : s.size ≤ 100000) :
    Calls Try.prog 113 #[.slice A l.length c, .string s] w fun e w' => e = .returned (.bool (matchB ps (L s))) ∧ Below w.heap.size w w' := by
  have HX := Lib.hid hx
  have HI := Lib.hid hi
  have HR := Lib.hid hr
  have HAB : Hid (0 < l.length → ∀ x, A = some x → x.block < w.heap.size) := by
    intro h0 x hxx
    obtain ⟨q, hq⟩ : ∃ q, l[0]? = some q := ⟨_, List.getElem?_eq_getElem h0⟩
    obtain ⟨b, o, h1, h2, _⟩ := four_at rqV (fun _ => rfl) hx hq rfl
    rw [h1] at hxx; cases hxx; exact h2
  clear hx hi hr
  go_enter Try.func113, Try.ntmps113
  go_wp2_with (refine step_make 12 rfl rfl _ _ rfl (s.size + 1) rfl rfl (by omega) (by omega) ?_; intro w2 HN hs2 HB2; simp only [Act.put, List.setIfInBounds_toArray, List.set_cons_zero, List.set_cons_succ]; have c0 := cell_row HN.out s.size (by omega); have f0 := free_row HN.out s.size)
  have HN1 := Lib.hid (set_row HN.out s.size true)
  have HB3 : Hid (Below w.heap.size w (w2.setCell ⟨w.heap.size, s.size, none⟩ (.bool true))) := HB2.out.setCell (Nat.le_refl _) _
  rw [show rowV (s.size + 1) (fun i => if i = s.size then true else (fun _ => false) i) = rowV (s.size + 1) (mG ps (L s) l.length) by rw [HR.out.1]; exact mG_last ps s] at HN1
  generalize w2.setCell ⟨w.heap.size, s.size, none⟩ (.bool true) = w3 at *
  clear HN c0 f0 HB2 hs2
  go_loopw [5, 6] (fun v i wr => ∃ m nb : Nat, m ≤ l.length ∧ i = .int .i64 ((m : Int) - 1) ∧ v = .slice (some ⟨nb, 0, none⟩) (s.size + 1) (s.size + 1) ∧ w.heap.size ≤ nb ∧ Hid (wr.heap[nb]? = some (.cells (rowV (s.size + 1) (mG ps (L s) m)) 4 (0, 0))) ∧ Hid (Below w.heap.size w wr))
    (fun _ i _ => (intOf i + 1).toNat)
  case atStart => exact ⟨l.length, w.heap.size, Nat.le_refl _, rfl, rfl, Nat.le_refl _, HN1.out, HB3.out⟩
  case round =>
    obtain ⟨m, nb, hm, rfl, rfl, hnb, HNOW, HBW⟩ := hrel
    rename World => wo
    have hnbl := (Array.getElem?_eq_some_iff.1 HNOW.out).1
    rcases m with _ | k
    · have HE : Hid (mG ps (L s) 0 0 = matchB ps (L s)) := rfl
      have c0 := cell_row HNOW.out 0 (by omega)
      rw [HE.out] at c0
      have i0 : (0 : Int) < (s.size : Int) + 1 := by omega
      go_wp2_with fail
      go_ret
      exact ⟨rfl, HBW.out⟩
    · obtain ⟨q, hq⟩ : ∃ q, l[k]? = some q := ⟨_, List.getElem?_eq_getElem (by omega)⟩
      obtain ⟨p, hp⟩ : ∃ p, ps[k]? = some p := ⟨_, List.getElem?_eq_getElem (by rw [← HR.out.1]; omega)⟩
      have hrel := HR.out.2 k q p hq hp
      have hcast : ((k + 1 : Nat) : Int) - 1 = (k : Int) := by omega
      rw [hcast]
      have hk0 : (0 : Int) ≤ (k : Int) := Int.natCast_nonneg _
      have hk1 : (k : Int) < (l.length : Int) := by omega
      have HSO : Hid ((s.size : Int) = ((s.size + 1 : Nat) : Int) - 1) := by show _ = _; omega
      clear hcast
      have HQ := Lib.hid hq
      have HP := Lib.hid hp
      have HREL := Lib.hid hrel
      clear hq hp hrel
      go_wp2_with (refine step_make 27 rfl rfl _ _ rfl (s.size + 1) rfl rfl (by omega) (by omega) ?_; intro w5 HN5 hs5 HB5; simp only [Act.put, List.setIfInBounds_toArray, List.set_cons_zero, List.set_cons_succ])
      go_loopw [8] (fun i wr => ∃ j : Nat, j ≤ s.size + 1 ∧ i = .int .i64 ((j : Int) - 1) ∧ Hid (wr.heap[wo.heap.size]? = some (.cells (rowV (s.size + 1) (nG ps (L s) k j)) 4 (0, 0))) ∧ Hid (Grew w5 wo.heap.size wr)) (fun i _ => (intOf i + 1).toNat)
      case atStart => exact ⟨s.size + 1, Nat.le_refl _, by rw [← HSO.out], by rw [← nG_start]; exact HN5.out, Grew.refl _ _⟩
      case round =>
        obtain ⟨j, hj, rfl, HNX, HG⟩ := hrel
        have hgs := HG.out.2.2.2.1
        have HBQ : Hid (Below w.heap.size w wr) := HBW.out.trans ((HB5.out.mono (by omega)).trans (HG.out.to (by omega) (by omega)))
        have HNQ := Lib.hid ((HG.out.2.2.2.2 nb (by omega) (by omega)).trans ((HB5.out.block _ hnbl).trans HNOW.out))
        rcases j with _ | i
        · rw [nG_end] at HNX
          go_wp2_with fail
          refine ⟨⟨k, wo.heap.size, by omega, by first | rfl | go_num, rfl, by have := HBW.out.size; omega, HNX.out, HBQ.out⟩, by simp [intOf]⟩
        · have hcast2 : ((i + 1 : Nat) : Int) - 1 = (i : Int) := by omega
          rw [hcast2]
          clear hcast2
          have hi0 : (0 : Int) ≤ (i : Int) := Int.natCast_nonneg _
          have hi1 : (i : Int) < (s.size : Int) + 1 := by omega
          have cI := cell_row HNQ.out i (by omega)
          have cN := cell_row HNX.out i (by omega)
          have fN := free_row HNX.out i
          have HALT := Lib.hid (HAB.out (by omega))
          obtain ⟨bl, o, rfl, hlbl, a0, a1, a2, a3⟩ := four_at rqV (fun _ => rfl) (HX.out.keep HBQ.out) HQ.out rfl
          have hblw := HALT.out _ rfl
          simp only at hblw
          rcases HREL.out with ⟨h0, h2, h3⟩ | ⟨h1, rfl⟩ | ⟨h1, rfl⟩
          · obtain ⟨many, qA, qcap, qinn, qno, qany⟩ := q
            simp only at h0 a0 a1 a2 a3
            subst h0
            by_cases hlt : i < s.size
            · have hv := mG_one ps s k i p HP.out h2 hlt
              have hqi := HI.out _ (List.mem_of_getElem? HQ.out)
              simp only at hqi
              have HSI := Lib.hid (hqi.2.keep HBQ.out)
              have r1 := cell_row HNQ.out (i + 1) (by omega)
              have ST := Lib.hid (fun W (h : Slc W qA (bytesV qinn)) => stands_walk ⟨0, qA, qcap, qinn, qno, qany⟩ s[i] W hqi.1 h)
              simp only at ST
              have hst := h3 s[i]
              have hlt2 : (i : Int) < (s.size : Int) := by omega
              have hch8 : s[i].toNat < 256 := s[i].toNat_lt
              have hne1 : bl ≠ wo.heap.size := by have := HBW.out.size; omega
              have hne2 : nb ≠ wo.heap.size := by omega
              generalize mG ps (L s) (k + 1) (i + 1) = b1 at *
              rw [← hst] at hv
              generalize standsB ⟨0, qA, qcap, qinn, qno, qany⟩ s[i] = sb at *
              clear hqi
              cases sb with
              | true =>
                have HV : Hid (mG ps (L s) k i = b1) := by show _ = _; rw [hv]; rfl
                clear hv hst h3
                go_wp2_with fail
                refine regionM11 (by kernel_rfl) (S := (fun W => W.cell? ⟨bl, o + k * 4, none⟩ = some (.int .i64 0) ∧ W.cell? ⟨bl, o + k * 4 + 1, none⟩ = some (.slice qA qinn.length qcap) ∧ W.cell? ⟨bl, o + k * 4 + 2, none⟩ = some (.bool qno) ∧ W.cell? ⟨bl, o + k * 4 + 3, none⟩ = some (.bool qany) ∧ W.cell? ⟨nb, i + 1, none⟩ = some (.bool b1))) ?_
                rw [ixM11_lit]
                simp only [List.map_cons, List.map_nil, List.getElem?_toArray, List.getElem?_cons_succ, List.getElem?_cons_zero]
                have hSn : (fun W => W.cell? ⟨bl, o + k * 4, none⟩ = some (.int .i64 0) ∧ W.cell? ⟨bl, o + k * 4 + 1, none⟩ = some (.slice qA qinn.length qcap) ∧ W.cell? ⟨bl, o + k * 4 + 2, none⟩ = some (.bool qno) ∧ W.cell? ⟨bl, o + k * 4 + 3, none⟩ = some (.bool qany) ∧ W.cell? ⟨nb, i + 1, none⟩ = some (.bool b1)) wr.drew := ⟨a0, a1, a2, a3, r1⟩
                refine seqL_take rfl (Or.inl ⟨by rfl, by (intro w hSw; obtain ⟨y0, y1, y2, y3, y4⟩ := hSw; go_simp; try with_reducible rfl)⟩) hSn ?_
                simp only [Act.put, List.setIfInBounds_toArray, List.set_cons_zero, List.set_cons_succ]
                refine seqL_take rfl (Or.inl ⟨by rfl, by (intro w hSw; obtain ⟨y0, y1, y2, y3, y4⟩ := hSw; go_simp; try with_reducible rfl)⟩) hSn ?_
                simp only [Act.put, List.setIfInBounds_toArray, List.set_cons_zero, List.set_cons_succ]
                refine seqL_take rfl (Or.inl ⟨by rfl, by (intro w hSw; obtain ⟨y0, y1, y2, y3, y4⟩ := hSw; go_simp; try with_reducible rfl)⟩) hSn ?_
                simp only [Act.put, List.setIfInBounds_toArray, List.set_cons_zero, List.set_cons_succ]
                refine seqL_take rfl (Or.inl ⟨by rfl, by (intro w hSw; obtain ⟨y0, y1, y2, y3, y4⟩ := hSw; go_simp; try with_reducible rfl)⟩) hSn ?_
                simp only [Act.put, List.setIfInBounds_toArray, List.set_cons_zero, List.set_cons_succ]
                refine seqL_take rfl (Or.inl ⟨by rfl, by (intro w hSw; obtain ⟨y0, y1, y2, y3, y4⟩ := hSw; go_simp; try with_reducible rfl)⟩) hSn ?_
                simp only [Act.put, List.setIfInBounds_toArray, List.set_cons_zero, List.set_cons_succ]
                refine seqL_take rfl (Or.inl ⟨by rfl, by (intro w hSw; obtain ⟨y0, y1, y2, y3, y4⟩ := hSw; go_simp; try with_reducible rfl)⟩) hSn ?_
                simp only [Act.put, List.setIfInBounds_toArray, List.set_cons_zero, List.set_cons_succ]
                refine seqL_take rfl (Or.inl ⟨by rfl, by (intro w hSw; obtain ⟨y0, y1, y2, y3, y4⟩ := hSw; go_simp; try with_reducible rfl)⟩) hSn ?_
                simp only [Act.put, List.setIfInBounds_toArray, List.set_cons_zero, List.set_cons_succ]
                refine seqL_take rfl (Or.inl ⟨by rfl, by (intro w hSw; obtain ⟨y0, y1, y2, y3, y4⟩ := hSw; go_simp; try with_reducible rfl)⟩) hSn ?_
                simp only [Act.put, List.setIfInBounds_toArray, List.set_cons_zero, List.set_cons_succ]
                refine seqL_take rfl (Or.inl ⟨by rfl, by (intro w hSw; obtain ⟨y0, y1, y2, y3, y4⟩ := hSw; go_simp; try with_reducible rfl)⟩) hSn ?_
                simp only [Act.put, List.setIfInBounds_toArray, List.set_cons_zero, List.set_cons_succ]
                refine seqL_take rfl (Or.inl ⟨by rfl, by (intro w hSw; obtain ⟨y0, y1, y2, y3, y4⟩ := hSw; go_simp; try with_reducible rfl)⟩) hSn ?_
                simp only [Act.put, List.setIfInBounds_toArray, List.set_cons_zero, List.set_cons_succ]
                refine seqL_take rfl (Or.inl ⟨by rfl, by (intro w hSw; obtain ⟨y0, y1, y2, y3, y4⟩ := hSw; go_simp; try with_reducible rfl)⟩) hSn ?_
                simp only [Act.put, List.setIfInBounds_toArray, List.set_cons_zero, List.set_cons_succ]
                refine seqL_take rfl (Or.inl ⟨by rfl, by (intro w hSw; obtain ⟨y0, y1, y2, y3, y4⟩ := hSw; go_simp; try with_reducible rfl)⟩) hSn ?_
                simp only [Act.put, List.setIfInBounds_toArray, List.set_cons_zero, List.set_cons_succ]
                refine seqL_take rfl (Or.inl ⟨by rfl, by (intro w hSw; obtain ⟨y0, y1, y2, y3, y4⟩ := hSw; go_simp; try with_reducible rfl)⟩) hSn ?_
                simp only [Act.put, List.setIfInBounds_toArray, List.set_cons_zero, List.set_cons_succ]
                refine seqL_take rfl (Or.inl ⟨by rfl, by (intro w hSw; obtain ⟨y0, y1, y2, y3, y4⟩ := hSw; go_simp; try with_reducible rfl)⟩) hSn ?_
                simp only [Act.put, List.setIfInBounds_toArray, List.set_cons_zero, List.set_cons_succ]
                refine seqL_call rfl (by rfl) (fun K hK => ?_)
                go_simp
                refine (ST.out wr.drew HSI.out).mono ?_
                rintro e9 w9 ⟨rfl, hb9⟩
                have hb10 : Below wr.heap.size wr w9 := ⟨hb9.os, hb9.tape, hb9.output, hb9.size, hb9.block⟩
                go_wp2_with fail
                have hSm : (fun W => W.cell? ⟨bl, o + k * 4, none⟩ = some (.int .i64 0) ∧ W.cell? ⟨bl, o + k * 4 + 1, none⟩ = some (.slice qA qinn.length qcap) ∧ W.cell? ⟨bl, o + k * 4 + 2, none⟩ = some (.bool qno) ∧ W.cell? ⟨bl, o + k * 4 + 3, none⟩ = some (.bool qany) ∧ W.cell? ⟨nb, i + 1, none⟩ = some (.bool b1)) w9 := ⟨(hb10.cell hlbl).trans a0, (hb10.cell hlbl).trans a1, (hb10.cell hlbl).trans a2, (hb10.cell hlbl).trans a3, (hb10.cell (lt_o HNQ.out)).trans r1⟩
                refine hK.out _ _ hSm ?_
                clear hK K hSn
                have hSn := hSm
                have HNX9 := Lib.hid ((hb10.block _ (lt_o HNX.out)).trans HNX.out)
                have cN9 := cell_row HNX9.out i (by omega)
                have fN9 := free_row HNX9.out i
                try simp only [Act.put, List.setIfInBounds_toArray, List.set_cons_zero, List.set_cons_succ]
                refine seqL_take rfl (Or.inl ⟨by rfl, by (intro w hSw; obtain ⟨y0, y1, y2, y3, y4⟩ := hSw; go_simp; try with_reducible rfl)⟩) hSn ?_
                simp only [Act.put, List.setIfInBounds_toArray, List.set_cons_zero, List.set_cons_succ]
                refine seqL_take rfl (Or.inl ⟨by rfl, by (intro w hSw; obtain ⟨y0, y1, y2, y3, y4⟩ := hSw; go_simp; try with_reducible rfl)⟩) hSn ?_
                simp only [Act.put, List.setIfInBounds_toArray, List.set_cons_zero, List.set_cons_succ]
                have w2' : (0 : Int) ≤ (i : Int) + 1 := by omega
                have w3' : (i : Int) + 1 < (s.size : Int) + 1 := by omega
                have w4 : ((i : Int) + 1).toNat = i + 1 := by omega
                have w1 : IntKind.i64.wrap ((i : Int) + 1) = (i : Int) + 1 := by rw [IntKind.wrap_i64]; omega
                refine seqL_take rfl (Or.inl ⟨by rfl, by (intro w hSw; obtain ⟨y0, y1, y2, y3, y4⟩ := hSw; go_simp; try with_reducible rfl)⟩) hSn ?_
                simp only [Act.put, List.setIfInBounds_toArray, List.set_cons_zero, List.set_cons_succ]
                refine seqL_take rfl (Or.inl ⟨by rfl, by (intro w hSw; obtain ⟨y0, y1, y2, y3, y4⟩ := hSw; go_simp; try with_reducible rfl)⟩) hSn ?_
                simp only [Act.put, List.setIfInBounds_toArray, List.set_cons_zero, List.set_cons_succ]
                refine seqL_take rfl (Or.inl ⟨by rfl, by (intro w hSw; obtain ⟨y0, y1, y2, y3, y4⟩ := hSw; go_simp; try with_reducible rfl)⟩) hSn ?_
                simp only [Act.put, List.setIfInBounds_toArray, List.set_cons_zero, List.set_cons_succ]
                refine seqL_take rfl (Or.inl ⟨by rfl, by (intro w hSw; obtain ⟨y0, y1, y2, y3, y4⟩ := hSw; go_simp; try with_reducible rfl)⟩) hSn ?_
                simp only [Act.put, List.setIfInBounds_toArray, List.set_cons_zero, List.set_cons_succ]
                refine seqL_take rfl (Or.inl ⟨by rfl, by (intro w hSw; obtain ⟨y0, y1, y2, y3, y4⟩ := hSw; go_simp; try with_reducible rfl)⟩) hSn ?_
                simp only [Act.put, List.setIfInBounds_toArray, List.set_cons_zero, List.set_cons_succ]
                clear w1 w2' w3' w4
                refine seqL_take rfl (Or.inl ⟨by rfl, by (intro w hSw; obtain ⟨y0, y1, y2, y3, y4⟩ := hSw; go_simp; try with_reducible rfl)⟩) hSn ?_
                simp only [Act.put, List.setIfInBounds_toArray, List.set_cons_zero, List.set_cons_succ]
                refine seqL_take rfl (Or.inl ⟨by rfl, by (intro w hSw; obtain ⟨y0, y1, y2, y3, y4⟩ := hSw; go_simp; try with_reducible rfl)⟩) hSn ?_
                simp only [Act.put, List.setIfInBounds_toArray, List.set_cons_zero, List.set_cons_succ]
                refine seqL_call rfl (by rfl) (fun K hK => ?_)
                go_simp
                refine hK.out _ _ ⟨(cell_far w9 _ _ hne1).trans hSn.1, (cell_far w9 _ _ hne1).trans hSn.2.1, (cell_far w9 _ _ hne1).trans hSn.2.2.1, (cell_far w9 _ _ hne1).trans hSn.2.2.2.1, (cell_far w9 _ _ hne2).trans hSn.2.2.2.2⟩ ?_
                clear hK K
                try simp only [Act.put, List.setIfInBounds_toArray, List.set_cons_zero, List.set_cons_succ]
                refine seqL_done ?_
                refine NoPanic.normal ?_
                go_wp2_with fail
                go_roundw
                case rel => exact ⟨i, by omega, by first | rfl | go_num, row_store HNX9.out HV.out, (HG.out.below hb10).set i _⟩
                case measure => simp [intOf]; try omega
              | false =>
                have HV : Hid (mG ps (L s) k i = false) := by show _ = _; rw [hv]; rfl
                clear hv hst h3
                go_wp2_with fail
                refine regionM11 (by kernel_rfl) (S := (fun W => W.cell? ⟨bl, o + k * 4, none⟩ = some (.int .i64 0) ∧ W.cell? ⟨bl, o + k * 4 + 1, none⟩ = some (.slice qA qinn.length qcap) ∧ W.cell? ⟨bl, o + k * 4 + 2, none⟩ = some (.bool qno) ∧ W.cell? ⟨bl, o + k * 4 + 3, none⟩ = some (.bool qany) ∧ W.cell? ⟨nb, i + 1, none⟩ = some (.bool b1))) ?_
                rw [ixM11_lit]
                simp only [List.map_cons, List.map_nil, List.getElem?_toArray, List.getElem?_cons_succ, List.getElem?_cons_zero]
                have hSn : (fun W => W.cell? ⟨bl, o + k * 4, none⟩ = some (.int .i64 0) ∧ W.cell? ⟨bl, o + k * 4 + 1, none⟩ = some (.slice qA qinn.length qcap) ∧ W.cell? ⟨bl, o + k * 4 + 2, none⟩ = some (.bool qno) ∧ W.cell? ⟨bl, o + k * 4 + 3, none⟩ = some (.bool qany) ∧ W.cell? ⟨nb, i + 1, none⟩ = some (.bool b1)) wr.drew := ⟨a0, a1, a2, a3, r1⟩
                refine seqL_take rfl (Or.inl ⟨by rfl, by (intro w hSw; obtain ⟨y0, y1, y2, y3, y4⟩ := hSw; go_simp; try with_reducible rfl)⟩) hSn ?_
                simp only [Act.put, List.setIfInBounds_toArray, List.set_cons_zero, List.set_cons_succ]
                refine seqL_take rfl (Or.inl ⟨by rfl, by (intro w hSw; obtain ⟨y0, y1, y2, y3, y4⟩ := hSw; go_simp; try with_reducible rfl)⟩) hSn ?_
                simp only [Act.put, List.setIfInBounds_toArray, List.set_cons_zero, List.set_cons_succ]
                refine seqL_take rfl (Or.inl ⟨by rfl, by (intro w hSw; obtain ⟨y0, y1, y2, y3, y4⟩ := hSw; go_simp; try with_reducible rfl)⟩) hSn ?_
                simp only [Act.put, List.setIfInBounds_toArray, List.set_cons_zero, List.set_cons_succ]
                refine seqL_take rfl (Or.inl ⟨by rfl, by (intro w hSw; obtain ⟨y0, y1, y2, y3, y4⟩ := hSw; go_simp; try with_reducible rfl)⟩) hSn ?_
                simp only [Act.put, List.setIfInBounds_toArray, List.set_cons_zero, List.set_cons_succ]
                refine seqL_take rfl (Or.inl ⟨by rfl, by (intro w hSw; obtain ⟨y0, y1, y2, y3, y4⟩ := hSw; go_simp; try with_reducible rfl)⟩) hSn ?_
                simp only [Act.put, List.setIfInBounds_toArray, List.set_cons_zero, List.set_cons_succ]
                refine seqL_take rfl (Or.inl ⟨by rfl, by (intro w hSw; obtain ⟨y0, y1, y2, y3, y4⟩ := hSw; go_simp; try with_reducible rfl)⟩) hSn ?_
                simp only [Act.put, List.setIfInBounds_toArray, List.set_cons_zero, List.set_cons_succ]
                refine seqL_take rfl (Or.inl ⟨by rfl, by (intro w hSw; obtain ⟨y0, y1, y2, y3, y4⟩ := hSw; go_simp; try with_reducible rfl)⟩) hSn ?_
                simp only [Act.put, List.setIfInBounds_toArray, List.set_cons_zero, List.set_cons_succ]
                refine seqL_take rfl (Or.inl ⟨by rfl, by (intro w hSw; obtain ⟨y0, y1, y2, y3, y4⟩ := hSw; go_simp; try with_reducible rfl)⟩) hSn ?_
                simp only [Act.put, List.setIfInBounds_toArray, List.set_cons_zero, List.set_cons_succ]
                refine seqL_take rfl (Or.inl ⟨by rfl, by (intro w hSw; obtain ⟨y0, y1, y2, y3, y4⟩ := hSw; go_simp; try with_reducible rfl)⟩) hSn ?_
                simp only [Act.put, List.setIfInBounds_toArray, List.set_cons_zero, List.set_cons_succ]
                refine seqL_take rfl (Or.inl ⟨by rfl, by (intro w hSw; obtain ⟨y0, y1, y2, y3, y4⟩ := hSw; go_simp; try with_reducible rfl)⟩) hSn ?_
                simp only [Act.put, List.setIfInBounds_toArray, List.set_cons_zero, List.set_cons_succ]
                refine seqL_take rfl (Or.inl ⟨by rfl, by (intro w hSw; obtain ⟨y0, y1, y2, y3, y4⟩ := hSw; go_simp; try with_reducible rfl)⟩) hSn ?_
                simp only [Act.put, List.setIfInBounds_toArray, List.set_cons_zero, List.set_cons_succ]
                refine seqL_take rfl (Or.inl ⟨by rfl, by (intro w hSw; obtain ⟨y0, y1, y2, y3, y4⟩ := hSw; go_simp; try with_reducible rfl)⟩) hSn ?_
                simp only [Act.put, List.setIfInBounds_toArray, List.set_cons_zero, List.set_cons_succ]
                refine seqL_take rfl (Or.inl ⟨by rfl, by (intro w hSw; obtain ⟨y0, y1, y2, y3, y4⟩ := hSw; go_simp; try with_reducible rfl)⟩) hSn ?_
                simp only [Act.put, List.setIfInBounds_toArray, List.set_cons_zero, List.set_cons_succ]
                refine seqL_take rfl (Or.inl ⟨by rfl, by (intro w hSw; obtain ⟨y0, y1, y2, y3, y4⟩ := hSw; go_simp; try with_reducible rfl)⟩) hSn ?_
                simp only [Act.put, List.setIfInBounds_toArray, List.set_cons_zero, List.set_cons_succ]
                refine seqL_call rfl (by rfl) (fun K hK => ?_)
                go_simp
                refine (ST.out wr.drew HSI.out).mono ?_
                rintro e9 w9 ⟨rfl, hb9⟩
                have hb10 : Below wr.heap.size wr w9 := ⟨hb9.os, hb9.tape, hb9.output, hb9.size, hb9.block⟩
                go_wp2_with fail
                have hSm : (fun W => W.cell? ⟨bl, o + k * 4, none⟩ = some (.int .i64 0) ∧ W.cell? ⟨bl, o + k * 4 + 1, none⟩ = some (.slice qA qinn.length qcap) ∧ W.cell? ⟨bl, o + k * 4 + 2, none⟩ = some (.bool qno) ∧ W.cell? ⟨bl, o + k * 4 + 3, none⟩ = some (.bool qany) ∧ W.cell? ⟨nb, i + 1, none⟩ = some (.bool b1)) w9 := ⟨(hb10.cell hlbl).trans a0, (hb10.cell hlbl).trans a1, (hb10.cell hlbl).trans a2, (hb10.cell hlbl).trans a3, (hb10.cell (lt_o HNQ.out)).trans r1⟩
                refine hK.out _ _ hSm ?_
                clear hK K hSn
                have hSn := hSm
                have HNX9 := Lib.hid ((hb10.block _ (lt_o HNX.out)).trans HNX.out)
                have cN9 := cell_row HNX9.out i (by omega)
                have fN9 := free_row HNX9.out i
                try simp only [Act.put, List.setIfInBounds_toArray, List.set_cons_zero, List.set_cons_succ]
                refine seqL_take rfl (Or.inl ⟨by rfl, by (intro w hSw; obtain ⟨y0, y1, y2, y3, y4⟩ := hSw; go_simp; try with_reducible rfl)⟩) hSn ?_
                simp only [Act.put, List.setIfInBounds_toArray, List.set_cons_zero, List.set_cons_succ]
                refine seqL_take rfl (Or.inl ⟨by rfl, by (intro w hSw; obtain ⟨y0, y1, y2, y3, y4⟩ := hSw; go_simp; try with_reducible rfl)⟩) hSn ?_
                simp only [Act.put, List.setIfInBounds_toArray, List.set_cons_zero, List.set_cons_succ]
                refine seqL_take rfl (y_skip (by rfl)) hSn ?_
                simp only [Act.put, List.setIfInBounds_toArray, List.set_cons_zero, List.set_cons_succ]
                refine seqL_take rfl (y_skip (by rfl)) hSn ?_
                simp only [Act.put, List.setIfInBounds_toArray, List.set_cons_zero, List.set_cons_succ]
                refine seqL_take rfl (y_skip (by rfl)) hSn ?_
                simp only [Act.put, List.setIfInBounds_toArray, List.set_cons_zero, List.set_cons_succ]
                refine seqL_take rfl (y_skip (by rfl)) hSn ?_
                simp only [Act.put, List.setIfInBounds_toArray, List.set_cons_zero, List.set_cons_succ]
                refine seqL_take rfl (y_skip (by rfl)) hSn ?_
                simp only [Act.put, List.setIfInBounds_toArray, List.set_cons_zero, List.set_cons_succ]
                refine seqL_take rfl (Or.inl ⟨by rfl, by (intro w hSw; obtain ⟨y0, y1, y2, y3, y4⟩ := hSw; go_simp; try with_reducible rfl)⟩) hSn ?_
                simp only [Act.put, List.setIfInBounds_toArray, List.set_cons_zero, List.set_cons_succ]
                refine seqL_take rfl (Or.inl ⟨by rfl, by (intro w hSw; obtain ⟨y0, y1, y2, y3, y4⟩ := hSw; go_simp; try with_reducible rfl)⟩) hSn ?_
                simp only [Act.put, List.setIfInBounds_toArray, List.set_cons_zero, List.set_cons_succ]
                refine seqL_call rfl (by rfl) (fun K hK => ?_)
                go_simp
                refine hK.out _ _ ⟨(cell_far w9 _ _ hne1).trans hSn.1, (cell_far w9 _ _ hne1).trans hSn.2.1, (cell_far w9 _ _ hne1).trans hSn.2.2.1, (cell_far w9 _ _ hne1).trans hSn.2.2.2.1, (cell_far w9 _ _ hne2).trans hSn.2.2.2.2⟩ ?_
                clear hK K
                try simp only [Act.put, List.setIfInBounds_toArray, List.set_cons_zero, List.set_cons_succ]
                refine seqL_done ?_
                refine NoPanic.normal ?_
                go_wp2_with fail
                go_roundw
                case rel => exact ⟨i, by omega, by first | rfl | go_num, row_store HNX9.out HV.out, (HG.out.below hb10).set i _⟩
                case measure => simp [intOf]; try omega
            · obtain rfl : i = s.size := by omega
              have HV := Lib.hid (mG_one_end ps s k p HP.out h2)
              have hq0 : decide ((s.size : Int) < (s.size : Int)) = false := by simp
              go_wp2_with fail
              refine regionM11 (by kernel_rfl) (S := fun _ => True) ?_
              rw [ixM11_lit]
              simp only [List.map_cons, List.map_nil, List.getElem?_toArray, List.getElem?_cons_succ, List.getElem?_cons_zero]
              have hSn : True := trivial
              refine seqL_take rfl (Or.inl ⟨by rfl, by (intro w hSw; go_simp; try with_reducible rfl)⟩) hSn ?_
              simp only [Act.put, List.setIfInBounds_toArray, List.set_cons_zero, List.set_cons_succ]
              refine seqL_take rfl (Or.inl ⟨by rfl, by (intro w hSw; go_simp; try with_reducible rfl)⟩) hSn ?_
              simp only [Act.put, List.setIfInBounds_toArray, List.set_cons_zero, List.set_cons_succ]
              refine seqL_take rfl (Or.inl ⟨by rfl, by (intro w hSw; go_simp; try with_reducible rfl)⟩) hSn ?_
              simp only [Act.put, List.setIfInBounds_toArray, List.set_cons_zero, List.set_cons_succ]
              refine seqL_take rfl (Or.inl ⟨by rfl, by (intro w hSw; go_simp; try with_reducible rfl)⟩) hSn ?_
              simp only [Act.put, List.setIfInBounds_toArray, List.set_cons_zero, List.set_cons_succ]
              refine seqL_take rfl (Or.inl ⟨by rfl, by (intro w hSw; go_simp; try with_reducible rfl)⟩) hSn ?_
              simp only [Act.put, List.setIfInBounds_toArray, List.set_cons_zero, List.set_cons_succ]
              refine seqL_take rfl (Or.inl ⟨by rfl, by (intro w hSw; go_simp; try with_reducible rfl)⟩) hSn ?_
              simp only [Act.put, List.setIfInBounds_toArray, List.set_cons_zero, List.set_cons_succ]
              refine seqL_take rfl (Or.inl ⟨by rfl, by (intro w hSw; go_simp; try with_reducible rfl)⟩) hSn ?_
              simp only [Act.put, List.setIfInBounds_toArray, List.set_cons_zero, List.set_cons_succ]
              refine seqL_take rfl (y_skip (by rfl)) hSn ?_
              simp only [Act.put, List.setIfInBounds_toArray, List.set_cons_zero, List.set_cons_succ]
              refine seqL_take rfl (y_skip (by rfl)) hSn ?_
              simp only [Act.put, List.setIfInBounds_toArray, List.set_cons_zero, List.set_cons_succ]
              refine seqL_take rfl (y_skip (by rfl)) hSn ?_
              simp only [Act.put, List.setIfInBounds_toArray, List.set_cons_zero, List.set_cons_succ]
              refine seqL_take rfl (y_skip (by rfl)) hSn ?_
              simp only [Act.put, List.setIfInBounds_toArray, List.set_cons_zero, List.set_cons_succ]
              refine seqL_take rfl (y_skip (by rfl)) hSn ?_
              simp only [Act.put, List.setIfInBounds_toArray, List.set_cons_zero, List.set_cons_succ]
              refine seqL_take rfl (y_skip (by rfl)) hSn ?_
              simp only [Act.put, List.setIfInBounds_toArray, List.set_cons_zero, List.set_cons_succ]
              refine seqL_take rfl (y_skip (by rfl)) hSn ?_
              simp only [Act.put, List.setIfInBounds_toArray, List.set_cons_zero, List.set_cons_succ]
              refine seqL_skip rfl (by rfl) hSn ?_
              simp only [Act.put, List.setIfInBounds_toArray, List.set_cons_zero, List.set_cons_succ]
              refine seqL_take rfl (Or.inl ⟨by rfl, by (intro w hSw; go_simp; try with_reducible rfl)⟩) hSn ?_
              simp only [Act.put, List.setIfInBounds_toArray, List.set_cons_zero, List.set_cons_succ]
              refine seqL_take rfl (Or.inl ⟨by rfl, by (intro w hSw; go_simp; try with_reducible rfl)⟩) hSn ?_
              simp only [Act.put, List.setIfInBounds_toArray, List.set_cons_zero, List.set_cons_succ]
              refine seqL_take rfl (y_skip (by rfl)) hSn ?_
              simp only [Act.put, List.setIfInBounds_toArray, List.set_cons_zero, List.set_cons_succ]
              refine seqL_take rfl (y_skip (by rfl)) hSn ?_
              simp only [Act.put, List.setIfInBounds_toArray, List.set_cons_zero, List.set_cons_succ]
              refine seqL_take rfl (y_skip (by rfl)) hSn ?_
              simp only [Act.put, List.setIfInBounds_toArray, List.set_cons_zero, List.set_cons_succ]
              refine seqL_take rfl (y_skip (by rfl)) hSn ?_
              simp only [Act.put, List.setIfInBounds_toArray, List.set_cons_zero, List.set_cons_succ]
              refine seqL_take rfl (y_skip (by rfl)) hSn ?_
              simp only [Act.put, List.setIfInBounds_toArray, List.set_cons_zero, List.set_cons_succ]
              refine seqL_take rfl (Or.inl ⟨by rfl, by (intro w hSw; go_simp; try with_reducible rfl)⟩) hSn ?_
              simp only [Act.put, List.setIfInBounds_toArray, List.set_cons_zero, List.set_cons_succ]
              refine seqL_take rfl (Or.inl ⟨by rfl, by (intro w hSw; go_simp; try with_reducible rfl)⟩) hSn ?_
              simp only [Act.put, List.setIfInBounds_toArray, List.set_cons_zero, List.set_cons_succ]
              refine seqL_call rfl (by rfl) (fun K hK => ?_)
              go_simp
              refine hK.out _ _ trivial ?_
              clear hK K
              try simp only [Act.put, List.setIfInBounds_toArray, List.set_cons_zero, List.set_cons_succ]
              refine seqL_done ?_
              refine NoPanic.normal ?_
              go_wp2_with fail
              go_roundw
              case rel => exact ⟨s.size, by omega, by first | rfl | go_num, row_store HNX.out HV.out, HG.out.set s.size _⟩
              case measure => simp [intOf]; try omega
          · obtain ⟨many, qA, qcap, qinn, qno, qany⟩ := q
            simp only at h1 a0 a1 a2 a3
            subst h1
            by_cases hlt : i < s.size
            · have hv := mG_many ps s k i _ HP.out rfl hlt
              have r1 := cell_row HNX.out (i + 1) (by omega)
              rw [nG_at _ _ _ _ _ (Nat.le_refl _)] at r1
              have hbn := bne_byte s[i] 47 47 rfl
              have hlt2 : (i : Int) < (s.size : Int) := by omega
              have hlt3 : (i : Int) + 1 < (s.size : Int) + 1 := by omega
              have hch8 : s[i].toNat < 256 := s[i].toNat_lt
              cases hr0 : mG ps (L s) (k + 1) i with
              | true =>
                rw [hr0] at cI hv
                have HV : Hid (mG ps (L s) k i = true) := by show _ = _; rw [hv]; rfl
                clear hv r1 hr0 hbn
                go_wp2_with fail
                go_roundw
                case rel => exact ⟨i, by omega, by first | rfl | go_num, row_store HNX.out HV.out, HG.out.set i _⟩
                case measure => simp [intOf]; try omega
              | false =>
                rw [hr0] at cI hv
                generalize mG ps (L s) k (i + 1) = b1 at r1 hv
                clear hr0
                cases hc : (s[i] != 47) with
                | true =>
                  rw [hc] at hbn
                  have HV : Hid (mG ps (L s) k i = b1) := by show _ = _; rw [hv]; simp only [anyB, hc]; simp
                  clear hv hc
                  go_wp2_with fail
                  go_roundw
                  case rel => exact ⟨i, by omega, by first | rfl | go_num, row_store HNX.out HV.out, HG.out.set i _⟩
                  case measure => simp [intOf]; try omega
                | false =>
                  rw [hc] at hbn
                  have HV : Hid (mG ps (L s) k i = false) := by show _ = _; rw [hv]; simp only [anyB, hc]; simp
                  clear hv hc
                  go_wp2_with fail
                  go_roundw
                  case rel => exact ⟨i, by omega, by first | rfl | go_num, row_store HNX.out HV.out, HG.out.set i _⟩
                  case measure => simp [intOf]; try omega
            · obtain rfl : i = s.size := by omega
              have hv := mG_many_end ps s k _ HP.out rfl
              have hq0 : decide ((s.size : Int) < (s.size : Int)) = false := by simp
              cases hr0 : mG ps (L s) (k + 1) s.size with
              | true =>
                rw [hr0] at cI hv
                have HV := Lib.hid hv
                clear hv hr0
                go_wp2_with fail
                go_roundw
                case rel => exact ⟨s.size, by omega, by first | rfl | go_num, row_store HNX.out HV.out, HG.out.set s.size _⟩
                case measure => simp [intOf]; try omega
              | false =>
                rw [hr0] at cI hv
                have HV := Lib.hid hv
                clear hv hr0
                go_wp2_with fail
                go_roundw
                case rel => exact ⟨s.size, by omega, by first | rfl | go_num, row_store HNX.out HV.out, HG.out.set s.size _⟩
                case measure => simp [intOf]; try omega
          · obtain ⟨many, qA, qcap, qinn, qno, qany⟩ := q
            simp only at h1 a0 a1 a2 a3
            subst h1
            by_cases hlt : i < s.size
            · have hv := mG_many ps s k i _ HP.out rfl hlt
              have r1 := cell_row HNX.out (i + 1) (by omega)
              rw [nG_at _ _ _ _ _ (Nat.le_refl _)] at r1
              have hbn := bne_byte s[i] 47 47 rfl
              have hlt2 : (i : Int) < (s.size : Int) := by omega
              have hlt3 : (i : Int) + 1 < (s.size : Int) + 1 := by omega
              have hch8 : s[i].toNat < 256 := s[i].toNat_lt
              cases hr0 : mG ps (L s) (k + 1) i with
              | true =>
                rw [hr0] at cI hv
                have HV : Hid (mG ps (L s) k i = true) := by show _ = _; rw [hv]; rfl
                clear hv r1 hr0 hbn
                go_wp2_with fail
                go_roundw
                case rel => exact ⟨i, by omega, by first | rfl | go_num, row_store HNX.out HV.out, HG.out.set i _⟩
                case measure => simp [intOf]; try omega
              | false =>
                rw [hr0] at cI hv
                generalize mG ps (L s) k (i + 1) = b1 at r1 hv
                clear hr0
                have HV : Hid (mG ps (L s) k i = b1) := by show _ = _; rw [hv]; simp [anyB]
                clear hv hbn
                go_wp2_with fail
                go_roundw
                case rel => exact ⟨i, by omega, by first | rfl | go_num, row_store HNX.out HV.out, HG.out.set i _⟩
                case measure => simp [intOf]; try omega
            · obtain rfl : i = s.size := by omega
              have hv := mG_many_end ps s k _ HP.out rfl
              have hq0 : decide ((s.size : Int) < (s.size : Int)) = false := by simp
              cases hr0 : mG ps (L s) (k + 1) s.size with
              | true =>
                rw [hr0] at cI hv
                have HV := Lib.hid hv
                clear hv hr0
                go_wp2_with fail
                go_roundw
                case rel => exact ⟨s.size, by omega, by first | rfl | go_num, row_store HNX.out HV.out, HG.out.set s.size _⟩
                case measure => simp [intOf]; try omega
              | false =>
                rw [hr0] at cI hv
                have HV := Lib.hid hv
                clear hv hr0
                go_wp2_with fail
                go_roundw
                case rel => exact ⟨s.size, by omega, by first | rfl | go_num, row_store HNX.out HV.out, HG.out.set s.size _⟩
                case measure => simp [intOf]; try omega
end Go.Proofs.Ytcapaiiegfedmaa
