/- A slice of rules that came in. · The walk of flittinglaw03.RuleChecks. -/
import Derived.Test.YtcapaiiegfedmaaRt33
namespace Go.Proofs.Ytcapaiiegfedmaa
open Go.RowKit Go.WideShapes Go.ChangeShapes
theorem cells_rule : Try.prog.cellsOf 102 = 2 := by kernel_rfl
theorem cells_rb : Try.prog.cellsOf 4 = 1 := by kernel_rfl
theorem cells_rs : Try.prog.cellsOf 9 = 1 := by kernel_rfl
set_option maxRecDepth 100000 in
theorem rules_open {H : Type} {enc : TypeId × Value → H} {W : World} {v : Value} {d : DataW H} {p : List MemPlace} (hv : ∃ A l c, v = .slice A l c) (h : DataW.Trod enc Try.prog W 0 (fun _ => true) true 98 v d p) :
    ∃ (A : Option Addr) (c : Nat) (rs : List RuleD), v = .slice A rs.length c ∧ Slc W A (rs.flatMap rV) ∧ rs.length ≤ c ∧ c ≤ maxLen := by
  obtain ⟨A, c, rs, h1, h2, h3, h4, _⟩ := rows_open (P := Try.prog) rV (fun _ => True) 2 (by omega) (fun _ => rfl) Try.underlying98 cells_rule (fun fuel cs x hx => by
    obtain ⟨xs, n, _, _, hl, hxl, hf⟩ := DataW.trod_struct Try.underlying102 hx
    rw [cells_rule] at hl
    obtain ⟨v0, v1, rfl⟩ := list2 cs hl
    have g0 := hf 0 _ rfl
    have g1 := hf 1 _ rfl
    have g0 : DataW.trod enc Try.prog W 0 (fun _ => true) true n 4 [v0] = xs[0]? := by simpa [cells_rb] using g0
    have g1 : DataW.trod enc Try.prog W 0 (fun _ => true) true n 9 [v1] = xs[1]? := by simpa [cells_rs] using g1
    obtain ⟨y0, hy0⟩ : ∃ y0, xs[0]? = some y0 := ⟨_, List.getElem?_eq_getElem (by rw [hxl]; decide)⟩
    obtain ⟨y1, hy1⟩ : ∃ y1, xs[1]? = some y1 := ⟨_, List.getElem?_eq_getElem (by rw [hxl]; decide)⟩
    obtain ⟨b0, e0, _⟩ := DataW.trod_bool Try.underlying4 (g0.trans hy0)
    obtain ⟨s1, e1, _⟩ := DataW.trod_string Try.underlying9 (g1.trans hy1)
    simp only [List.cons.injEq, and_true] at e0 e1
    subst e0; subst e1
    exact ⟨(b0, L s1), by unfold rV; rw [str_mk], trivial⟩) hv h
  exact ⟨A, c, rs, h1, h2, h3, h4⟩
end Go.Proofs.Ytcapaiiegfedmaa
namespace Go.Proofs.Ytcapaiiegfedmaa
open Go.RowKit Go.Shelf
theorem two_keep {w w' : World} {p q : Addr} {u v : Value} (hb : Below w.heap.size w w') (h : w.cell? p = some u ∧ w.cell? q = some v) : w'.cell? p = some u ∧ w'.cell? q = some v :=
  ⟨(hb.cell (World.block_lt_of_cell? w p h.1)).trans h.1, (hb.cell (World.block_lt_of_cell? w q h.2)).trans h.2⟩
set_option maxRecDepth 100000 in
set_option maxHeartbeats 4000000 in
theorem ruleChecks_walk (A : Option Addr) (c : Nat) (rs : List RuleD) (p : ByteArray) (d : Bool) (hbig : rs.length ≤ maxLen) (w : World) (hx : Slc w A (rs.flatMap rV)) :
    Calls Try.prog 17 #[.slice A rs.length c, .string p, .bool d] w fun e w' => e = .returned (.bool true) ∧ Below w.heap.size w w' := by
  have SM := Lib.hid (smallR_walk A c rs w hx hbig)
  have AW := Lib.hid (fun W => rawake_walk W)
  have HX := Lib.hid hx
  clear hx
  cases hsm : smallR rs with
  | false =>
    rw [hsm] at SM
    clear hsm
    go_enter Try.func17, Try.ntmps17
    go_wp2_with (first | (go_at_call 69; refine SM.out.mono ?_; rintro e w1 ⟨rfl, rfl⟩) | (go_at_call 70; refine (AW.out _).mono ?_; rintro e w2 ⟨rfl, hb⟩))
    go_ret
    exact ⟨rfl, hb⟩
  | true =>
    have hl := small_len hsm
    have HR := Lib.hid (fun r hr => Nat.le_trans (small_all hsm r hr) (show 100 ≤ 100000 by omega))
    rw [hsm] at SM
    clear hsm
    by_cases h200 : p.size ≤ 200
    · have hq : decide ((200 : Int) < (p.size : Int)) = false := by simp; omega
      have C1 := Lib.hid (fun k (r : ByteArray) (h : r.size ≤ 100000) W => rcheck_walk k r h W)
      have C2 := Lib.hid (fun k (r : ByteArray) (h : r.size ≤ 100000) W => rcheck3_walk rparse_walk k r h W)
      have M1 := Lib.hid (fun k (r : ByteArray) (h : r.size ≤ 100000) W => rmatches_walk k r p d h (by omega) W)
      have M2 := Lib.hid (fun k (r : ByteArray) (h : r.size ≤ 100000) W => rmatches3_walk rparse_walk k r p d h (by omega) W)
      have A1 := Lib.hid (fun W h => checkAll_walk A c rs (by omega) HR.out W h)
      have A2 := Lib.hid (fun W h => checkAll3_walk rparse_walk A c rs (by omega) HR.out W h)
      go_enter Try.func17, Try.ntmps17
      go_wp2_with (go_at_call 69; refine SM.out.mono ?_; rintro e w1 ⟨rfl, rfl⟩)
      go_loopw [7] (fun i wr => ∃ k : Nat, k ≤ rs.length ∧ i = .int .i64 k ∧ Below w.heap.size w wr) (fun i _ => rs.length - (intOf i).toNat)
      case atStart => exact ⟨0, Nat.zero_le _, rfl, Below.refl _ _⟩
      case round =>
        obtain ⟨k, hk, rfl, hbr⟩ := hrel
        by_cases hlt : k < rs.length
        · obtain ⟨r, hrk⟩ : ∃ r, rs[k]? = some r := ⟨_, List.getElem?_eq_getElem hlt⟩
          have hrl := HR.out r (List.mem_of_getElem? hrk)
          obtain ⟨b, o, rfl, hlb, c0, c1⟩ := two_at rV (fun _ => rfl) (HX.out.keep hbr) hrk rfl
          unfold strV at c1
          have D1 := Lib.hid (C1.out r.1 (B r.2) (by rw [B_size]; exact hrl))
          have D2 := Lib.hid (C2.out r.1 (B r.2) (by rw [B_size]; exact hrl))
          have E1 := Lib.hid (M1.out r.1 (B r.2) (by rw [B_size]; exact hrl))
          have E2 := Lib.hid (M2.out r.1 (B r.2) (by rw [B_size]; exact hrl))
          rw [L_B] at D1 D2 E1 E2
          have hS : wr.cell? ⟨b, o + k * 2, none⟩ = some (.bool r.1) ∧ wr.cell? ⟨b, o + k * 2 + 1, none⟩ = some (.string (B r.2)) := ⟨c0, c1⟩
          have hi0 : (0 : Int) ≤ (k : Int) := Int.natCast_nonneg _
          have hi1 : (k : Int) < (rs.length : Int) := by omega
          clear hrk hrl C1 C2 M1 M2 A1 A2 AW SM
          obtain ⟨kp, pt⟩ := r
          simp only at c0 c1 D1 D2 E1 E2 hS
          generalize B pt = pb at *
          generalize ruleC pt = rc at *
          generalize matchesB pt (L p) d = mb at *
          cases mb
          all_goals
            go_wp2_with fail
            go_region_held3 (fun w' => w'.cell? ⟨b, o + k * 2, none⟩ = some (.bool kp) ∧ w'.cell? ⟨b, o + k * 2 + 1, none⟩ = some (.string pb))
              (first | exact hS | (go_keep; done))
              ((first
                | (go_at_call 76; refine (D1.out _).mono ?_; rintro e w9 ⟨rfl, hb9⟩; have hS := two_keep hb9 hS; (first | (have hbr := hbr.trans (hb9.mono hbr.size)) | (have hbr := hbr.drew.trans (hb9.mono hbr.size)) | (have hbr := hbr.drew.drew.trans (hb9.mono hbr.size)) | (have hbr := hbr.drew.drew.drew.trans (hb9.mono hbr.size))))
                | (go_at_call 77; refine (D2.out _).mono ?_; rintro e w9 ⟨rfl, hb9⟩; have hS := two_keep hb9 hS; (first | (have hbr := hbr.trans (hb9.mono hbr.size)) | (have hbr := hbr.drew.trans (hb9.mono hbr.size)) | (have hbr := hbr.drew.drew.trans (hb9.mono hbr.size)) | (have hbr := hbr.drew.drew.drew.trans (hb9.mono hbr.size))))
                | (go_at_call 78; refine (E1.out _).mono ?_; rintro e w9 ⟨rfl, hb9⟩; have hS := two_keep hb9 hS; (first | (have hbr := hbr.trans (hb9.mono hbr.size)) | (have hbr := hbr.drew.trans (hb9.mono hbr.size)) | (have hbr := hbr.drew.drew.trans (hb9.mono hbr.size)) | (have hbr := hbr.drew.drew.drew.trans (hb9.mono hbr.size))))
                | (go_at_call 75; refine (E2.out _).mono ?_; rintro e w9 ⟨rfl, hb9⟩; have hS := two_keep hb9 hS; (first | (have hbr := hbr.trans (hb9.mono hbr.size)) | (have hbr := hbr.drew.trans (hb9.mono hbr.size)) | (have hbr := hbr.drew.drew.trans (hb9.mono hbr.size)) | (have hbr := hbr.drew.drew.drew.trans (hb9.mono hbr.size))))))
            all_goals
              go_wp2_with fail
              go_roundw
              case rel => exact ⟨k + 1, by omega, by go_num, hbr⟩
              case measure => simp [intOf]; omega
        · obtain rfl : k = rs.length := by omega
          have HBR := Lib.hid hbr
          clear hbr
          generalize rulesC rs = rc at *
          go_wp2_with (first | (go_at_call 70; refine (AW.out _).mono ?_; rintro e w2 ⟨rfl, hb2⟩; have hc2 := HBR.out.trans (hb2.mono HBR.out.size)) | (go_at_call 79; refine (A1.out _ (HX.out.keep hc2)).mono ?_; rintro e w3 ⟨rfl, hb3⟩; have hc3 := hc2.trans (hb3.mono hc2.size)) | (go_at_call 80; refine (A2.out _ (HX.out.keep hc3)).mono ?_; rintro e w4 ⟨rfl, hb4⟩; have hc4 := hc3.trans (hb4.mono hc3.size)))
          go_ret
          exact ⟨rfl, hc4⟩
    · have hq : decide ((200 : Int) < (p.size : Int)) = true := by simp; omega
      go_enter Try.func17, Try.ntmps17
      go_wp2_with (first | (go_at_call 69; refine SM.out.mono ?_; rintro e w1 ⟨rfl, rfl⟩) | (go_at_call 70; refine (AW.out _).mono ?_; rintro e w2 ⟨rfl, hb⟩))
      go_ret
      exact ⟨rfl, hb⟩
end Go.Proofs.Ytcapaiiegfedmaa
