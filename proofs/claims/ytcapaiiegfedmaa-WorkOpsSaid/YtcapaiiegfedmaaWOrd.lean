/- flittinglaw34.WorkOps: its great region may be walked in one order. (printed by gen_word.py) -/
import Derived.Test.YtcapaiiegfedmaaOrd
namespace Go.Proofs.Ytcapaiiegfedmaa
open Go.RowKit
def regN (n : Nat) : Code → Option (Array Oper)
  | .region m o _ => if m = n then some o else none
  | .seq a b => match regN n a with
    | some c => some c
    | none => regN n b
  | .block _ c => regN n c
  | .scope c => regN n c
  | .cond _ a b => match regN n a with
    | some c => some c
    | none => regN n b
  | _ => none
noncomputable def ops5 : Array Oper := ((Try.f11.body.bind (regN 5)).getD #[])
def calls5 : List Nat := [0, 8, 15, 16, 25, 32, 33, 44, 53, 54, 59, 62, 63]
theorem nosel5 : Region.noSelect ops5 = true := by kernel_rfl
def ls5 (is : List Nat) : Array Bool := updB (Array.replicate 74 false) is
theorem size5 : ops5.size = 74 := by kernel_rfl
def ch5_0 : List Nat := [0, 1, 2, 3, 4, 5, 6, 7, 9, 10, 11, 12, 13, 14]
def ch5_1 : List Nat := [8, 15, 16, 17, 18, 19, 20, 21, 22, 23, 24]
def ch5_2 : List Nat := [26, 27, 28, 29, 30, 31, 25, 32, 33, 34, 35]
def ch5_3 : List Nat := [36, 37, 38, 39, 40, 41, 42, 43]
def ch5_4 : List Nat := [45, 46, 47, 48, 49, 50, 51, 52]
def ch5_5 : List Nat := [44, 53, 54, 55, 56, 57, 58, 60, 61]
def ch5_6 : List Nat := [59, 62, 63, 64, 65, 66, 67, 68, 69]
def ch5_7 : List Nat := [70, 71, 72, 73]
def ix5 : List Nat := ch5_0 ++ ch5_1 ++ ch5_2 ++ ch5_3 ++ ch5_4 ++ ch5_5 ++ ch5_6 ++ ch5_7
theorem ix5_lit : ix5 = [0, 1, 2, 3, 4, 5, 6, 7, 9, 10, 11, 12, 13, 14, 8, 15, 16, 17, 18, 19, 20, 21, 22, 23, 24, 26, 27, 28, 29, 30, 31, 25, 32, 33, 34, 35, 36, 37, 38, 39, 40, 41, 42, 43, 45, 46, 47, 48, 49, 50, 51, 52, 44, 53, 54, 55, 56, 57, 58, 60, 61, 59, 62, 63, 64, 65, 66, 67, 68, 69, 70, 71, 72, 73] := rfl
theorem ord5_0 : orderP ops5 calls5 (ls5 ([])) ch5_0 = true := by kernel_rfl
theorem ord5_1 : orderP ops5 calls5 (ls5 ([] ++ ch5_0)) ch5_1 = true := by kernel_rfl
theorem ord5_2 : orderP ops5 calls5 (ls5 ([] ++ ch5_0 ++ ch5_1)) ch5_2 = true := by kernel_rfl
theorem ord5_3 : orderP ops5 calls5 (ls5 ([] ++ ch5_0 ++ ch5_1 ++ ch5_2)) ch5_3 = true := by kernel_rfl
theorem ord5_4 : orderP ops5 calls5 (ls5 ([] ++ ch5_0 ++ ch5_1 ++ ch5_2 ++ ch5_3)) ch5_4 = true := by kernel_rfl
theorem ord5_5 : orderP ops5 calls5 (ls5 ([] ++ ch5_0 ++ ch5_1 ++ ch5_2 ++ ch5_3 ++ ch5_4)) ch5_5 = true := by kernel_rfl
theorem ord5_6 : orderP ops5 calls5 (ls5 ([] ++ ch5_0 ++ ch5_1 ++ ch5_2 ++ ch5_3 ++ ch5_4 ++ ch5_5)) ch5_6 = true := by kernel_rfl
theorem ord5_7 : orderP ops5 calls5 (ls5 ([] ++ ch5_0 ++ ch5_1 ++ ch5_2 ++ ch5_3 ++ ch5_4 ++ ch5_5 ++ ch5_6)) ch5_7 = true := by kernel_rfl
theorem done5 : Region.ready .any ops5 (ls5 ix5) = [] := by kernel_rfl
theorem updB_app (ls : Array Bool) (a b : List Nat) : updB ls (a ++ b) = updB (updB ls a) b := by unfold updB; rw [List.foldl_append]
theorem ord5 : orderP ops5 calls5 (Array.replicate ops5.size false) ix5 = true := by
  rw [size5]
  have h0 : orderP ops5 calls5 (Array.replicate 74 false) ch5_0 = true := ord5_0
  have h1 : orderP ops5 calls5 (Array.replicate 74 false) (ch5_0 ++ ch5_1) = true := by rw [orderP_app, h0, Bool.true_and]; exact ord5_1
  have h2 : orderP ops5 calls5 (Array.replicate 74 false) (ch5_0 ++ ch5_1 ++ ch5_2) = true := by rw [orderP_app, h1, Bool.true_and]; exact ord5_2
  have h3 : orderP ops5 calls5 (Array.replicate 74 false) (ch5_0 ++ ch5_1 ++ ch5_2 ++ ch5_3) = true := by rw [orderP_app, h2, Bool.true_and]; exact ord5_3
  have h4 : orderP ops5 calls5 (Array.replicate 74 false) (ch5_0 ++ ch5_1 ++ ch5_2 ++ ch5_3 ++ ch5_4) = true := by rw [orderP_app, h3, Bool.true_and]; exact ord5_4
  have h5 : orderP ops5 calls5 (Array.replicate 74 false) (ch5_0 ++ ch5_1 ++ ch5_2 ++ ch5_3 ++ ch5_4 ++ ch5_5) = true := by rw [orderP_app, h4, Bool.true_and]; exact ord5_5
  have h6 : orderP ops5 calls5 (Array.replicate 74 false) (ch5_0 ++ ch5_1 ++ ch5_2 ++ ch5_3 ++ ch5_4 ++ ch5_5 ++ ch5_6) = true := by rw [orderP_app, h5, Bool.true_and]; exact ord5_6
  have h7 : orderP ops5 calls5 (Array.replicate 74 false) (ch5_0 ++ ch5_1 ++ ch5_2 ++ ch5_3 ++ ch5_4 ++ ch5_5 ++ ch5_6 ++ ch5_7) = true := by rw [orderP_app, h6, Bool.true_and]; exact ord5_7
  exact h7
theorem region5 {ops : Array Oper} (hops : ops = ops5) {S : World → Prop} {Q : Exit → Act → World → Prop} {a : Act} {w : World} (h : seqW Try.prog ops S (NoPanic Q) calls5 ix5 a w.drew) : (Code.region 5 ops true).wp Try.prog Q a w := by
  subst hops
  refine wp_region_noPanic (wp_region_held (S := S) (by kernel_rfl) ?_)
  have h1 := wpAnyH_of_seq (P := Try.prog) (S := S) (Q := NoPanic Q) (calls := calls5) nosel5 (fun _ _ _ _ _ h => h) ix5 _ a w.drew ord5 (by rw [size5]; exact done5) h
  have h2 : ix5.length = ops5.size := by rw [size5]; rfl
  rw [h2] at h1
  exact h1
end Go.Proofs.Ytcapaiiegfedmaa
