/- Parts of this session's proof, one behind the other: E1 E2. -/
import Derived.Test.YtehmcahdjldhbaaGreatDoorZ05
section
/- Package class: Punct; package escape: Sign. -/
open Go Go.RowKit
set_option linter.unusedVariables false
set_option linter.unusedSimpArgs false
set_option maxRecDepth 100000
namespace Go.Proofs.YtehmcahdjldhbaaGreatDoor
open Wk
namespace Tx
abbrev Bs := List UInt8
def spans : List (Int × Int) := [(33, 47), (58, 64), (91, 96), (123, 126), (161, 169), (171, 172), (174, 177), (180, 180), (182, 184), (187, 187), (191, 191), (215, 215), (247, 247), (8208, 8231), (8240, 8286), (8352, 8384), (12289, 12291), (12296, 12319), (65281, 65295)]
def inSpan (n : Int) (s : Int × Int) : Bool := decide (s.1 ≤ n) && decide (n ≤ s.2)
def punct (n : Int) : Bool := spans.any (inSpan n)
def sign (b : UInt8) : Bool := decide (b.toNat < 128) && punct b.toNat
theorem has_any (lo hi n : Int) (w : World) :
    Calls Tryz.prog 165 #[.agg #[.int .i32 lo, .int .i32 hi], .int .i32 n] w fun e w' => e = .returned (.bool (inSpan n (lo, hi))) ∧ Below w.heap.size w w' := by
  go_enter Tryz.func165, Tryz.ntmps165
  go_wp2
  all_goals go_ret
  all_goals refine ⟨ret_bool ?_, (Below.refl _ _).alloc (Nat.le_refl _) _⟩
  all_goals unfold inSpan
  all_goals simp_all
  all_goals omega
  all_goals omega
theorem below_tr {a b c : World} (h : Below a.heap.size a b) (g : Below b.heap.size b c) : Below a.heap.size a c := h.trans (g.mono h.size)
theorem below_al {a b : World} (h : Below a.heap.size a b) (o : Obj) : Below a.heap.size a (b.alloc o) := h.alloc h.size o
def spanCells : Array Value := #[.int .i32 33, .int .i32 47, .int .i32 58, .int .i32 64, .int .i32 91, .int .i32 96, .int .i32 123, .int .i32 126, .int .i32 161, .int .i32 169, .int .i32 171, .int .i32 172, .int .i32 174, .int .i32 177, .int .i32 180, .int .i32 180, .int .i32 182, .int .i32 184, .int .i32 187, .int .i32 187, .int .i32 191, .int .i32 191, .int .i32 215, .int .i32 215, .int .i32 247, .int .i32 247, .int .i32 8208, .int .i32 8231, .int .i32 8240, .int .i32 8286, .int .i32 8352, .int .i32 8384, .int .i32 12289, .int .i32 12291, .int .i32 12296, .int .i32 12319, .int .i32 65281, .int .i32 65295]
theorem span_0 (w : World) : (Instr.index 169 (.agg #[.int .i32 33, .int .i32 47, .int .i32 58, .int .i32 64, .int .i32 91, .int .i32 96, .int .i32 123, .int .i32 126, .int .i32 161, .int .i32 169, .int .i32 171, .int .i32 172, .int .i32 174, .int .i32 177, .int .i32 180, .int .i32 180, .int .i32 182, .int .i32 184, .int .i32 187, .int .i32 187, .int .i32 191, .int .i32 191, .int .i32 215, .int .i32 215, .int .i32 247, .int .i32 247, .int .i32 8208, .int .i32 8231, .int .i32 8240, .int .i32 8286, .int .i32 8352, .int .i32 8384, .int .i32 12289, .int .i32 12291, .int .i32 12296, .int .i32 12319, .int .i32 65281, .int .i32 65295]) (.int .i64 0)).run Tryz.prog w = .ok (.agg #[.int .i32 33, .int .i32 47]) w := by kernel_rfl
theorem span_1 (w : World) : (Instr.index 169 (.agg #[.int .i32 33, .int .i32 47, .int .i32 58, .int .i32 64, .int .i32 91, .int .i32 96, .int .i32 123, .int .i32 126, .int .i32 161, .int .i32 169, .int .i32 171, .int .i32 172, .int .i32 174, .int .i32 177, .int .i32 180, .int .i32 180, .int .i32 182, .int .i32 184, .int .i32 187, .int .i32 187, .int .i32 191, .int .i32 191, .int .i32 215, .int .i32 215, .int .i32 247, .int .i32 247, .int .i32 8208, .int .i32 8231, .int .i32 8240, .int .i32 8286, .int .i32 8352, .int .i32 8384, .int .i32 12289, .int .i32 12291, .int .i32 12296, .int .i32 12319, .int .i32 65281, .int .i32 65295]) (.int .i64 1)).run Tryz.prog w = .ok (.agg #[.int .i32 58, .int .i32 64]) w := by kernel_rfl
theorem span_2 (w : World) : (Instr.index 169 (.agg #[.int .i32 33, .int .i32 47, .int .i32 58, .int .i32 64, .int .i32 91, .int .i32 96, .int .i32 123, .int .i32 126, .int .i32 161, .int .i32 169, .int .i32 171, .int .i32 172, .int .i32 174, .int .i32 177, .int .i32 180, .int .i32 180, .int .i32 182, .int .i32 184, .int .i32 187, .int .i32 187, .int .i32 191, .int .i32 191, .int .i32 215, .int .i32 215, .int .i32 247, .int .i32 247, .int .i32 8208, .int .i32 8231, .int .i32 8240, .int .i32 8286, .int .i32 8352, .int .i32 8384, .int .i32 12289, .int .i32 12291, .int .i32 12296, .int .i32 12319, .int .i32 65281, .int .i32 65295]) (.int .i64 2)).run Tryz.prog w = .ok (.agg #[.int .i32 91, .int .i32 96]) w := by kernel_rfl
theorem span_3 (w : World) : (Instr.index 169 (.agg #[.int .i32 33, .int .i32 47, .int .i32 58, .int .i32 64, .int .i32 91, .int .i32 96, .int .i32 123, .int .i32 126, .int .i32 161, .int .i32 169, .int .i32 171, .int .i32 172, .int .i32 174, .int .i32 177, .int .i32 180, .int .i32 180, .int .i32 182, .int .i32 184, .int .i32 187, .int .i32 187, .int .i32 191, .int .i32 191, .int .i32 215, .int .i32 215, .int .i32 247, .int .i32 247, .int .i32 8208, .int .i32 8231, .int .i32 8240, .int .i32 8286, .int .i32 8352, .int .i32 8384, .int .i32 12289, .int .i32 12291, .int .i32 12296, .int .i32 12319, .int .i32 65281, .int .i32 65295]) (.int .i64 3)).run Tryz.prog w = .ok (.agg #[.int .i32 123, .int .i32 126]) w := by kernel_rfl
theorem span_4 (w : World) : (Instr.index 169 (.agg #[.int .i32 33, .int .i32 47, .int .i32 58, .int .i32 64, .int .i32 91, .int .i32 96, .int .i32 123, .int .i32 126, .int .i32 161, .int .i32 169, .int .i32 171, .int .i32 172, .int .i32 174, .int .i32 177, .int .i32 180, .int .i32 180, .int .i32 182, .int .i32 184, .int .i32 187, .int .i32 187, .int .i32 191, .int .i32 191, .int .i32 215, .int .i32 215, .int .i32 247, .int .i32 247, .int .i32 8208, .int .i32 8231, .int .i32 8240, .int .i32 8286, .int .i32 8352, .int .i32 8384, .int .i32 12289, .int .i32 12291, .int .i32 12296, .int .i32 12319, .int .i32 65281, .int .i32 65295]) (.int .i64 4)).run Tryz.prog w = .ok (.agg #[.int .i32 161, .int .i32 169]) w := by kernel_rfl
theorem span_5 (w : World) : (Instr.index 169 (.agg #[.int .i32 33, .int .i32 47, .int .i32 58, .int .i32 64, .int .i32 91, .int .i32 96, .int .i32 123, .int .i32 126, .int .i32 161, .int .i32 169, .int .i32 171, .int .i32 172, .int .i32 174, .int .i32 177, .int .i32 180, .int .i32 180, .int .i32 182, .int .i32 184, .int .i32 187, .int .i32 187, .int .i32 191, .int .i32 191, .int .i32 215, .int .i32 215, .int .i32 247, .int .i32 247, .int .i32 8208, .int .i32 8231, .int .i32 8240, .int .i32 8286, .int .i32 8352, .int .i32 8384, .int .i32 12289, .int .i32 12291, .int .i32 12296, .int .i32 12319, .int .i32 65281, .int .i32 65295]) (.int .i64 5)).run Tryz.prog w = .ok (.agg #[.int .i32 171, .int .i32 172]) w := by kernel_rfl
theorem span_6 (w : World) : (Instr.index 169 (.agg #[.int .i32 33, .int .i32 47, .int .i32 58, .int .i32 64, .int .i32 91, .int .i32 96, .int .i32 123, .int .i32 126, .int .i32 161, .int .i32 169, .int .i32 171, .int .i32 172, .int .i32 174, .int .i32 177, .int .i32 180, .int .i32 180, .int .i32 182, .int .i32 184, .int .i32 187, .int .i32 187, .int .i32 191, .int .i32 191, .int .i32 215, .int .i32 215, .int .i32 247, .int .i32 247, .int .i32 8208, .int .i32 8231, .int .i32 8240, .int .i32 8286, .int .i32 8352, .int .i32 8384, .int .i32 12289, .int .i32 12291, .int .i32 12296, .int .i32 12319, .int .i32 65281, .int .i32 65295]) (.int .i64 6)).run Tryz.prog w = .ok (.agg #[.int .i32 174, .int .i32 177]) w := by kernel_rfl
theorem span_7 (w : World) : (Instr.index 169 (.agg #[.int .i32 33, .int .i32 47, .int .i32 58, .int .i32 64, .int .i32 91, .int .i32 96, .int .i32 123, .int .i32 126, .int .i32 161, .int .i32 169, .int .i32 171, .int .i32 172, .int .i32 174, .int .i32 177, .int .i32 180, .int .i32 180, .int .i32 182, .int .i32 184, .int .i32 187, .int .i32 187, .int .i32 191, .int .i32 191, .int .i32 215, .int .i32 215, .int .i32 247, .int .i32 247, .int .i32 8208, .int .i32 8231, .int .i32 8240, .int .i32 8286, .int .i32 8352, .int .i32 8384, .int .i32 12289, .int .i32 12291, .int .i32 12296, .int .i32 12319, .int .i32 65281, .int .i32 65295]) (.int .i64 7)).run Tryz.prog w = .ok (.agg #[.int .i32 180, .int .i32 180]) w := by kernel_rfl
theorem span_8 (w : World) : (Instr.index 169 (.agg #[.int .i32 33, .int .i32 47, .int .i32 58, .int .i32 64, .int .i32 91, .int .i32 96, .int .i32 123, .int .i32 126, .int .i32 161, .int .i32 169, .int .i32 171, .int .i32 172, .int .i32 174, .int .i32 177, .int .i32 180, .int .i32 180, .int .i32 182, .int .i32 184, .int .i32 187, .int .i32 187, .int .i32 191, .int .i32 191, .int .i32 215, .int .i32 215, .int .i32 247, .int .i32 247, .int .i32 8208, .int .i32 8231, .int .i32 8240, .int .i32 8286, .int .i32 8352, .int .i32 8384, .int .i32 12289, .int .i32 12291, .int .i32 12296, .int .i32 12319, .int .i32 65281, .int .i32 65295]) (.int .i64 8)).run Tryz.prog w = .ok (.agg #[.int .i32 182, .int .i32 184]) w := by kernel_rfl
theorem span_9 (w : World) : (Instr.index 169 (.agg #[.int .i32 33, .int .i32 47, .int .i32 58, .int .i32 64, .int .i32 91, .int .i32 96, .int .i32 123, .int .i32 126, .int .i32 161, .int .i32 169, .int .i32 171, .int .i32 172, .int .i32 174, .int .i32 177, .int .i32 180, .int .i32 180, .int .i32 182, .int .i32 184, .int .i32 187, .int .i32 187, .int .i32 191, .int .i32 191, .int .i32 215, .int .i32 215, .int .i32 247, .int .i32 247, .int .i32 8208, .int .i32 8231, .int .i32 8240, .int .i32 8286, .int .i32 8352, .int .i32 8384, .int .i32 12289, .int .i32 12291, .int .i32 12296, .int .i32 12319, .int .i32 65281, .int .i32 65295]) (.int .i64 9)).run Tryz.prog w = .ok (.agg #[.int .i32 187, .int .i32 187]) w := by kernel_rfl
theorem span_10 (w : World) : (Instr.index 169 (.agg #[.int .i32 33, .int .i32 47, .int .i32 58, .int .i32 64, .int .i32 91, .int .i32 96, .int .i32 123, .int .i32 126, .int .i32 161, .int .i32 169, .int .i32 171, .int .i32 172, .int .i32 174, .int .i32 177, .int .i32 180, .int .i32 180, .int .i32 182, .int .i32 184, .int .i32 187, .int .i32 187, .int .i32 191, .int .i32 191, .int .i32 215, .int .i32 215, .int .i32 247, .int .i32 247, .int .i32 8208, .int .i32 8231, .int .i32 8240, .int .i32 8286, .int .i32 8352, .int .i32 8384, .int .i32 12289, .int .i32 12291, .int .i32 12296, .int .i32 12319, .int .i32 65281, .int .i32 65295]) (.int .i64 10)).run Tryz.prog w = .ok (.agg #[.int .i32 191, .int .i32 191]) w := by kernel_rfl
theorem span_11 (w : World) : (Instr.index 169 (.agg #[.int .i32 33, .int .i32 47, .int .i32 58, .int .i32 64, .int .i32 91, .int .i32 96, .int .i32 123, .int .i32 126, .int .i32 161, .int .i32 169, .int .i32 171, .int .i32 172, .int .i32 174, .int .i32 177, .int .i32 180, .int .i32 180, .int .i32 182, .int .i32 184, .int .i32 187, .int .i32 187, .int .i32 191, .int .i32 191, .int .i32 215, .int .i32 215, .int .i32 247, .int .i32 247, .int .i32 8208, .int .i32 8231, .int .i32 8240, .int .i32 8286, .int .i32 8352, .int .i32 8384, .int .i32 12289, .int .i32 12291, .int .i32 12296, .int .i32 12319, .int .i32 65281, .int .i32 65295]) (.int .i64 11)).run Tryz.prog w = .ok (.agg #[.int .i32 215, .int .i32 215]) w := by kernel_rfl
theorem span_12 (w : World) : (Instr.index 169 (.agg #[.int .i32 33, .int .i32 47, .int .i32 58, .int .i32 64, .int .i32 91, .int .i32 96, .int .i32 123, .int .i32 126, .int .i32 161, .int .i32 169, .int .i32 171, .int .i32 172, .int .i32 174, .int .i32 177, .int .i32 180, .int .i32 180, .int .i32 182, .int .i32 184, .int .i32 187, .int .i32 187, .int .i32 191, .int .i32 191, .int .i32 215, .int .i32 215, .int .i32 247, .int .i32 247, .int .i32 8208, .int .i32 8231, .int .i32 8240, .int .i32 8286, .int .i32 8352, .int .i32 8384, .int .i32 12289, .int .i32 12291, .int .i32 12296, .int .i32 12319, .int .i32 65281, .int .i32 65295]) (.int .i64 12)).run Tryz.prog w = .ok (.agg #[.int .i32 247, .int .i32 247]) w := by kernel_rfl
theorem span_13 (w : World) : (Instr.index 169 (.agg #[.int .i32 33, .int .i32 47, .int .i32 58, .int .i32 64, .int .i32 91, .int .i32 96, .int .i32 123, .int .i32 126, .int .i32 161, .int .i32 169, .int .i32 171, .int .i32 172, .int .i32 174, .int .i32 177, .int .i32 180, .int .i32 180, .int .i32 182, .int .i32 184, .int .i32 187, .int .i32 187, .int .i32 191, .int .i32 191, .int .i32 215, .int .i32 215, .int .i32 247, .int .i32 247, .int .i32 8208, .int .i32 8231, .int .i32 8240, .int .i32 8286, .int .i32 8352, .int .i32 8384, .int .i32 12289, .int .i32 12291, .int .i32 12296, .int .i32 12319, .int .i32 65281, .int .i32 65295]) (.int .i64 13)).run Tryz.prog w = .ok (.agg #[.int .i32 8208, .int .i32 8231]) w := by kernel_rfl
theorem span_14 (w : World) : (Instr.index 169 (.agg #[.int .i32 33, .int .i32 47, .int .i32 58, .int .i32 64, .int .i32 91, .int .i32 96, .int .i32 123, .int .i32 126, .int .i32 161, .int .i32 169, .int .i32 171, .int .i32 172, .int .i32 174, .int .i32 177, .int .i32 180, .int .i32 180, .int .i32 182, .int .i32 184, .int .i32 187, .int .i32 187, .int .i32 191, .int .i32 191, .int .i32 215, .int .i32 215, .int .i32 247, .int .i32 247, .int .i32 8208, .int .i32 8231, .int .i32 8240, .int .i32 8286, .int .i32 8352, .int .i32 8384, .int .i32 12289, .int .i32 12291, .int .i32 12296, .int .i32 12319, .int .i32 65281, .int .i32 65295]) (.int .i64 14)).run Tryz.prog w = .ok (.agg #[.int .i32 8240, .int .i32 8286]) w := by kernel_rfl
theorem span_15 (w : World) : (Instr.index 169 (.agg #[.int .i32 33, .int .i32 47, .int .i32 58, .int .i32 64, .int .i32 91, .int .i32 96, .int .i32 123, .int .i32 126, .int .i32 161, .int .i32 169, .int .i32 171, .int .i32 172, .int .i32 174, .int .i32 177, .int .i32 180, .int .i32 180, .int .i32 182, .int .i32 184, .int .i32 187, .int .i32 187, .int .i32 191, .int .i32 191, .int .i32 215, .int .i32 215, .int .i32 247, .int .i32 247, .int .i32 8208, .int .i32 8231, .int .i32 8240, .int .i32 8286, .int .i32 8352, .int .i32 8384, .int .i32 12289, .int .i32 12291, .int .i32 12296, .int .i32 12319, .int .i32 65281, .int .i32 65295]) (.int .i64 15)).run Tryz.prog w = .ok (.agg #[.int .i32 8352, .int .i32 8384]) w := by kernel_rfl
theorem span_16 (w : World) : (Instr.index 169 (.agg #[.int .i32 33, .int .i32 47, .int .i32 58, .int .i32 64, .int .i32 91, .int .i32 96, .int .i32 123, .int .i32 126, .int .i32 161, .int .i32 169, .int .i32 171, .int .i32 172, .int .i32 174, .int .i32 177, .int .i32 180, .int .i32 180, .int .i32 182, .int .i32 184, .int .i32 187, .int .i32 187, .int .i32 191, .int .i32 191, .int .i32 215, .int .i32 215, .int .i32 247, .int .i32 247, .int .i32 8208, .int .i32 8231, .int .i32 8240, .int .i32 8286, .int .i32 8352, .int .i32 8384, .int .i32 12289, .int .i32 12291, .int .i32 12296, .int .i32 12319, .int .i32 65281, .int .i32 65295]) (.int .i64 16)).run Tryz.prog w = .ok (.agg #[.int .i32 12289, .int .i32 12291]) w := by kernel_rfl
theorem span_17 (w : World) : (Instr.index 169 (.agg #[.int .i32 33, .int .i32 47, .int .i32 58, .int .i32 64, .int .i32 91, .int .i32 96, .int .i32 123, .int .i32 126, .int .i32 161, .int .i32 169, .int .i32 171, .int .i32 172, .int .i32 174, .int .i32 177, .int .i32 180, .int .i32 180, .int .i32 182, .int .i32 184, .int .i32 187, .int .i32 187, .int .i32 191, .int .i32 191, .int .i32 215, .int .i32 215, .int .i32 247, .int .i32 247, .int .i32 8208, .int .i32 8231, .int .i32 8240, .int .i32 8286, .int .i32 8352, .int .i32 8384, .int .i32 12289, .int .i32 12291, .int .i32 12296, .int .i32 12319, .int .i32 65281, .int .i32 65295]) (.int .i64 17)).run Tryz.prog w = .ok (.agg #[.int .i32 12296, .int .i32 12319]) w := by kernel_rfl
theorem span_18 (w : World) : (Instr.index 169 (.agg #[.int .i32 33, .int .i32 47, .int .i32 58, .int .i32 64, .int .i32 91, .int .i32 96, .int .i32 123, .int .i32 126, .int .i32 161, .int .i32 169, .int .i32 171, .int .i32 172, .int .i32 174, .int .i32 177, .int .i32 180, .int .i32 180, .int .i32 182, .int .i32 184, .int .i32 187, .int .i32 187, .int .i32 191, .int .i32 191, .int .i32 215, .int .i32 215, .int .i32 247, .int .i32 247, .int .i32 8208, .int .i32 8231, .int .i32 8240, .int .i32 8286, .int .i32 8352, .int .i32 8384, .int .i32 12289, .int .i32 12291, .int .i32 12296, .int .i32 12319, .int .i32 65281, .int .i32 65295]) (.int .i64 18)).run Tryz.prog w = .ok (.agg #[.int .i32 65281, .int .i32 65295]) w := by kernel_rfl
set_option maxHeartbeats 16000000 in
theorem Punct_any (n : Int) (w : World) :
    Calls Tryz.prog 140 #[.int .i32 n] w fun e w' => e = .returned (.bool (punct n)) ∧ Below w.heap.size w w' := by
  go_enter Tryz.func140, Tryz.ntmps140
  go_wp2
  go_loopw [25] (fun kk wr => ∃ i : Nat, kk = .int .i64 i ∧ i ≤ 19 ∧ Hid (punct n = (spans.drop i).any (inSpan n)) ∧ Below w.heap.size w wr) (fun kk _ => 19 - (Lib.intOf kk).toNat)
  case atStart => exact ⟨0, rfl, by omega, Lib.hid rfl, Below.refl _ _⟩
  case round =>
    obtain ⟨i, rfl, hi, hA, hb⟩ := hrel
    have step : ∀ s t, spans.drop i = s :: t → Hid (punct n = (inSpan n s || (spans.drop (i + 1)).any (inSpan n))) := fun s t e => by
      apply Lib.hid; rw [hA.out, e, List.any_cons]
      have : spans.drop (i + 1) = t := by rw [← List.drop_drop, e]; rfl
      rw [this]
    have hcase : i = 0 ∨ i = 1 ∨ i = 2 ∨ i = 3 ∨ i = 4 ∨ i = 5 ∨ i = 6 ∨ i = 7 ∨ i = 8 ∨ i = 9 ∨ i = 10 ∨ i = 11 ∨ i = 12 ∨ i = 13 ∨ i = 14 ∨ i = 15 ∨ i = 16 ∨ i = 17 ∨ i = 18 ∨ i = 19 := by omega
    rcases hcase with rfl | rfl | rfl | rfl | rfl | rfl | rfl | rfl | rfl | rfl | rfl | rfl | rfl | rfl | rfl | rfl | rfl | rfl | rfl | rfl
    · have S := step _ _ rfl
      have IX := span_0
      clear step hA
      go_wp2_with (go_at_call 165; (with_reducible refine (has_any _ _ n _).mono ?_); rintro e w1 ⟨rfl, b1⟩)
      · have q : inSpan n (33, 47) = true := by assumption
        go_ret
        exact ⟨ret_bool (by rw [S.out, q]; rfl), below_tr (below_al hb _) b1⟩
      · have q : inSpan n (33, 47) = false := by assumption
        go_roundw
        case rel => exact ⟨1, rfl, by omega, by apply Lib.hid; rw [S.out, q]; rfl, below_tr (below_al hb _) b1⟩
        case measure => simp [Lib.intOf]
    · have S := step _ _ rfl
      have IX := span_1
      clear step hA
      go_wp2_with (go_at_call 165; (with_reducible refine (has_any _ _ n _).mono ?_); rintro e w1 ⟨rfl, b1⟩)
      · have q : inSpan n (58, 64) = true := by assumption
        go_ret
        exact ⟨ret_bool (by rw [S.out, q]; rfl), below_tr (below_al hb _) b1⟩
      · have q : inSpan n (58, 64) = false := by assumption
        go_roundw
        case rel => exact ⟨2, rfl, by omega, by apply Lib.hid; rw [S.out, q]; rfl, below_tr (below_al hb _) b1⟩
        case measure => simp [Lib.intOf]
    · have S := step _ _ rfl
      have IX := span_2
      clear step hA
      go_wp2_with (go_at_call 165; (with_reducible refine (has_any _ _ n _).mono ?_); rintro e w1 ⟨rfl, b1⟩)
      · have q : inSpan n (91, 96) = true := by assumption
        go_ret
        exact ⟨ret_bool (by rw [S.out, q]; rfl), below_tr (below_al hb _) b1⟩
      · have q : inSpan n (91, 96) = false := by assumption
        go_roundw
        case rel => exact ⟨3, rfl, by omega, by apply Lib.hid; rw [S.out, q]; rfl, below_tr (below_al hb _) b1⟩
        case measure => simp [Lib.intOf]
    · have S := step _ _ rfl
      have IX := span_3
      clear step hA
      go_wp2_with (go_at_call 165; (with_reducible refine (has_any _ _ n _).mono ?_); rintro e w1 ⟨rfl, b1⟩)
      · have q : inSpan n (123, 126) = true := by assumption
        go_ret
        exact ⟨ret_bool (by rw [S.out, q]; rfl), below_tr (below_al hb _) b1⟩
      · have q : inSpan n (123, 126) = false := by assumption
        go_roundw
        case rel => exact ⟨4, rfl, by omega, by apply Lib.hid; rw [S.out, q]; rfl, below_tr (below_al hb _) b1⟩
        case measure => simp [Lib.intOf]
    · have S := step _ _ rfl
      have IX := span_4
      clear step hA
      go_wp2_with (go_at_call 165; (with_reducible refine (has_any _ _ n _).mono ?_); rintro e w1 ⟨rfl, b1⟩)
      · have q : inSpan n (161, 169) = true := by assumption
        go_ret
        exact ⟨ret_bool (by rw [S.out, q]; rfl), below_tr (below_al hb _) b1⟩
      · have q : inSpan n (161, 169) = false := by assumption
        go_roundw
        case rel => exact ⟨5, rfl, by omega, by apply Lib.hid; rw [S.out, q]; rfl, below_tr (below_al hb _) b1⟩
        case measure => simp [Lib.intOf]
    · have S := step _ _ rfl
      have IX := span_5
      clear step hA
      go_wp2_with (go_at_call 165; (with_reducible refine (has_any _ _ n _).mono ?_); rintro e w1 ⟨rfl, b1⟩)
      · have q : inSpan n (171, 172) = true := by assumption
        go_ret
        exact ⟨ret_bool (by rw [S.out, q]; rfl), below_tr (below_al hb _) b1⟩
      · have q : inSpan n (171, 172) = false := by assumption
        go_roundw
        case rel => exact ⟨6, rfl, by omega, by apply Lib.hid; rw [S.out, q]; rfl, below_tr (below_al hb _) b1⟩
        case measure => simp [Lib.intOf]
    · have S := step _ _ rfl
      have IX := span_6
      clear step hA
      go_wp2_with (go_at_call 165; (with_reducible refine (has_any _ _ n _).mono ?_); rintro e w1 ⟨rfl, b1⟩)
      · have q : inSpan n (174, 177) = true := by assumption
        go_ret
        exact ⟨ret_bool (by rw [S.out, q]; rfl), below_tr (below_al hb _) b1⟩
      · have q : inSpan n (174, 177) = false := by assumption
        go_roundw
        case rel => exact ⟨7, rfl, by omega, by apply Lib.hid; rw [S.out, q]; rfl, below_tr (below_al hb _) b1⟩
        case measure => simp [Lib.intOf]
    · have S := step _ _ rfl
      have IX := span_7
      clear step hA
      go_wp2_with (go_at_call 165; (with_reducible refine (has_any _ _ n _).mono ?_); rintro e w1 ⟨rfl, b1⟩)
      · have q : inSpan n (180, 180) = true := by assumption
        go_ret
        exact ⟨ret_bool (by rw [S.out, q]; rfl), below_tr (below_al hb _) b1⟩
      · have q : inSpan n (180, 180) = false := by assumption
        go_roundw
        case rel => exact ⟨8, rfl, by omega, by apply Lib.hid; rw [S.out, q]; rfl, below_tr (below_al hb _) b1⟩
        case measure => simp [Lib.intOf]
    · have S := step _ _ rfl
      have IX := span_8
      clear step hA
      go_wp2_with (go_at_call 165; (with_reducible refine (has_any _ _ n _).mono ?_); rintro e w1 ⟨rfl, b1⟩)
      · have q : inSpan n (182, 184) = true := by assumption
        go_ret
        exact ⟨ret_bool (by rw [S.out, q]; rfl), below_tr (below_al hb _) b1⟩
      · have q : inSpan n (182, 184) = false := by assumption
        go_roundw
        case rel => exact ⟨9, rfl, by omega, by apply Lib.hid; rw [S.out, q]; rfl, below_tr (below_al hb _) b1⟩
        case measure => simp [Lib.intOf]
    · have S := step _ _ rfl
      have IX := span_9
      clear step hA
      go_wp2_with (go_at_call 165; (with_reducible refine (has_any _ _ n _).mono ?_); rintro e w1 ⟨rfl, b1⟩)
      · have q : inSpan n (187, 187) = true := by assumption
        go_ret
        exact ⟨ret_bool (by rw [S.out, q]; rfl), below_tr (below_al hb _) b1⟩
      · have q : inSpan n (187, 187) = false := by assumption
        go_roundw
        case rel => exact ⟨10, rfl, by omega, by apply Lib.hid; rw [S.out, q]; rfl, below_tr (below_al hb _) b1⟩
        case measure => simp [Lib.intOf]
    · have S := step _ _ rfl
      have IX := span_10
      clear step hA
      go_wp2_with (go_at_call 165; (with_reducible refine (has_any _ _ n _).mono ?_); rintro e w1 ⟨rfl, b1⟩)
      · have q : inSpan n (191, 191) = true := by assumption
        go_ret
        exact ⟨ret_bool (by rw [S.out, q]; rfl), below_tr (below_al hb _) b1⟩
      · have q : inSpan n (191, 191) = false := by assumption
        go_roundw
        case rel => exact ⟨11, rfl, by omega, by apply Lib.hid; rw [S.out, q]; rfl, below_tr (below_al hb _) b1⟩
        case measure => simp [Lib.intOf]
    · have S := step _ _ rfl
      have IX := span_11
      clear step hA
      go_wp2_with (go_at_call 165; (with_reducible refine (has_any _ _ n _).mono ?_); rintro e w1 ⟨rfl, b1⟩)
      · have q : inSpan n (215, 215) = true := by assumption
        go_ret
        exact ⟨ret_bool (by rw [S.out, q]; rfl), below_tr (below_al hb _) b1⟩
      · have q : inSpan n (215, 215) = false := by assumption
        go_roundw
        case rel => exact ⟨12, rfl, by omega, by apply Lib.hid; rw [S.out, q]; rfl, below_tr (below_al hb _) b1⟩
        case measure => simp [Lib.intOf]
    · have S := step _ _ rfl
      have IX := span_12
      clear step hA
      go_wp2_with (go_at_call 165; (with_reducible refine (has_any _ _ n _).mono ?_); rintro e w1 ⟨rfl, b1⟩)
      · have q : inSpan n (247, 247) = true := by assumption
        go_ret
        exact ⟨ret_bool (by rw [S.out, q]; rfl), below_tr (below_al hb _) b1⟩
      · have q : inSpan n (247, 247) = false := by assumption
        go_roundw
        case rel => exact ⟨13, rfl, by omega, by apply Lib.hid; rw [S.out, q]; rfl, below_tr (below_al hb _) b1⟩
        case measure => simp [Lib.intOf]
    · have S := step _ _ rfl
      have IX := span_13
      clear step hA
      go_wp2_with (go_at_call 165; (with_reducible refine (has_any _ _ n _).mono ?_); rintro e w1 ⟨rfl, b1⟩)
      · have q : inSpan n (8208, 8231) = true := by assumption
        go_ret
        exact ⟨ret_bool (by rw [S.out, q]; rfl), below_tr (below_al hb _) b1⟩
      · have q : inSpan n (8208, 8231) = false := by assumption
        go_roundw
        case rel => exact ⟨14, rfl, by omega, by apply Lib.hid; rw [S.out, q]; rfl, below_tr (below_al hb _) b1⟩
        case measure => simp [Lib.intOf]
    · have S := step _ _ rfl
      have IX := span_14
      clear step hA
      go_wp2_with (go_at_call 165; (with_reducible refine (has_any _ _ n _).mono ?_); rintro e w1 ⟨rfl, b1⟩)
      · have q : inSpan n (8240, 8286) = true := by assumption
        go_ret
        exact ⟨ret_bool (by rw [S.out, q]; rfl), below_tr (below_al hb _) b1⟩
      · have q : inSpan n (8240, 8286) = false := by assumption
        go_roundw
        case rel => exact ⟨15, rfl, by omega, by apply Lib.hid; rw [S.out, q]; rfl, below_tr (below_al hb _) b1⟩
        case measure => simp [Lib.intOf]
    · have S := step _ _ rfl
      have IX := span_15
      clear step hA
      go_wp2_with (go_at_call 165; (with_reducible refine (has_any _ _ n _).mono ?_); rintro e w1 ⟨rfl, b1⟩)
      · have q : inSpan n (8352, 8384) = true := by assumption
        go_ret
        exact ⟨ret_bool (by rw [S.out, q]; rfl), below_tr (below_al hb _) b1⟩
      · have q : inSpan n (8352, 8384) = false := by assumption
        go_roundw
        case rel => exact ⟨16, rfl, by omega, by apply Lib.hid; rw [S.out, q]; rfl, below_tr (below_al hb _) b1⟩
        case measure => simp [Lib.intOf]
    · have S := step _ _ rfl
      have IX := span_16
      clear step hA
      go_wp2_with (go_at_call 165; (with_reducible refine (has_any _ _ n _).mono ?_); rintro e w1 ⟨rfl, b1⟩)
      · have q : inSpan n (12289, 12291) = true := by assumption
        go_ret
        exact ⟨ret_bool (by rw [S.out, q]; rfl), below_tr (below_al hb _) b1⟩
      · have q : inSpan n (12289, 12291) = false := by assumption
        go_roundw
        case rel => exact ⟨17, rfl, by omega, by apply Lib.hid; rw [S.out, q]; rfl, below_tr (below_al hb _) b1⟩
        case measure => simp [Lib.intOf]
    · have S := step _ _ rfl
      have IX := span_17
      clear step hA
      go_wp2_with (go_at_call 165; (with_reducible refine (has_any _ _ n _).mono ?_); rintro e w1 ⟨rfl, b1⟩)
      · have q : inSpan n (12296, 12319) = true := by assumption
        go_ret
        exact ⟨ret_bool (by rw [S.out, q]; rfl), below_tr (below_al hb _) b1⟩
      · have q : inSpan n (12296, 12319) = false := by assumption
        go_roundw
        case rel => exact ⟨18, rfl, by omega, by apply Lib.hid; rw [S.out, q]; rfl, below_tr (below_al hb _) b1⟩
        case measure => simp [Lib.intOf]
    · have S := step _ _ rfl
      have IX := span_18
      clear step hA
      go_wp2_with (go_at_call 165; (with_reducible refine (has_any _ _ n _).mono ?_); rintro e w1 ⟨rfl, b1⟩)
      · have q : inSpan n (65281, 65295) = true := by assumption
        go_ret
        exact ⟨ret_bool (by rw [S.out, q]; rfl), below_tr (below_al hb _) b1⟩
      · have q : inSpan n (65281, 65295) = false := by assumption
        go_roundw
        case rel => exact ⟨19, rfl, by omega, by apply Lib.hid; rw [S.out, q]; rfl, below_tr (below_al hb _) b1⟩
        case measure => simp [Lib.intOf]
    · have E : punct n = false := hA.out
      clear step hA
      go_wp2
      go_ret
      exact ⟨ret_bool E.symm, hb⟩
theorem Sign_any (b : UInt8) (w : World) :
    Calls Tryz.prog 112 #[.int .u8 b.toNat] w fun e w' => e = .returned (.bool (sign b)) ∧ Below w.heap.size w w' := by
  have PU := fun w => Punct_any (b.toNat : Int) w
  have hb := b.toNat_lt
  unfold sign
  generalize punct (b.toNat : Int) = p at *
  go_enter Tryz.func112, Tryz.ntmps112
  go_wp2_with (go_at_call 140; (with_reducible refine (PU _).mono ?_); rintro e w1 ⟨rfl, b1⟩)
  · have q : b.toNat < 128 := by omega
    go_ret
    exact ⟨ret_bool (by simp [q]), b1⟩
  · have q : ¬ b.toNat < 128 := by omega
    go_ret
    exact ⟨ret_bool (by simp [q]), Below.refl _ _⟩
end Tx
end Go.Proofs.YtehmcahdjldhbaaGreatDoor
end
section
/- Package link: White; each, at the closure of Label. -/
open Go Go.RowKit
set_option linter.unusedVariables false
set_option linter.unusedSimpArgs false
set_option maxRecDepth 100000
namespace Go.Proofs.YtehmcahdjldhbaaGreatDoor
open Wk
namespace Tx
/-- link.each: over the bytes that are not escaped, until one ends it; how many, and the state then. -/
def eachG {S : Type} (f : S → UInt8 → Option S) : S → Bs → Nat × S
  | s, [] => (0, s)
  | s, [b] => match f s b with
    | none => (0, s)
    | some s' => (1, s')
  | s, b :: c :: t =>
    if b = 92 ∧ sign c = true then ((eachG f s t).1 + 2, (eachG f s t).2)
    else match f s b with
      | none => (0, s)
      | some s' => ((eachG f s' (c :: t)).1 + 1, (eachG f s' (c :: t)).2)
theorem eachG_le {S : Type} (f : S → UInt8 → Option S) : ∀ (s : S) (l : Bs), (eachG f s l).1 ≤ l.length
  | s, [] => Nat.le_refl _
  | s, [b] => by unfold eachG; split <;> simp
  | s, b :: c :: t => by
    unfold eachG
    split
    · have := eachG_le f s t; simp; omega
    · split
      · simp
      · rename_i s' _; have := eachG_le f s' (c :: t); simp at *; omega
theorem eachG_esc {S : Type} (f : S → UInt8 → Option S) (s : S) (c : UInt8) (t : Bs) (h : sign c = true) : eachG f s (92 :: c :: t) = ((eachG f s t).1 + 2, (eachG f s t).2) := by
  rw [eachG, if_pos ⟨rfl, h⟩]
theorem eachG_stop {S : Type} (f : S → UInt8 → Option S) (s : S) (b : UInt8) (t : Bs) (h : b = 92 → ∀ c r, t = c :: r → sign c = false) (hf : f s b = none) : eachG f s (b :: t) = (0, s) := by
  cases t with
  | nil => rw [eachG, hf]
  | cons c t =>
    rw [eachG, if_neg (by rintro ⟨e, g⟩; rw [h e c t rfl] at g; cases g), hf]
theorem eachG_go {S : Type} (f : S → UInt8 → Option S) (s s' : S) (b : UInt8) (t : Bs) (h : b = 92 → ∀ c r, t = c :: r → sign c = false) (hf : f s b = some s') : eachG f s (b :: t) = ((eachG f s' t).1 + 1, (eachG f s' t).2) := by
  cases t with
  | nil => unfold eachG; rw [hf]
  | cons c t =>
    rw [eachG, if_neg (by rintro ⟨e, g⟩; rw [h e c t rfl] at g; cases g), hf]
def setWhite (b : UInt8) : Bool := b == 32 || b == 9 || b == 10
def whiteN (l : Bs) : Nat := (l.takeWhile setWhite).length
theorem whiteN_le (l : Bs) : whiteN l ≤ l.length := by
  unfold whiteN
  induction l with
  | nil => exact Nat.le_refl _
  | cons b t ih => rw [List.takeWhile_cons]; split <;> simp; omega
theorem trimLeft_len_eq (p : UInt8 → Bool) (l : Bs) : (l.takeWhile p).length + (l.dropWhile p).length = l.length := by
  have := congrArg List.length (List.takeWhile_append_dropWhile (p := p) (l := l))
  rwa [List.length_append] at this
theorem White_any (s : ByteArray) (w : World) (hs : s.size ≤ 4000000000) :
    Calls Tryz.prog 183 #[.string s] w fun e w' => e = .returned (.int .i64 (whiteN s.data.toList)) ∧ Below w.heap.size w w' := by
  have TL := fun w => Tryz.strings_TrimLeft_set s ⟨#[32, 9, 10]⟩ w (by decide) (ascii_of_all (by decide))
  have hp : (fun b => ([32, 9, 10] : List UInt8).contains b) = setWhite := by
    funext b; unfold setWhite; simp only [List.contains_cons, List.contains_nil, Bool.or_false, Bool.or_assoc]
  have e : ((Lib.trimLeftS s.data.toList [32, 9, 10]).length : Int) = s.size - whiteN s.data.toList := by
    unfold Lib.trimLeftS
    rw [hp]
    have h1 := trimLeft_len_eq setWhite s.data.toList
    have h2 := Sc.len_size s
    unfold whiteN
    omega
  have hle := whiteN_le s.data.toList
  rw [Sc.len_size] at hle
  have he := Lib.hid e
  clear e hp
  go_enter Tryz.func183, Tryz.ntmps183
  go_wp2_with (go_at_call 88; (with_reducible refine (TL _).mono ?_); rintro e w1 ⟨rfl, b1⟩)
  go_ret
  refine ⟨ret_int ?_, b1⟩
  have := he.out
  unfold wrap64; omega
theorem stopL_any (b : UInt8) (w : World) :
    Calls Tryz.prog 182 #[.int .u8 b.toNat] w fun e w' => e = .returned (.bool (b == 91 || b == 93)) ∧ Below w.heap.size w w' := by
  have e1 : ∀ b : UInt8, ((b.toNat : Int) == 91) = (b == 91) := fun b => beq_u8 b 91 (by decide)
  have e2 : ∀ b : UInt8, ((b.toNat : Int) == 93) = (b == 93) := fun b => beq_u8 b 93 (by decide)
  go_enter Tryz.func182, Tryz.ntmps182
  go_wp2
  · have q : b = 91 := by assumption
    go_ret
    exact ⟨ret_bool (by rw [q]; rfl), Below.refl _ _⟩
  · go_ret
    exact ⟨rfl, Below.refl _ _⟩
def stopLB (b : UInt8) : Bool := b == 91 || b == 93
def stopL (u : Unit) (b : UInt8) : Option Unit := if stopLB b then none else some ()
set_option maxHeartbeats 4000000 in
theorem eachL_any (s : ByteArray) (n : Nat) (w : World) (hs : s.size ≤ 4000000000) (hn : n ≤ s.size) :
    Calls Tryz.prog 181 #[.string s, .int .i64 n, .func (.func 182) #[] #[]] w fun e w' => e = .returned (.int .i64 ((n + (eachG stopL () (s.data.toList.drop n)).1 : Nat) : Int)) ∧ Below w.heap.size w w' := by
  have e92 : ∀ b : UInt8, ((b.toNat : Int) == 92) = (b == 92) := fun b => beq_u8 b 92 (by decide)
  have hlen := Sc.len_size s
  generalize hR : n + (eachG stopL () (s.data.toList.drop n)).1 = R
  have SG := fun (b : UInt8) w => Sign_any b w
  go_enter Tryz.func181, Tryz.ntmps181
  go_wp2
  go_loopw [7] (fun kk wr => ∃ k : Nat, kk = .int .i64 k ∧ k ≤ s.size ∧ Hid (k + (eachG stopL () (s.data.toList.drop k)).1 = R) ∧ Below w.heap.size w wr) (fun kk _ => s.size - (Lib.intOf kk).toNat)
  case atStart => exact ⟨n, rfl, hn, Lib.hid hR, Below.refl _ _⟩
  case round =>
    obtain ⟨k, rfl, hk, hA, hb⟩ := hrel
    by_cases hlt : k < s.size
    · have hd := Sc.drop_at s k hlt
      have hA := Lib.hid (hd ▸ hA.out)
      clear hd hR
      have H0 : (s[k] = 92 → ∀ c r, s.data.toList.drop (k + 1) = c :: r → sign c = false) → stopLB s[k] = true → Hid (k = R) := fun h g => by
        apply Lib.hid
        have := hA.out
        rw [eachG_stop stopL () _ _ h (by unfold stopL; rw [g]; rfl)] at this
        exact this
      have H1 : (s[k] = 92 → ∀ c r, s.data.toList.drop (k + 1) = c :: r → sign c = false) → stopLB s[k] = false → Hid (k + 1 + (eachG stopL () (s.data.toList.drop (k + 1))).1 = R) := fun h g => by
        apply Lib.hid
        have := hA.out
        rw [eachG_go stopL () () _ _ h (by unfold stopL; rw [g]; rfl)] at this
        have this : k + ((eachG stopL () (s.data.toList.drop (k + 1))).1 + 1) = R := this
        omega
      by_cases q : s[k] = 92
      · have q1 : (s[k] == 92) = true := by simpa using q
        by_cases h2 : k + 1 < s.size
        · have hd2 := Sc.drop_at s (k + 1) h2
          cases hg : sign s[k + 1] with
          | true =>
            have H2 : Hid (k + 2 + (eachG stopL () (s.data.toList.drop (k + 2))).1 = R) := by
              apply Lib.hid
              have := hA.out
              rw [q, hd2, eachG_esc _ _ _ _ hg] at this
              have this : k + ((eachG stopL () (s.data.toList.drop (k + 2))).1 + 2) = R := this
              omega
            have SG1 := SG s[k + 1]
            rw [hg] at SG1
            clear H0 H1 hA q hd2 SG hg
            go_wp2_with (go_at_call 112; (with_reducible refine (SG1 _).mono ?_); rintro e w1 ⟨rfl, b1⟩; have hb2 := below_tr hb b1)
            go_roundw
            case rel => exact ⟨k + 2, by go_num, by omega, H2, hb2⟩
            case measure => simp [Lib.intOf]; omega
          | false =>
            have hn2 : s[k] = 92 → ∀ c r, s.data.toList.drop (k + 1) = c :: r → sign c = false := fun _ c r e => by rw [hd2] at e; cases e; exact hg
            have H0 := H0 hn2
            have H1 := H1 hn2
            have SG1 := SG s[k + 1]
            rw [hg] at SG1
            clear hA q hd2 hn2 SG hg
            have ST : ∀ w1, Below w.heap.size w w1 → Calls Tryz.prog 182 #[.int .u8 s[k].toNat] w1 fun e w' => e = .returned (.bool (stopLB s[k])) ∧ Below w1.heap.size w1 w' := fun w1 _ => stopL_any s[k] w1
            cases hst : stopLB s[k] with
            | true =>
              have E := H0 hst
              rw [hst] at ST
              clear H0 H1 hst
              go_wp2_with (first
                | (go_at_call 112; (with_reducible refine (SG1 _).mono ?_); rintro e w1 ⟨rfl, b1⟩; have hb1 := below_tr hb b1)
                | (go_at_call 182; (with_reducible refine (ST _ hb1).mono ?_); rintro e w2 ⟨rfl, b2⟩; have hb2 := below_tr hb1 b2))
              go_ret
              exact ⟨ret_int (by rw [← E.out]), hb2⟩
            | false =>
              have E := H1 hst
              rw [hst] at ST
              clear H0 H1 hst
              go_wp2_with (first
                | (go_at_call 112; (with_reducible refine (SG1 _).mono ?_); rintro e w1 ⟨rfl, b1⟩; have hb1 := below_tr hb b1)
                | (go_at_call 182; (with_reducible refine (ST _ hb1).mono ?_); rintro e w2 ⟨rfl, b2⟩; have hb2 := below_tr hb1 b2))
              go_roundw
              case rel => exact ⟨k + 1, by go_num, by omega, E, hb2⟩
              case measure => simp [Lib.intOf]; omega
        · have hn2 : s[k] = 92 → ∀ c r, s.data.toList.drop (k + 1) = c :: r → sign c = false := fun _ c r e => by rw [List.drop_eq_nil_of_le (by omega)] at e; cases e
          have H0 := H0 hn2
          have H1 := H1 hn2
          clear hA q hn2 SG
          have ST : ∀ w1, Below w.heap.size w w1 → Calls Tryz.prog 182 #[.int .u8 s[k].toNat] w1 fun e w' => e = .returned (.bool (stopLB s[k])) ∧ Below w1.heap.size w1 w' := fun w1 _ => stopL_any s[k] w1
          cases hst : stopLB s[k] with
          | true =>
            have E := H0 hst
            rw [hst] at ST
            clear H0 H1 hst
            go_wp2_with (go_at_call 182; (with_reducible refine (ST _ hb).mono ?_); rintro e w2 ⟨rfl, b2⟩; have hb2 := below_tr hb b2)
            go_ret
            exact ⟨ret_int (by rw [← E.out]), hb2⟩
          | false =>
            have E := H1 hst
            rw [hst] at ST
            clear H0 H1 hst
            go_wp2_with (go_at_call 182; (with_reducible refine (ST _ hb).mono ?_); rintro e w2 ⟨rfl, b2⟩; have hb2 := below_tr hb b2)
            go_roundw
            case rel => exact ⟨k + 1, by go_num, by omega, E, hb2⟩
            case measure => simp [Lib.intOf]; omega
      · have q1 : (s[k] == 92) = false := by simpa using q
        have H0 := H0 fun e => absurd e q
        have H1 := H1 fun e => absurd e q
        clear hA q SG
        have ST : ∀ w1, Below w.heap.size w w1 → Calls Tryz.prog 182 #[.int .u8 s[k].toNat] w1 fun e w' => e = .returned (.bool (stopLB s[k])) ∧ Below w1.heap.size w1 w' := fun w1 _ => stopL_any s[k] w1
        cases hst : stopLB s[k] with
        | true =>
          have E := H0 hst
          rw [hst] at ST
          clear H0 H1 hst
          go_wp2_with (go_at_call 182; (with_reducible refine (ST _ hb).mono ?_); rintro e w2 ⟨rfl, b2⟩; have hb2 := below_tr hb b2)
          go_ret
          exact ⟨ret_int (by rw [← E.out]), hb2⟩
        | false =>
          have E := H1 hst
          rw [hst] at ST
          clear H0 H1 hst
          go_wp2_with (go_at_call 182; (with_reducible refine (ST _ hb).mono ?_); rintro e w2 ⟨rfl, b2⟩; have hb2 := below_tr hb b2)
          go_roundw
          case rel => exact ⟨k + 1, by go_num, by omega, E, hb2⟩
          case measure => simp [Lib.intOf]; omega
    · have hE : k = R := by
        have := hA.out
        rw [List.drop_eq_nil_of_le (by omega)] at this
        exact this
      have hk2 : k = s.size := by omega
      clear hA hR
      go_wp2
      go_ret
      exact ⟨ret_int (by rw [← hE, hk2]), hb⟩
theorem stopA_any (b : UInt8) (w : World) :
    Calls Tryz.prog 205 #[.int .u8 b.toNat] w fun e w' => e = .returned (.bool (b == 60 || b == 62 || b == 10)) ∧ Below w.heap.size w w' := by
  have e1 : ∀ b : UInt8, ((b.toNat : Int) == 60) = (b == 60) := fun b => beq_u8 b 60 (by decide)
  have e2 : ∀ b : UInt8, ((b.toNat : Int) == 62) = (b == 62) := fun b => beq_u8 b 62 (by decide)
  have e3 : ∀ b : UInt8, ((b.toNat : Int) == 10) = (b == 10) := fun b => beq_u8 b 10 (by decide)
  go_enter Tryz.func205, Tryz.ntmps205
  by_cases q1 : b = 60
  · subst q1
    go_wp2
    go_ret
    exact ⟨rfl, Below.refl _ _⟩
  · have q : (b == 60) = false := by simpa using q1
    clear q1
    go_wp2
    all_goals go_ret
    all_goals exact ⟨ret_bool (by first | rw [q]; rfl | simp_all), Below.refl _ _⟩
def stopAB (b : UInt8) : Bool := b == 60 || b == 62 || b == 10
def stopA (u : Unit) (b : UInt8) : Option Unit := if stopAB b then none else some ()
set_option maxHeartbeats 4000000 in
theorem eachA_any (s : ByteArray) (n : Nat) (w : World) (hs : s.size ≤ 4000000000) (hn : n ≤ s.size) :
    Calls Tryz.prog 181 #[.string s, .int .i64 n, .func (.func 205) #[] #[]] w fun e w' => e = .returned (.int .i64 ((n + (eachG stopA () (s.data.toList.drop n)).1 : Nat) : Int)) ∧ Below w.heap.size w w' := by
  have e92 : ∀ b : UInt8, ((b.toNat : Int) == 92) = (b == 92) := fun b => beq_u8 b 92 (by decide)
  have hlen := Sc.len_size s
  generalize hR : n + (eachG stopA () (s.data.toList.drop n)).1 = R
  have SG := fun (b : UInt8) w => Sign_any b w
  go_enter Tryz.func181, Tryz.ntmps181
  go_wp2
  go_loopw [7] (fun kk wr => ∃ k : Nat, kk = .int .i64 k ∧ k ≤ s.size ∧ Hid (k + (eachG stopA () (s.data.toList.drop k)).1 = R) ∧ Below w.heap.size w wr) (fun kk _ => s.size - (Lib.intOf kk).toNat)
  case atStart => exact ⟨n, rfl, hn, Lib.hid hR, Below.refl _ _⟩
  case round =>
    obtain ⟨k, rfl, hk, hA, hb⟩ := hrel
    by_cases hlt : k < s.size
    · have hd := Sc.drop_at s k hlt
      have hA := Lib.hid (hd ▸ hA.out)
      clear hd hR
      have H0 : (s[k] = 92 → ∀ c r, s.data.toList.drop (k + 1) = c :: r → sign c = false) → stopAB s[k] = true → Hid (k = R) := fun h g => by
        apply Lib.hid
        have := hA.out
        rw [eachG_stop stopA () _ _ h (by unfold stopA; rw [g]; rfl)] at this
        exact this
      have H1 : (s[k] = 92 → ∀ c r, s.data.toList.drop (k + 1) = c :: r → sign c = false) → stopAB s[k] = false → Hid (k + 1 + (eachG stopA () (s.data.toList.drop (k + 1))).1 = R) := fun h g => by
        apply Lib.hid
        have := hA.out
        rw [eachG_go stopA () () _ _ h (by unfold stopA; rw [g]; rfl)] at this
        have this : k + ((eachG stopA () (s.data.toList.drop (k + 1))).1 + 1) = R := this
        omega
      by_cases q : s[k] = 92
      · have q1 : (s[k] == 92) = true := by simpa using q
        by_cases h2 : k + 1 < s.size
        · have hd2 := Sc.drop_at s (k + 1) h2
          cases hg : sign s[k + 1] with
          | true =>
            have H2 : Hid (k + 2 + (eachG stopA () (s.data.toList.drop (k + 2))).1 = R) := by
              apply Lib.hid
              have := hA.out
              rw [q, hd2, eachG_esc _ _ _ _ hg] at this
              have this : k + ((eachG stopA () (s.data.toList.drop (k + 2))).1 + 2) = R := this
              omega
            have SG1 := SG s[k + 1]
            rw [hg] at SG1
            clear H0 H1 hA q hd2 SG hg
            go_wp2_with (go_at_call 112; (with_reducible refine (SG1 _).mono ?_); rintro e w1 ⟨rfl, b1⟩; have hb2 := below_tr hb b1)
            go_roundw
            case rel => exact ⟨k + 2, by go_num, by omega, H2, hb2⟩
            case measure => simp [Lib.intOf]; omega
          | false =>
            have hn2 : s[k] = 92 → ∀ c r, s.data.toList.drop (k + 1) = c :: r → sign c = false := fun _ c r e => by rw [hd2] at e; cases e; exact hg
            have H0 := H0 hn2
            have H1 := H1 hn2
            have SG1 := SG s[k + 1]
            rw [hg] at SG1
            clear hA q hd2 hn2 SG hg
            have ST : ∀ w1, Below w.heap.size w w1 → Calls Tryz.prog 205 #[.int .u8 s[k].toNat] w1 fun e w' => e = .returned (.bool (stopAB s[k])) ∧ Below w1.heap.size w1 w' := fun w1 _ => stopA_any s[k] w1
            cases hst : stopAB s[k] with
            | true =>
              have E := H0 hst
              rw [hst] at ST
              clear H0 H1 hst
              go_wp2_with (first
                | (go_at_call 112; (with_reducible refine (SG1 _).mono ?_); rintro e w1 ⟨rfl, b1⟩; have hb1 := below_tr hb b1)
                | (go_at_call 205; (with_reducible refine (ST _ hb1).mono ?_); rintro e w2 ⟨rfl, b2⟩; have hb2 := below_tr hb1 b2))
              go_ret
              exact ⟨ret_int (by rw [← E.out]), hb2⟩
            | false =>
              have E := H1 hst
              rw [hst] at ST
              clear H0 H1 hst
              go_wp2_with (first
                | (go_at_call 112; (with_reducible refine (SG1 _).mono ?_); rintro e w1 ⟨rfl, b1⟩; have hb1 := below_tr hb b1)
                | (go_at_call 205; (with_reducible refine (ST _ hb1).mono ?_); rintro e w2 ⟨rfl, b2⟩; have hb2 := below_tr hb1 b2))
              go_roundw
              case rel => exact ⟨k + 1, by go_num, by omega, E, hb2⟩
              case measure => simp [Lib.intOf]; omega
        · have hn2 : s[k] = 92 → ∀ c r, s.data.toList.drop (k + 1) = c :: r → sign c = false := fun _ c r e => by rw [List.drop_eq_nil_of_le (by omega)] at e; cases e
          have H0 := H0 hn2
          have H1 := H1 hn2
          clear hA q hn2 SG
          have ST : ∀ w1, Below w.heap.size w w1 → Calls Tryz.prog 205 #[.int .u8 s[k].toNat] w1 fun e w' => e = .returned (.bool (stopAB s[k])) ∧ Below w1.heap.size w1 w' := fun w1 _ => stopA_any s[k] w1
          cases hst : stopAB s[k] with
          | true =>
            have E := H0 hst
            rw [hst] at ST
            clear H0 H1 hst
            go_wp2_with (go_at_call 205; (with_reducible refine (ST _ hb).mono ?_); rintro e w2 ⟨rfl, b2⟩; have hb2 := below_tr hb b2)
            go_ret
            exact ⟨ret_int (by rw [← E.out]), hb2⟩
          | false =>
            have E := H1 hst
            rw [hst] at ST
            clear H0 H1 hst
            go_wp2_with (go_at_call 205; (with_reducible refine (ST _ hb).mono ?_); rintro e w2 ⟨rfl, b2⟩; have hb2 := below_tr hb b2)
            go_roundw
            case rel => exact ⟨k + 1, by go_num, by omega, E, hb2⟩
            case measure => simp [Lib.intOf]; omega
      · have q1 : (s[k] == 92) = false := by simpa using q
        have H0 := H0 fun e => absurd e q
        have H1 := H1 fun e => absurd e q
        clear hA q SG
        have ST : ∀ w1, Below w.heap.size w w1 → Calls Tryz.prog 205 #[.int .u8 s[k].toNat] w1 fun e w' => e = .returned (.bool (stopAB s[k])) ∧ Below w1.heap.size w1 w' := fun w1 _ => stopA_any s[k] w1
        cases hst : stopAB s[k] with
        | true =>
          have E := H0 hst
          rw [hst] at ST
          clear H0 H1 hst
          go_wp2_with (go_at_call 205; (with_reducible refine (ST _ hb).mono ?_); rintro e w2 ⟨rfl, b2⟩; have hb2 := below_tr hb b2)
          go_ret
          exact ⟨ret_int (by rw [← E.out]), hb2⟩
        | false =>
          have E := H1 hst
          rw [hst] at ST
          clear H0 H1 hst
          go_wp2_with (go_at_call 205; (with_reducible refine (ST _ hb).mono ?_); rintro e w2 ⟨rfl, b2⟩; have hb2 := below_tr hb b2)
          go_roundw
          case rel => exact ⟨k + 1, by go_num, by omega, E, hb2⟩
          case measure => simp [Lib.intOf]; omega
    · have hE : k = R := by
        have := hA.out
        rw [List.drop_eq_nil_of_le (by omega)] at this
        exact this
      have hk2 : k = s.size := by omega
      clear hA hR
      go_wp2
      go_ret
      exact ⟨ret_int (by rw [← hE, hk2]), hb⟩
end Tx
end Go.Proofs.YtehmcahdjldhbaaGreatDoor
end
