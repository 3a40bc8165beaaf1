/- The walks of scan.raw and scan.block. -/
import Derived.Test.YtokhibghnpcogaaGreatDoorHtml1
open Go Go.RowKit
set_option linter.unusedVariables false
set_option linter.unusedSimpArgs false
set_option maxRecDepth 100000
namespace Go.Proofs.YtokhibghnpcogaaGreatDoor
open Wk
namespace Sc
def raws : List (List UInt8) := [[115, 99, 114, 105, 112, 116],
  [112, 114, 101],
  [115, 116, 121, 108, 101],
  [116, 101, 120, 116, 97, 114, 101, 97]]
def blocks : List (List UInt8) := [[97, 100, 100, 114, 101, 115, 115],
  [97, 114, 116, 105, 99, 108, 101],
  [97, 115, 105, 100, 101],
  [98, 97, 115, 101],
  [98, 97, 115, 101, 102, 111, 110, 116],
  [98, 108, 111, 99, 107, 113, 117, 111, 116, 101],
  [98, 111, 100, 121],
  [99, 97, 112, 116, 105, 111, 110],
  [99, 101, 110, 116, 101, 114],
  [99, 111, 108],
  [99, 111, 108, 103, 114, 111, 117, 112],
  [100, 100],
  [100, 101, 116, 97, 105, 108, 115],
  [100, 105, 97, 108, 111, 103],
  [100, 105, 114],
  [100, 105, 118],
  [100, 108],
  [100, 116],
  [102, 105, 101, 108, 100, 115, 101, 116],
  [102, 105, 103, 99, 97, 112, 116, 105, 111, 110],
  [102, 105, 103, 117, 114, 101],
  [102, 111, 111, 116, 101, 114],
  [102, 111, 114, 109],
  [102, 114, 97, 109, 101],
  [102, 114, 97, 109, 101, 115, 101, 116],
  [104, 49],
  [104, 50],
  [104, 51],
  [104, 52],
  [104, 53],
  [104, 54],
  [104, 101, 97, 100],
  [104, 101, 97, 100, 101, 114],
  [104, 114],
  [104, 116, 109, 108],
  [105, 102, 114, 97, 109, 101],
  [108, 101, 103, 101, 110, 100],
  [108, 105],
  [108, 105, 110, 107],
  [109, 97, 105, 110],
  [109, 101, 110, 117],
  [109, 101, 110, 117, 105, 116, 101, 109],
  [110, 97, 118],
  [110, 111, 102, 114, 97, 109, 101, 115],
  [111, 108],
  [111, 112, 116, 103, 114, 111, 117, 112],
  [111, 112, 116, 105, 111, 110],
  [112],
  [112, 97, 114, 97, 109],
  [115, 101, 97, 114, 99, 104],
  [115, 101, 99, 116, 105, 111, 110],
  [115, 117, 109, 109, 97, 114, 121],
  [116, 97, 98, 108, 101],
  [116, 98, 111, 100, 121],
  [116, 100],
  [116, 102, 111, 111, 116],
  [116, 104],
  [116, 104, 101, 97, 100],
  [116, 105, 116, 108, 101],
  [116, 114],
  [116, 114, 97, 99, 107],
  [117, 108]]
end Sc
theorem raw_any (s : ByteArray) (w : World) (hs : Small s) :
    Calls Tryz.prog 52 #[.string s] w fun e w' => e = .returned (.bool (Sc.raws.contains (Sc.lower s.data.toList))) ∧ Below w.heap.size w w' := by
  have LW := fun w => lower_any s w hs
  have mt := mk_toList
  generalize Sc.lower s.data.toList = l at *
  go_enter Tryz.func52, Tryz.ntmps52
  go_wp2_with (go_at_call 62; (with_reducible refine (LW _).mono ?_); rintro e w1 ⟨rfl, b1⟩)
  all_goals (first | (exfalso; simp_all; done) | (go_ret; exact ⟨ret_bool (by simp only [Sc.raws, List.contains_cons, List.contains_nil, Bool.or_false, Bool.or_true, Bool.true_or, Bool.false_or, *]), b1⟩))

set_option maxHeartbeats 4000000 in
theorem block_no (s : ByteArray) (w : World) (hs : Small s) (hn : Sc.blocks.contains (Sc.lower s.data.toList) = false) :
    Calls Tryz.prog 55 #[.string s] w fun e w' => e = .returned (.bool false) ∧ Below w.heap.size w w' := by
  have LW := fun w => lower_any s w hs
  have mt := mk_toList
  generalize Sc.lower s.data.toList = l at *
  simp only [Sc.blocks, List.contains_cons, List.contains_nil, Bool.or_false, Bool.or_eq_false_iff] at hn
  obtain ⟨h0, h1, h2, h3, h4, h5, h6, h7, h8, h9, h10, h11, h12, h13, h14, h15, h16, h17, h18, h19, h20, h21, h22, h23, h24, h25, h26, h27, h28, h29, h30, h31, h32, h33, h34, h35, h36, h37, h38, h39, h40, h41, h42, h43, h44, h45, h46, h47, h48, h49, h50, h51, h52, h53, h54, h55, h56, h57, h58, h59, h60, h61⟩ := hn
  go_enter Tryz.func55, Tryz.ntmps55
  go_wp2_with (go_at_call 62; (with_reducible refine (LW _).mono ?_); rintro e w1 ⟨rfl, b1⟩)
  go_ret
  exact ⟨rfl, b1⟩
set_option maxHeartbeats 8000000 in
theorem block_yes0 (s : ByteArray) (w : World) (c : List UInt8) (hc : c ∈ (Sc.blocks.drop 0).take 16) (LW : ∀ w, Calls Tryz.prog 62 #[.string s] w fun e w' => e = .returned (.string (mk c)) ∧ Below w.heap.size w w') :
    Calls Tryz.prog 55 #[.string s] w fun e w' => e = .returned (.bool true) ∧ Below w.heap.size w w' := by
  have mt := mk_toList
  simp only [Sc.blocks, List.drop_succ_cons, List.drop_zero, List.take_succ_cons, List.take_zero, List.take_nil, List.mem_cons, List.mem_nil_iff, or_false] at hc
  rcases hc with rfl | rfl | rfl | rfl | rfl | rfl | rfl | rfl | rfl | rfl | rfl | rfl | rfl | rfl | rfl | rfl
  all_goals (
    go_enter Tryz.func55, Tryz.ntmps55
    go_wp2_with (go_at_call 62; (with_reducible refine (LW _).mono ?_); rintro e w1 ⟨rfl, b1⟩)
    go_ret
    exact ⟨rfl, b1⟩)
set_option maxHeartbeats 8000000 in
theorem block_yes1 (s : ByteArray) (w : World) (c : List UInt8) (hc : c ∈ (Sc.blocks.drop 16).take 16) (LW : ∀ w, Calls Tryz.prog 62 #[.string s] w fun e w' => e = .returned (.string (mk c)) ∧ Below w.heap.size w w') :
    Calls Tryz.prog 55 #[.string s] w fun e w' => e = .returned (.bool true) ∧ Below w.heap.size w w' := by
  have mt := mk_toList
  simp only [Sc.blocks, List.drop_succ_cons, List.drop_zero, List.take_succ_cons, List.take_zero, List.take_nil, List.mem_cons, List.mem_nil_iff, or_false] at hc
  rcases hc with rfl | rfl | rfl | rfl | rfl | rfl | rfl | rfl | rfl | rfl | rfl | rfl | rfl | rfl | rfl | rfl
  all_goals (
    go_enter Tryz.func55, Tryz.ntmps55
    go_wp2_with (go_at_call 62; (with_reducible refine (LW _).mono ?_); rintro e w1 ⟨rfl, b1⟩)
    go_ret
    exact ⟨rfl, b1⟩)
set_option maxHeartbeats 8000000 in
theorem block_yes2 (s : ByteArray) (w : World) (c : List UInt8) (hc : c ∈ (Sc.blocks.drop 32).take 16) (LW : ∀ w, Calls Tryz.prog 62 #[.string s] w fun e w' => e = .returned (.string (mk c)) ∧ Below w.heap.size w w') :
    Calls Tryz.prog 55 #[.string s] w fun e w' => e = .returned (.bool true) ∧ Below w.heap.size w w' := by
  have mt := mk_toList
  simp only [Sc.blocks, List.drop_succ_cons, List.drop_zero, List.take_succ_cons, List.take_zero, List.take_nil, List.mem_cons, List.mem_nil_iff, or_false] at hc
  rcases hc with rfl | rfl | rfl | rfl | rfl | rfl | rfl | rfl | rfl | rfl | rfl | rfl | rfl | rfl | rfl | rfl
  all_goals (
    go_enter Tryz.func55, Tryz.ntmps55
    go_wp2_with (go_at_call 62; (with_reducible refine (LW _).mono ?_); rintro e w1 ⟨rfl, b1⟩)
    go_ret
    exact ⟨rfl, b1⟩)
set_option maxHeartbeats 8000000 in
theorem block_yes3 (s : ByteArray) (w : World) (c : List UInt8) (hc : c ∈ (Sc.blocks.drop 48).take 14) (LW : ∀ w, Calls Tryz.prog 62 #[.string s] w fun e w' => e = .returned (.string (mk c)) ∧ Below w.heap.size w w') :
    Calls Tryz.prog 55 #[.string s] w fun e w' => e = .returned (.bool true) ∧ Below w.heap.size w w' := by
  have mt := mk_toList
  simp only [Sc.blocks, List.drop_succ_cons, List.drop_zero, List.take_succ_cons, List.take_zero, List.take_nil, List.mem_cons, List.mem_nil_iff, or_false] at hc
  rcases hc with rfl | rfl | rfl | rfl | rfl | rfl | rfl | rfl | rfl | rfl | rfl | rfl | rfl | rfl
  all_goals (
    go_enter Tryz.func55, Tryz.ntmps55
    go_wp2_with (go_at_call 62; (with_reducible refine (LW _).mono ?_); rintro e w1 ⟨rfl, b1⟩)
    go_ret
    exact ⟨rfl, b1⟩)
theorem block_any (s : ByteArray) (w : World) (hs : Small s) :
    Calls Tryz.prog 55 #[.string s] w fun e w' => e = .returned (.bool (Sc.blocks.contains (Sc.lower s.data.toList))) ∧ Below w.heap.size w w' := by
  cases h : Sc.blocks.contains (Sc.lower s.data.toList) with
  | false => exact block_no s w hs h
  | true =>
    have hm : Sc.lower s.data.toList ∈ Sc.blocks := List.contains_iff_mem.1 h
    have LW := fun w => lower_any s w hs
    have e : Sc.blocks = (Sc.blocks.drop 0).take 16 ++ ((Sc.blocks.drop 16).take 16 ++ ((Sc.blocks.drop 32).take 16 ++ (Sc.blocks.drop 48).take 14)) := by rfl
    rw [e] at hm
    rcases List.mem_append.1 hm with h1 | hm
    · exact block_yes0 s w _ h1 LW
    · rcases List.mem_append.1 hm with h1 | hm
      · exact block_yes1 s w _ h1 LW
      · rcases List.mem_append.1 hm with h1 | h1
        · exact block_yes2 s w _ h1 LW
        · exact block_yes3 s w _ h1 LW
end Go.Proofs.YtokhibghnpcogaaGreatDoor
