/- The walk of the law's awake: the document's examples. -/
import Derived.Test.YtokhibghnpcogaaGreatDoorHtml3
open Go Go.RowKit
set_option linter.unusedVariables false
set_option maxRecDepth 100000
namespace Go.Proofs.YtokhibghnpcogaaGreatDoor
open Wk
theorem awake_any (w : World) (hE : Env w) :
    Calls Tryz.prog 6 #[] w fun e w' => e = .returned (.bool true) ∧ Below w.heap.size w w' := by
  have k1 : Sc.atx [35, 35, 32, 97, 32, 35] = (2, [97]) := by decide +kernel
  have k2 : Sc.fence [126, 126, 126, 32, 120] = (126, 3, [120]) := by decide +kernel
  have k3 : Sc.ordered [49, 50, 41, 32, 97] = (12, 41, 3) := by decide +kernel
  have k4 : Sc.rule [45, 32, 45, 32, 45] = true := by decide +kernel
  have k5 : Sc.htmlStart [60, 100, 105, 118, 62] = 6 := by decide +kernel
  have k6 : Sc.tag [60, 97, 32, 98, 61, 99, 62, 120] = 7 := by decide +kernel
  have k7 : Sc.setext [45, 45, 45] = 2 := by decide +kernel
  have c1 : ∀ w, Calls Tryz.prog 9 #[.string ⟨#[35, 35, 32, 97, 32, 35]⟩] w fun e w' => e = .returned (.tuple #[.int .i64 2, .string ⟨#[97]⟩]) ∧ Below w.heap.size w w' := fun w => by
    have h := atx_any ⟨#[35, 35, 32, 97, 32, 35]⟩ w (by unfold Small; decide)
    rw [show (⟨#[35, 35, 32, 97, 32, 35]⟩ : ByteArray).data.toList = [35, 35, 32, 97, 32, 35] from rfl, k1] at h
    exact h
  have c2 : ∀ w, Calls Tryz.prog 11 #[.string ⟨#[126, 126, 126, 32, 120]⟩] w fun e w' => e = .returned (.tuple #[.int .u8 126, .int .i64 3, .string ⟨#[120]⟩]) ∧ Below w.heap.size w w' := fun w => by
    have h := fence_any ⟨#[126, 126, 126, 32, 120]⟩ w (by unfold Small; decide)
    rw [show (⟨#[126, 126, 126, 32, 120]⟩ : ByteArray).data.toList = [126, 126, 126, 32, 120] from rfl, k2] at h
    exact h
  have c3 : ∀ w, Calls Tryz.prog 13 #[.string ⟨#[49, 50, 41, 32, 97]⟩] w fun e w' => e = .returned (.tuple #[.int .i64 12, .int .u8 41, .int .i64 3]) ∧ Below w.heap.size w w' := fun w => by
    have h := ordered_any ⟨#[49, 50, 41, 32, 97]⟩ w (by unfold Small; decide)
    rw [show (⟨#[49, 50, 41, 32, 97]⟩ : ByteArray).data.toList = [49, 50, 41, 32, 97] from rfl, k3] at h
    exact h
  have c4 : ∀ w, Env w → Calls Tryz.prog 15 #[.string ⟨#[45, 32, 45, 32, 45]⟩] w fun e w' => e = .returned (.bool true) ∧ Below w.heap.size w w' := fun w hE => by
    have h := rule_any ⟨#[45, 32, 45, 32, 45]⟩ w (by unfold Small; decide) hE
    rw [show (⟨#[45, 32, 45, 32, 45]⟩ : ByteArray).data.toList = [45, 32, 45, 32, 45] from rfl, k4] at h
    exact h
  have c5 : ∀ w, Calls Tryz.prog 23 #[.string ⟨#[60, 100, 105, 118, 62]⟩] w fun e w' => e = .returned (.int .i64 6) ∧ Below w.heap.size w w' := fun w => by
    have h := htmlStart_any ⟨#[60, 100, 105, 118, 62]⟩ w (by unfold Small; decide)
    rw [show (⟨#[60, 100, 105, 118, 62]⟩ : ByteArray).data.toList = [60, 100, 105, 118, 62] from rfl, k5] at h
    exact h
  have c6 : ∀ w, Calls Tryz.prog 7 #[.string ⟨#[60, 97, 32, 98, 61, 99, 62, 120]⟩] w fun e w' => e = .returned (.int .i64 7) ∧ Below w.heap.size w w' := fun w => by
    have h := tag_any ⟨#[60, 97, 32, 98, 61, 99, 62, 120]⟩ w (by unfold Small; decide)
    rw [show (⟨#[60, 97, 32, 98, 61, 99, 62, 120]⟩ : ByteArray).data.toList = [60, 97, 32, 98, 61, 99, 62, 120] from rfl, k6] at h
    exact h
  have c7 : ∀ w, Calls Tryz.prog 17 #[.string ⟨#[45, 45, 45]⟩] w fun e w' => e = .returned (.int .i64 2) ∧ Below w.heap.size w w' := fun w => by
    have h := setext_any ⟨#[45, 45, 45]⟩ w (by unfold Small; decide)
    rw [show (⟨#[45, 45, 45]⟩ : ByteArray).data.toList = [45, 45, 45] from rfl, k7] at h
    exact h
  clear k1 k2 k3 k4 k5 k6 k7
  go_enter Tryz.func6, Tryz.ntmps6
  go_wp2_with (first
    | (go_at_call 9; (with_reducible refine (c1 _).mono ?_); rintro e w1 ⟨rfl, b1⟩)
    | (go_at_call 11; (with_reducible refine (c2 _).mono ?_); rintro e w2 ⟨rfl, b2⟩)
    | (go_at_call 13; (with_reducible refine (c3 _).mono ?_); rintro e w3 ⟨rfl, b3⟩; have b13 := b1.trans ((b2.mono b1.size).trans (b3.mono (Nat.le_trans b1.size b2.size))); have hE3 := hE.below b13)
    | (go_at_call 15; (with_reducible refine (c4 _ hE3).mono ?_); rintro e w4 ⟨rfl, b4⟩)
    | (go_at_call 23; (with_reducible refine (c5 _).mono ?_); rintro e w5 ⟨rfl, b5⟩)
    | (go_at_call 7; (with_reducible refine (c6 _).mono ?_); rintro e w6 ⟨rfl, b6⟩)
    | (go_at_call 17; (with_reducible refine (c7 _).mono ?_); rintro e w7 ⟨rfl, b7⟩))
  go_ret
  have q4 := b13.trans (b4.mono b13.size)
  have q5 := q4.trans (b5.mono q4.size)
  have q6 := q5.trans (b6.mono q5.size)
  exact ⟨rfl, q6.trans (b7.mono q6.size)⟩
end Go.Proofs.YtokhibghnpcogaaGreatDoor
