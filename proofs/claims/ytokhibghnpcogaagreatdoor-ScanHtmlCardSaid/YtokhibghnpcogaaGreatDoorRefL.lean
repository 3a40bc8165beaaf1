/- The walk of the reference's HtmlEnds. -/
import Derived.Test.YtokhibghnpcogaaGreatDoorRefK
open Go Go.RowKit
set_option linter.unusedVariables false
set_option linter.unusedSimpArgs false
set_option maxRecDepth 100000
namespace Go.Proofs.YtokhibghnpcogaaGreatDoor
open Wk
set_option maxHeartbeats 4000000 in
theorem htmlEnds_r (s : ByteArray) (k : Int) (w : World) (hs : Small s) :
    Calls Tryz.prog 26 #[.string s, .int .i64 k] w fun e w' => e = .returned (.bool (Sc.htmlEnds s.data.toList k)) ∧ Below w.heap.size w w' := by
  by_cases k1 : k = 1
  · subst k1
    have F : Sc.htmlEnds s.data.toList 1 = (Lib.contains (Sc.lower s.data.toList) [60, 47, 115, 99, 114, 105, 112, 116, 62] || (Lib.contains (Sc.lower s.data.toList) [60, 47, 112, 114, 101, 62] || (Lib.contains (Sc.lower s.data.toList) [60, 47, 115, 116, 121, 108, 101, 62] || Lib.contains (Sc.lower s.data.toList) [60, 47, 116, 101, 120, 116, 97, 114, 101, 97, 62]))) := rfl
    have LW := fun w => lower_r s w hs
    have hls : Small (mk (Sc.lower s.data.toList)) := by unfold Small at *; rw [mk_size, lower_len, Sc.len_size]; exact hs
    have C1 : ∀ w, Calls Tryz.prog 64 #[.string (mk (Sc.lower s.data.toList)), .string ⟨#[60, 47, 115, 99, 114, 105, 112, 116, 62]⟩] w fun e w' => e = .returned (.bool (Lib.contains (Sc.lower s.data.toList) [60, 47, 115, 99, 114, 105, 112, 116, 62])) ∧ w = w' := fun w => within_r _ ⟨#[60, 47, 115, 99, 114, 105, 112, 116, 62]⟩ w hls (by unfold Small; decide)
    have C2 : ∀ w, Calls Tryz.prog 64 #[.string (mk (Sc.lower s.data.toList)), .string ⟨#[60, 47, 112, 114, 101, 62]⟩] w fun e w' => e = .returned (.bool (Lib.contains (Sc.lower s.data.toList) [60, 47, 112, 114, 101, 62])) ∧ w = w' := fun w => within_r _ ⟨#[60, 47, 112, 114, 101, 62]⟩ w hls (by unfold Small; decide)
    have C3 : ∀ w, Calls Tryz.prog 64 #[.string (mk (Sc.lower s.data.toList)), .string ⟨#[60, 47, 115, 116, 121, 108, 101, 62]⟩] w fun e w' => e = .returned (.bool (Lib.contains (Sc.lower s.data.toList) [60, 47, 115, 116, 121, 108, 101, 62])) ∧ w = w' := fun w => within_r _ ⟨#[60, 47, 115, 116, 121, 108, 101, 62]⟩ w hls (by unfold Small; decide)
    have C4 : ∀ w, Calls Tryz.prog 64 #[.string (mk (Sc.lower s.data.toList)), .string ⟨#[60, 47, 116, 101, 120, 116, 97, 114, 101, 97, 62]⟩] w fun e w' => e = .returned (.bool (Lib.contains (Sc.lower s.data.toList) [60, 47, 116, 101, 120, 116, 97, 114, 101, 97, 62])) ∧ w = w' := fun w => within_r _ ⟨#[60, 47, 116, 101, 120, 116, 97, 114, 101, 97, 62]⟩ w hls (by unfold Small; decide)
    generalize Sc.htmlEnds s.data.toList 1 = X at *
    generalize Lib.contains (Sc.lower s.data.toList) [60, 47, 115, 99, 114, 105, 112, 116, 62] = c1 at *
    generalize Lib.contains (Sc.lower s.data.toList) [60, 47, 112, 114, 101, 62] = c2 at *
    generalize Lib.contains (Sc.lower s.data.toList) [60, 47, 115, 116, 121, 108, 101, 62] = c3 at *
    generalize Lib.contains (Sc.lower s.data.toList) [60, 47, 116, 101, 120, 116, 97, 114, 101, 97, 62] = c4 at *
    generalize mk (Sc.lower s.data.toList) = ls at *
    have HF := Lib.hid F
    clear F
    go_enter Tryz.func26, Tryz.ntmps26
    go_wp2_with (first
      | (go_at_call 56; (with_reducible refine (LW _).mono ?_); rintro e w1 ⟨rfl, b1⟩)
      | (go_at_call 64; (with_reducible refine (C1 _).mono ?_); rintro e w2 ⟨rfl, rfl⟩)
      | (go_at_call 64; (with_reducible refine (C2 _).mono ?_); rintro e w2 ⟨rfl, rfl⟩)
      | (go_at_call 64; (with_reducible refine (C3 _).mono ?_); rintro e w2 ⟨rfl, rfl⟩)
      | (go_at_call 64; (with_reducible refine (C4 _).mono ?_); rintro e w2 ⟨rfl, rfl⟩))
    all_goals go_ret
    all_goals exact ⟨ret_bool (by rw [HF.out] <;> simp [*]), b1⟩
  have n1 : (k == 1) = false := by simpa using k1
  by_cases k2 : k = 2
  · subst k2
    have C1 : ∀ w, Calls Tryz.prog 64 #[.string s, .string ⟨#[45, 45, 62]⟩] w fun e w' => e = .returned (.bool (Lib.contains s.data.toList [45, 45, 62])) ∧ w = w' := fun w => within_r s ⟨#[45, 45, 62]⟩ w hs (by unfold Small; decide)
    have F := Lib.hid (show Sc.htmlEnds s.data.toList 2 = Lib.contains s.data.toList [45, 45, 62] from rfl)
    go_enter Tryz.func26, Tryz.ntmps26
    go_wp2_with (go_at_call 64; (with_reducible refine (C1 _).mono ?_); rintro e w2 ⟨rfl, rfl⟩)
    go_ret
    exact ⟨by rw [F.out]; rfl, Below.refl _ _⟩
  have n2 : (k == 2) = false := by simpa using k2
  by_cases k3 : k = 3
  · subst k3
    have C1 : ∀ w, Calls Tryz.prog 64 #[.string s, .string ⟨#[63, 62]⟩] w fun e w' => e = .returned (.bool (Lib.contains s.data.toList [63, 62])) ∧ w = w' := fun w => within_r s ⟨#[63, 62]⟩ w hs (by unfold Small; decide)
    have F := Lib.hid (show Sc.htmlEnds s.data.toList 3 = Lib.contains s.data.toList [63, 62] from rfl)
    go_enter Tryz.func26, Tryz.ntmps26
    go_wp2_with (go_at_call 64; (with_reducible refine (C1 _).mono ?_); rintro e w2 ⟨rfl, rfl⟩)
    go_ret
    exact ⟨by rw [F.out]; rfl, Below.refl _ _⟩
  have n3 : (k == 3) = false := by simpa using k3
  by_cases k4 : k = 4
  · subst k4
    have C1 : ∀ w, Calls Tryz.prog 64 #[.string s, .string ⟨#[62]⟩] w fun e w' => e = .returned (.bool (Lib.contains s.data.toList [62])) ∧ w = w' := fun w => within_r s ⟨#[62]⟩ w hs (by unfold Small; decide)
    have F := Lib.hid (show Sc.htmlEnds s.data.toList 4 = Lib.contains s.data.toList [62] from rfl)
    go_enter Tryz.func26, Tryz.ntmps26
    go_wp2_with (go_at_call 64; (with_reducible refine (C1 _).mono ?_); rintro e w2 ⟨rfl, rfl⟩)
    go_ret
    exact ⟨by rw [F.out]; rfl, Below.refl _ _⟩
  have n4 : (k == 4) = false := by simpa using k4
  by_cases k5 : k = 5
  · subst k5
    have C1 : ∀ w, Calls Tryz.prog 64 #[.string s, .string ⟨#[93, 93, 62]⟩] w fun e w' => e = .returned (.bool (Lib.contains s.data.toList [93, 93, 62])) ∧ w = w' := fun w => within_r s ⟨#[93, 93, 62]⟩ w hs (by unfold Small; decide)
    have F := Lib.hid (show Sc.htmlEnds s.data.toList 5 = Lib.contains s.data.toList [93, 93, 62] from rfl)
    go_enter Tryz.func26, Tryz.ntmps26
    go_wp2_with (go_at_call 64; (with_reducible refine (C1 _).mono ?_); rintro e w2 ⟨rfl, rfl⟩)
    go_ret
    exact ⟨by rw [F.out]; rfl, Below.refl _ _⟩
  have n5 : (k == 5) = false := by simpa using k5
  have TR := fun w => trim_r s w hs
  have TE := Sc.trimE s.data.toList
  generalize mk (Sc.trim s.data.toList) = tr at *
  by_cases k6 : k = 6
  · subst k6
    have F := Lib.hid (show Sc.htmlEnds s.data.toList 6 = Sc.blanks s.data.toList from rfl)
    go_enter Tryz.func26, Tryz.ntmps26
    go_wp2_with (go_at_call 41; (with_reducible refine (TR _).mono ?_); rintro e w1 ⟨rfl, rfl⟩)
    go_ret
    exact ⟨by rw [F.out]; rfl, Below.refl _ _⟩
  have n6 : (k == 6) = false := by simpa using k6
  by_cases k7 : k = 7
  · subst k7
    have F := Lib.hid (show Sc.htmlEnds s.data.toList 7 = Sc.blanks s.data.toList from rfl)
    go_enter Tryz.func26, Tryz.ntmps26
    go_wp2_with (go_at_call 41; (with_reducible refine (TR _).mono ?_); rintro e w1 ⟨rfl, rfl⟩)
    go_ret
    exact ⟨by rw [F.out]; rfl, Below.refl _ _⟩
  have n7 : (k == 7) = false := by simpa using k7
  have F := Lib.hid (show Sc.htmlEnds s.data.toList k = false by unfold Sc.htmlEnds; rw [if_neg k1, if_neg k2, if_neg k3, if_neg k4, if_neg k5, if_neg (by rintro (h | h); exact k6 h; exact k7 h)])
  clear k1 k2 k3 k4 k5 k6 k7
  go_enter Tryz.func26, Tryz.ntmps26
  go_wp2
  go_ret
  exact ⟨by rw [F.out]; rfl, Below.refl _ _⟩
end Go.Proofs.YtokhibghnpcogaaGreatDoor
