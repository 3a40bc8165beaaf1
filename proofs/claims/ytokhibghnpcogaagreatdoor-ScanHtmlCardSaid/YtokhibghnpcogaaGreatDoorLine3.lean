/- The walk of scan.Fence. -/
import Derived.Test.YtokhibghnpcogaaGreatDoorLine2
import Derived.Lib.QuietBelow
open Go Go.RowKit
set_option linter.unusedVariables false
set_option maxRecDepth 100000
namespace Go.Proofs.YtokhibghnpcogaaGreatDoor
open Wk
theorem fence_any (s : ByteArray) (w : World) (hs : Small s) :
    Calls Tryz.prog 11 #[.string s] w fun e w' => e = .returned (.tuple #[.int .u8 (Sc.fence s.data.toList).1.toNat, .int .i64 (Sc.fence s.data.toList).2.1, .string (mk (Sc.fence s.data.toList).2.2)]) ∧ Below w.heap.size w w' := by
  by_cases h0 : s.data.toList = []
  · have h1 : s.toList = [] := by rw [toList_data, h0]
    rw [h0]
    clear h0
    go_enter Tryz.func11, Tryz.ntmps11
    go_wp2
    go_ret3
    exact ⟨rfl, Below.refl _ _⟩
  · have hsz := Sc.size_pos h0
    have h1 : (s.toList == ([] : List UInt8)) = false := by rw [toList_data, beq_eq_false_iff_ne]; exact h0
    have e96 : ∀ b : UInt8, ((b.toNat : Int) == 96) = (b == 96) := fun b => beq_u8 b 96 (by decide)
    have n96 : ∀ b : UInt8, ((b.toNat : Int) != 96) = (b != 96) := fun b => bne_u8 b 96 (by decide)
    have n126 : ∀ b : UInt8, ((b.toNat : Int) != 126) = (b != 126) := fun b => bne_u8 b 126 (by decide)
    have hr := Sc.run_le s[0] s.data.toList
    rw [Sc.len_size] at hr
    have hd := Lib.hid (Sc.drop_data s (Sc.run s[0] s.data.toList))
    have hz : Small (s.extract (Sc.run s[0] s.data.toList) s.size) := by unfold Small at *; rw [← Sc.len_size, hd.out]; simp; omega
    have R : ∀ w, Calls Tryz.prog 35 #[.string s, .int .u8 s[0].toNat] w fun e w' => e = .returned (.int .i64 (Sc.run s[0] s.data.toList)) ∧ w = w' := fun w => run_any s s[0] w hs
    have TR := fun w => trim_v (s.extract (Sc.run s[0] s.data.toList) s.size) w hz
    have IX := Tryz.strings_IndexByte (s.extract (Sc.run s[0] s.data.toList) s.size) 96
    have IN := index_nonneg 96 (s.data.toList.drop (Sc.run s[0] s.data.toList))
    rw [hd.out] at TR IX
    have e96b : (96 : Int).toNat.toUInt8 = 96 := rfl
    rw [e96b] at IX
    have F : Sc.fence s.data.toList = (if s[0] ≠ 96 ∧ s[0] ≠ 126 then (0, 0, []) else if Sc.run s[0] s.data.toList < 3 ∨ (s[0] = 96 ∧ (s.data.toList.drop (Sc.run s[0] s.data.toList)).contains 96) then (0, 0, []) else (s[0], Sc.run s[0] s.data.toList, Sc.trim (s.data.toList.drop (Sc.run s[0] s.data.toList))) : UInt8 × Nat × List UInt8) := by
      have G : ∀ (b : UInt8) (t l : List UInt8), l = b :: t → Sc.fence l = (if b ≠ 96 ∧ b ≠ 126 then (0, 0, []) else if Sc.run b l < 3 ∨ (b = 96 ∧ (l.drop (Sc.run b l)).contains 96) then (0, 0, []) else (b, Sc.run b l, Sc.trim (l.drop (Sc.run b l))) : UInt8 × Nat × List UInt8) := by
        intro b t l h; subst h; rfl
      exact G _ _ _ (Sc.head_of hsz)
    generalize Sc.fence s.data.toList = X at *
    generalize Sc.run s[0] s.data.toList = k at *
    generalize Sc.trim (s.data.toList.drop k) = t at *
    generalize (s.data.toList.drop k).contains 96 = has at *
    generalize Lib.indexByte (s.data.toList.drop k) 96 = ix at *
    unfold Small at hs
    clear h0
    by_cases h2 : s[0] ≠ 96 ∧ s[0] ≠ 126
    · rw [if_pos h2] at F
      subst F
      have a1 : (s[0] != 96) = true := by simpa using h2.1
      have a2 : (s[0] != 126) = true := by simpa using h2.2
      clear h2
      go_enter Tryz.func11, Tryz.ntmps11
      go_wp2
      go_ret3
      exact ⟨rfl, Below.refl _ _⟩
    · rw [if_neg h2] at F
      by_cases h3 : k < 3
      · rw [if_pos (.inl h3)] at F
        subst F
        by_cases h4 : s[0] = 96
        · have a1 : (s[0] != 96) = false := by simpa using h4
          have a2 : (s[0] == 96) = true := by simpa using h4
          clear h2 h4
          go_enter Tryz.func11, Tryz.ntmps11
          go_wp2_with (go_at_call 35; (with_reducible refine (R _).mono ?_); rintro e w1 ⟨rfl, rfl⟩)
          go_ret3
          exact ⟨rfl, Below.refl _ _⟩
        · have h5 : s[0] = 126 := by by_cases h : s[0] = 126; exact h; exact absurd ⟨h4, h⟩ h2
          have a1 : (s[0] != 96) = true := by simpa using h4
          have a2 : (s[0] != 126) = false := by simpa using h5
          clear h2 h4 h5
          go_enter Tryz.func11, Tryz.ntmps11
          go_wp2_with (go_at_call 35; (with_reducible refine (R _).mono ?_); rintro e w1 ⟨rfl, rfl⟩)
          go_ret3
          exact ⟨rfl, Below.refl _ _⟩
      · have h3' : 3 ≤ k := by omega
        by_cases h4 : s[0] = 96
        · have a1 : (s[0] != 96) = false := by simpa using h4
          have a2 : (s[0] == 96) = true := by simpa using h4
          cases has with
          | true =>
            rw [if_pos (.inr ⟨h4, rfl⟩)] at F
            subst F
            have hix : 0 ≤ ix := of_decide_eq_true IN
            clear h2 h4 IN
            go_enter Tryz.func11, Tryz.ntmps11
            go_wp2_with (first
              | (go_at_call 35; (with_reducible refine (R _).mono ?_); rintro e w1 ⟨rfl, rfl⟩)
              | (go_at_call 43; (with_reducible refine (IX _).mono ?_); rintro e w1 ⟨rfl, rfl⟩))
            go_ret3
            exact ⟨rfl, Below.refl _ _⟩
          | false =>
            rw [if_neg (by rintro (h | h); omega; cases h.2)] at F
            have hix : ¬ 0 ≤ ix := of_decide_eq_false IN
            have HF := Lib.hid F
            have cQ : ∀ d os, Calls Tryz.prog 37 #[.string (s.extract k s.size), .string ⟨#[32, 9]⟩] (Go.Sort.grow (redrawn w d) os) fun e w'' => e = .returned (.string (mk t)) ∧ ∃ p : Regrown, w'' = Go.Sort.grow (redrawn w p.d) p.os := fun d os => Calls.regrown_of (TR _)
            clear h2 h4 IN F
            go_enter Tryz.func11, Tryz.ntmps11
            go_wp2_with (first
              | (go_at_call 35; (with_reducible refine (R _).mono ?_); rintro e w1 ⟨rfl, rfl⟩)
              | (go_at_call 43; (with_reducible refine (IX _).mono ?_); rintro e w1 ⟨rfl, rfl⟩))
            refine wp_region_quiet_below (by kernel_rfl) (by kernel_rfl) ?_
            repeat (quiet_step (exact cQ _ _))
            refine wpQuiet_nil ?_
            intro _ hw'
            obtain ⟨⟨dq, osq⟩, hw''⟩ := hw'
            subst hw''
            go_wp2
            go_ret3
            exact ⟨by rw [HF.out]; rfl, below_regrown _ dq osq⟩
        · have h5 : s[0] = 126 := by by_cases h : s[0] = 126; exact h; exact absurd ⟨h4, h⟩ h2
          have a1 : (s[0] != 96) = true := by simpa using h4
          have a0 : (s[0] == 96) = false := by simpa using h4
          have a2 : (s[0] != 126) = false := by simpa using h5
          rw [if_neg (by rintro (h | h); omega; exact h4 h.1)] at F
          have HF := Lib.hid F
          have cQ : ∀ d os, Calls Tryz.prog 37 #[.string (s.extract k s.size), .string ⟨#[32, 9]⟩] (Go.Sort.grow (redrawn w d) os) fun e w'' => e = .returned (.string (mk t)) ∧ ∃ p : Regrown, w'' = Go.Sort.grow (redrawn w p.d) p.os := fun d os => Calls.regrown_of (TR _)
          clear h2 h4 h5 IN F
          go_enter Tryz.func11, Tryz.ntmps11
          go_wp2_with (go_at_call 35; (with_reducible refine (R _).mono ?_); rintro e w1 ⟨rfl, rfl⟩)
          refine wp_region_quiet_below (by kernel_rfl) (by kernel_rfl) ?_
          repeat (quiet_step (exact cQ _ _))
          refine wpQuiet_nil ?_
          intro _ hw'
          obtain ⟨⟨dq, osq⟩, hw''⟩ := hw'
          subst hw''
          go_wp2
          go_ret3
          exact ⟨by rw [HF.out]; rfl, below_regrown _ dq osq⟩
end Go.Proofs.YtokhibghnpcogaaGreatDoor
