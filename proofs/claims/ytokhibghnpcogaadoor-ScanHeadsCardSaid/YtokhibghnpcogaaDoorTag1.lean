/- Walks of package scan's small functions and of the scanner's methods. -/
import Derived.Test.YtokhibghnpcogaaDoorKit
import Derived.Test.YtokhibghnpcogaaDoorSc
import Derived.Test.YtokhibghnpcogaaDoorShelf
open Go Go.RowKit
namespace Go.Proofs.YtokhibghnpcogaaDoor
open Wk
set_option maxRecDepth 100000

theorem letter_any (c : Int) (h0 : 0 ≤ c) (h1 : c ≤ 255) (w : World) :
    Calls Tryd.prog 35 #[.int .u8 c] w fun e w' => e = .returned (.bool (Sc.letter c.toNat.toUInt8)) ∧ w = w' := by
  obtain ⟨n, rfl⟩ := Int.eq_ofNat_of_zero_le h0
  have key : ∀ n : Fin 256, (Sc.letter (n.val.toUInt8)) = (decide (97 ≤ bits .or .u8 (n.val : Int) 32) && decide (bits .or .u8 (n.val : Int) 32 ≤ 122)) := by decide +kernel
  have K := key ⟨n, by omega⟩
  simp only at K
  rw [Int.toNat_natCast, K]
  clear K key
  go_enter Tryd.func35, Tryd.ntmps35
  go_wp2
  all_goals (go_ret; exact ⟨by simp [*] <;> omega, rfl⟩)

theorem digit_any (c : Int) (h0 : 0 ≤ c) (h1 : c ≤ 255) (w : World) :
    Calls Tryd.prog 38 #[.int .u8 c] w fun e w' => e = .returned (.bool (Sc.digit c.toNat.toUInt8)) ∧ w = w' := by
  obtain ⟨n, rfl⟩ := Int.eq_ofNat_of_zero_le h0
  have K : Sc.digit n.toUInt8 = (decide (48 ≤ (n : Int)) && decide ((n : Int) ≤ 57)) := by
    have e : n % 256 = n := by omega
    simp only [Sc.digit, Nat.toUInt8, UInt8.toNat_ofNat', e]
    rw [Bool.eq_iff_iff]; simp; omega
  rw [Int.toNat_natCast, K]
  clear K
  go_enter Tryd.func38, Tryd.ntmps38
  go_wp2
  all_goals (go_ret; exact ⟨by simp [*] <;> omega, rfl⟩)

theorem first_any (c : Int) (h0 : 0 ≤ c) (h1 : c ≤ 255) (w : World) :
    Calls Tryd.prog 39 #[.int .u8 c] w fun e w' => e = .returned (.bool (Sc.first c.toNat.toUInt8)) ∧ w = w' := by
  have K : Sc.first c.toNat.toUInt8 = (Sc.letter c.toNat.toUInt8 || (c == 95) || (c == 58)) := by
    obtain ⟨n, rfl⟩ := Int.eq_ofNat_of_zero_le h0
    have key : ∀ n : Fin 256, (Sc.first (n.val.toUInt8)) = (Sc.letter n.val.toUInt8 || ((n.val : Int) == 95) || ((n.val : Int) == 58)) := by decide +kernel
    exact key ⟨n, by omega⟩
  rw [K]
  clear K
  go_enter Tryd.func39, Tryd.ntmps39
  go_wp2_with (go_at_call 35; refine (letter_any _ h0 h1 _).mono ?_; rintro e w' ⟨rfl, rfl⟩)
  all_goals (go_ret; exact ⟨by simp [*], rfl⟩)

theorem later_any (c : Int) (h0 : 0 ≤ c) (h1 : c ≤ 255) (w : World) :
    Calls Tryd.prog 41 #[.int .u8 c] w fun e w' => e = .returned (.bool (Sc.later c.toNat.toUInt8)) ∧ w = w' := by
  have K : Sc.later c.toNat.toUInt8 = (Sc.first c.toNat.toUInt8 || Sc.digit c.toNat.toUInt8 || (c == 46) || (c == 45)) := by
    obtain ⟨n, rfl⟩ := Int.eq_ofNat_of_zero_le h0
    have key : ∀ n : Fin 256, (Sc.later (n.val.toUInt8)) = (Sc.first n.val.toUInt8 || Sc.digit n.val.toUInt8 || ((n.val : Int) == 46) || ((n.val : Int) == 45)) := by decide +kernel
    exact key ⟨n, by omega⟩
  rw [K]
  clear K
  go_enter Tryd.func41, Tryd.ntmps41
  go_wp2_with (first
    | (go_at_call 39; refine (first_any _ h0 h1 _).mono ?_; rintro e w' ⟨rfl, rfl⟩)
    | (go_at_call 38; refine (digit_any _ h0 h1 _).mono ?_; rintro e w' ⟨rfl, rfl⟩))
  all_goals (go_ret; exact ⟨by simp [*], rfl⟩)

theorem bare_any (c : Int) (h0 : 0 ≤ c) (h1 : c ≤ 255) (w : World) :
    Calls Tryd.prog 61 #[.int .u8 c] w fun e w' => e = .returned (.bool (Sc.bare c.toNat.toUInt8)) ∧ w = w' := by
  have K : Sc.bare c.toNat.toUInt8 = decide (Lib.indexByte [32, 9, 10, 34, 39, 61, 60, 62, 96] c.toNat.toUInt8 < 0) := by
    obtain ⟨n, rfl⟩ := Int.eq_ofNat_of_zero_le h0
    have key : ∀ n : Fin 256, Sc.bare (n.val.toUInt8) = decide (Lib.indexByte [32, 9, 10, 34, 39, 61, 60, 62, 96] n.val.toUInt8 < 0) := by decide +kernel
    exact key ⟨n, by omega⟩
  rw [K]
  clear K
  go_enter Tryd.func61, Tryd.ntmps61
  go_wp2_with (go_at_call 26; refine (Tryd.strings_IndexByte _ _ _).mono ?_; rintro e w' ⟨rfl, rfl⟩)
  all_goals (go_ret; exact ⟨by simp, rfl⟩)

theorem letter_b (b : UInt8) (w : World) : Calls Tryd.prog 35 #[.int .u8 b.toNat] w fun e w' => e = .returned (.bool (Sc.letter b)) ∧ w = w' := by
  have h := letter_any b.toNat (by omega) (by have := b.toNat_lt; omega) w
  rwa [byte_back] at h
theorem digit_b (b : UInt8) (w : World) : Calls Tryd.prog 38 #[.int .u8 b.toNat] w fun e w' => e = .returned (.bool (Sc.digit b)) ∧ w = w' := by
  have h := digit_any b.toNat (by omega) (by have := b.toNat_lt; omega) w
  rwa [byte_back] at h
theorem first_b (b : UInt8) (w : World) : Calls Tryd.prog 39 #[.int .u8 b.toNat] w fun e w' => e = .returned (.bool (Sc.first b)) ∧ w = w' := by
  have h := first_any b.toNat (by omega) (by have := b.toNat_lt; omega) w
  rwa [byte_back] at h
theorem later_b (b : UInt8) (w : World) : Calls Tryd.prog 41 #[.int .u8 b.toNat] w fun e w' => e = .returned (.bool (Sc.later b)) ∧ w = w' := by
  have h := later_any b.toNat (by omega) (by have := b.toNat_lt; omega) w
  rwa [byte_back] at h
theorem bare_b (b : UInt8) (w : World) : Calls Tryd.prog 61 #[.int .u8 b.toNat] w fun e w' => e = .returned (.bool (Sc.bare b)) ∧ w = w' := by
  have h := bare_any b.toNat (by omega) (by have := b.toNat_lt; omega) w
  rwa [byte_back] at h
end Go.Proofs.YtokhibghnpcogaaDoor
