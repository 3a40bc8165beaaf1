/- Walks of package scan's small functions and of the scanner's methods. -/
import Derived.Test.YtokhibghnpcogaaGreatDoorKit
import Derived.Test.YtokhibghnpcogaaGreatDoorSc
import Derived.Test.YtokhibghnpcogaaGreatDoorShelf
open Go Go.RowKit
namespace Go.Proofs.YtokhibghnpcogaaGreatDoor
open Wk
set_option maxRecDepth 100000

theorem letter_any (c : Int) (h0 : 0 ≤ c) (h1 : c ≤ 255) (w : World) :
    Calls Tryz.prog 53 #[.int .u8 c] w fun e w' => e = .returned (.bool (Sc.letter c.toNat.toUInt8)) ∧ w = w' := by
  obtain ⟨n, rfl⟩ := Int.eq_ofNat_of_zero_le h0
  have key : ∀ n : Fin 256, (Sc.letter (n.val.toUInt8)) = (decide (97 ≤ bits .or .u8 (n.val : Int) 32) && decide (bits .or .u8 (n.val : Int) 32 ≤ 122)) := by decide +kernel
  have K := key ⟨n, by omega⟩
  simp only at K
  rw [Int.toNat_natCast, K]
  clear K key
  go_enter Tryz.func53, Tryz.ntmps53
  go_wp2
  all_goals (go_ret; exact ⟨by simp [*] <;> omega, rfl⟩)

theorem digit_any (c : Int) (h0 : 0 ≤ c) (h1 : c ≤ 255) (w : World) :
    Calls Tryz.prog 65 #[.int .u8 c] w fun e w' => e = .returned (.bool (Sc.digit c.toNat.toUInt8)) ∧ w = w' := by
  obtain ⟨n, rfl⟩ := Int.eq_ofNat_of_zero_le h0
  have K : Sc.digit n.toUInt8 = (decide (48 ≤ (n : Int)) && decide ((n : Int) ≤ 57)) := by
    have e : n % 256 = n := by omega
    simp only [Sc.digit, Nat.toUInt8, UInt8.toNat_ofNat', e]
    rw [Bool.eq_iff_iff]; simp; omega
  rw [Int.toNat_natCast, K]
  clear K
  go_enter Tryz.func65, Tryz.ntmps65
  go_wp2
  all_goals (go_ret; exact ⟨by simp [*] <;> omega, rfl⟩)

theorem first_any (c : Int) (h0 : 0 ≤ c) (h1 : c ≤ 255) (w : World) :
    Calls Tryz.prog 66 #[.int .u8 c] w fun e w' => e = .returned (.bool (Sc.first c.toNat.toUInt8)) ∧ w = w' := by
  have K : Sc.first c.toNat.toUInt8 = (Sc.letter c.toNat.toUInt8 || (c == 95) || (c == 58)) := by
    obtain ⟨n, rfl⟩ := Int.eq_ofNat_of_zero_le h0
    have key : ∀ n : Fin 256, (Sc.first (n.val.toUInt8)) = (Sc.letter n.val.toUInt8 || ((n.val : Int) == 95) || ((n.val : Int) == 58)) := by decide +kernel
    exact key ⟨n, by omega⟩
  rw [K]
  clear K
  go_enter Tryz.func66, Tryz.ntmps66
  go_wp2_with (go_at_call 53; refine (letter_any _ h0 h1 _).mono ?_; rintro e w' ⟨rfl, rfl⟩)
  all_goals (go_ret; exact ⟨by simp [*], rfl⟩)

theorem later_any (c : Int) (h0 : 0 ≤ c) (h1 : c ≤ 255) (w : World) :
    Calls Tryz.prog 68 #[.int .u8 c] w fun e w' => e = .returned (.bool (Sc.later c.toNat.toUInt8)) ∧ w = w' := by
  have K : Sc.later c.toNat.toUInt8 = (Sc.first c.toNat.toUInt8 || Sc.digit c.toNat.toUInt8 || (c == 46) || (c == 45)) := by
    obtain ⟨n, rfl⟩ := Int.eq_ofNat_of_zero_le h0
    have key : ∀ n : Fin 256, (Sc.later (n.val.toUInt8)) = (Sc.first n.val.toUInt8 || Sc.digit n.val.toUInt8 || ((n.val : Int) == 46) || ((n.val : Int) == 45)) := by decide +kernel
    exact key ⟨n, by omega⟩
  rw [K]
  clear K
  go_enter Tryz.func68, Tryz.ntmps68
  go_wp2_with (first
    | (go_at_call 66; refine (first_any _ h0 h1 _).mono ?_; rintro e w' ⟨rfl, rfl⟩)
    | (go_at_call 65; refine (digit_any _ h0 h1 _).mono ?_; rintro e w' ⟨rfl, rfl⟩))
  all_goals (go_ret; exact ⟨by simp [*], rfl⟩)

theorem bare_any (c : Int) (h0 : 0 ≤ c) (h1 : c ≤ 255) (w : World) :
    Calls Tryz.prog 89 #[.int .u8 c] w fun e w' => e = .returned (.bool (Sc.bare c.toNat.toUInt8)) ∧ w = w' := by
  have K : Sc.bare c.toNat.toUInt8 = decide (Lib.indexByte [32, 9, 10, 34, 39, 61, 60, 62, 96] c.toNat.toUInt8 < 0) := by
    obtain ⟨n, rfl⟩ := Int.eq_ofNat_of_zero_le h0
    have key : ∀ n : Fin 256, Sc.bare (n.val.toUInt8) = decide (Lib.indexByte [32, 9, 10, 34, 39, 61, 60, 62, 96] n.val.toUInt8 < 0) := by decide +kernel
    exact key ⟨n, by omega⟩
  rw [K]
  clear K
  go_enter Tryz.func89, Tryz.ntmps89
  go_wp2_with (go_at_call 43; refine (Tryz.strings_IndexByte _ _ _).mono ?_; rintro e w' ⟨rfl, rfl⟩)
  all_goals (go_ret; exact ⟨by simp, rfl⟩)

theorem letter_b (b : UInt8) (w : World) : Calls Tryz.prog 53 #[.int .u8 b.toNat] w fun e w' => e = .returned (.bool (Sc.letter b)) ∧ w = w' := by
  have h := letter_any b.toNat (by omega) (by have := b.toNat_lt; omega) w
  rwa [byte_back] at h
theorem digit_b (b : UInt8) (w : World) : Calls Tryz.prog 65 #[.int .u8 b.toNat] w fun e w' => e = .returned (.bool (Sc.digit b)) ∧ w = w' := by
  have h := digit_any b.toNat (by omega) (by have := b.toNat_lt; omega) w
  rwa [byte_back] at h
theorem first_b (b : UInt8) (w : World) : Calls Tryz.prog 66 #[.int .u8 b.toNat] w fun e w' => e = .returned (.bool (Sc.first b)) ∧ w = w' := by
  have h := first_any b.toNat (by omega) (by have := b.toNat_lt; omega) w
  rwa [byte_back] at h
theorem later_b (b : UInt8) (w : World) : Calls Tryz.prog 68 #[.int .u8 b.toNat] w fun e w' => e = .returned (.bool (Sc.later b)) ∧ w = w' := by
  have h := later_any b.toNat (by omega) (by have := b.toNat_lt; omega) w
  rwa [byte_back] at h
theorem bare_b (b : UInt8) (w : World) : Calls Tryz.prog 89 #[.int .u8 b.toNat] w fun e w' => e = .returned (.bool (Sc.bare b)) ∧ w = w' := by
  have h := bare_any b.toNat (by omega) (by have := b.toNat_lt; omega) w
  rwa [byte_back] at h
end Go.Proofs.YtokhibghnpcogaaGreatDoor
