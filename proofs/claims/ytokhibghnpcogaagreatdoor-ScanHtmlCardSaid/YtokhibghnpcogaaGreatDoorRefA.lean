/- The walks of the reference's blank, white, letter, digit, skip and Name. -/
import Derived.Test.YtokhibghnpcogaaGreatDoorLaw1
open Go Go.RowKit
set_option linter.unusedVariables false
set_option linter.unusedSimpArgs false
set_option maxRecDepth 100000
namespace Go.Proofs.YtokhibghnpcogaaGreatDoor
open Wk
theorem blank_r (b : UInt8) (w : World) :
    Calls Tryz.prog 42 #[.int .u8 b.toNat] w fun e w' => e = .returned (.bool (Sc.blank b)) ∧ w = w' := by
  have e32 : ∀ b : UInt8, ((b.toNat : Int) == 32) = (b == 32) := fun b => beq_u8 b 32 (by decide)
  have e9 : ∀ b : UInt8, ((b.toNat : Int) == 9) = (b == 9) := fun b => beq_u8 b 9 (by decide)
  go_enter Tryz.func42, Tryz.ntmps42
  go_wp2
  all_goals (go_ret; exact ⟨ret_bool (by simp [Sc.blank, *]), rfl⟩)
theorem white_r (b : UInt8) (w : World) :
    Calls Tryz.prog 71 #[.int .u8 b.toNat] w fun e w' => e = .returned (.bool (Sc.white b)) ∧ w = w' := by
  have e32 : ∀ b : UInt8, ((b.toNat : Int) == 32) = (b == 32) := fun b => beq_u8 b 32 (by decide)
  have e9 : ∀ b : UInt8, ((b.toNat : Int) == 9) = (b == 9) := fun b => beq_u8 b 9 (by decide)
  have e10 : ∀ b : UInt8, ((b.toNat : Int) == 10) = (b == 10) := fun b => beq_u8 b 10 (by decide)
  go_enter Tryz.func71, Tryz.ntmps71
  go_wp2
  all_goals (go_ret; exact ⟨ret_bool (by simp [Sc.white, *]), rfl⟩)
theorem letter_r (b : UInt8) (w : World) :
    Calls Tryz.prog 60 #[.int .u8 b.toNat] w fun e w' => e = .returned (.bool (Sc.letter b)) ∧ w = w' := by
  go_enter Tryz.func60, Tryz.ntmps60
  go_wp2
  all_goals (go_ret; exact ⟨ret_bool (by unfold Sc.letter; rw [Bool.eq_iff_iff]; simp; omega), rfl⟩)
theorem digit_r (b : UInt8) (w : World) :
    Calls Tryz.prog 46 #[.int .u8 b.toNat] w fun e w' => e = .returned (.bool (Sc.digit b)) ∧ w = w' := by
  go_enter Tryz.func46, Tryz.ntmps46
  go_wp2
  all_goals (go_ret; exact ⟨ret_bool (by unfold Sc.digit; rw [Bool.eq_iff_iff]; simp; omega), rfl⟩)
theorem skip_r (s : ByteArray) (w : World) (hs : Small s) :
    Calls Tryz.prog 34 #[.string s] w fun e w' => e = .returned (.string (mk (s.data.toList.dropWhile Sc.white))) ∧ w = w' := by
  unfold Small at hs
  generalize hF : s.data.toList.dropWhile Sc.white = F
  have HF := Lib.hid hF
  clear hF
  go_enter Tryz.func34, Tryz.ntmps34
  go_wp2
  go_loop [0] (fun v => ∃ t : ByteArray, v = .string t ∧ t.size ≤ s.size ∧ Hid (t.data.toList.dropWhile Sc.white = F)) (fun v => strSize v)
  case atStart => exact ⟨s, rfl, Nat.le_refl _, HF⟩
  case round =>
    obtain ⟨t, rfl, ht, HT⟩ := hrel
    by_cases h0 : t.data.toList = []
    · have hz0 : t.size = 0 := by rw [← Sc.len_size, h0]; rfl
      have HF2 := Lib.hid (show mk F = t from by rw [← HT.out, h0, List.dropWhile_nil]; exact (mk_of h0).symm)
      clear h0
      go_wp2
      go_ret
      exact ⟨ret_eq (by rw [HF2.out]; rfl), rfl⟩
    · have hz := Sc.size_pos h0
      have E := Sc.head_of hz
      have WH := fun w => white_r t[0] w
      cases hw : Sc.white t[0] with
      | false =>
        have HF2 := Lib.hid (show mk F = t from by rw [← HT.out, E, List.dropWhile_cons, hw, ← E]; exact (mk_of (by simp)).symm)
        rw [hw] at WH
        clear h0 E hw
        go_wp2_with (go_at_call 71; (with_reducible refine (WH _).mono ?_); rintro e w' ⟨rfl, rfl⟩)
        go_ret
        exact ⟨ret_eq (by rw [HF2.out]; rfl), rfl⟩
      | true =>
        have hd := Sc.drop_data t 1
        have hl : (t.extract 1 t.size).size < t.size := by rw [← Sc.len_size, hd]; simp; omega
        have HT2 := Lib.hid (show (t.extract 1 t.size).data.toList.dropWhile Sc.white = F from by rw [hd, ← HT.out, E, List.dropWhile_cons, hw]; simp)
        rw [hw] at WH
        clear h0 E hw hd
        go_wp2_with (go_at_call 71; (with_reducible refine (WH _).mono ?_); rintro e w' ⟨rfl, rfl⟩)
        go_round
        case rel => exact ⟨_, rfl, by omega, HT2⟩
        case measure => simpa [strSize] using hl
theorem name_r (s : ByteArray) (w : World) (hs : Small s) :
    Calls Tryz.prog 32 #[.string s] w fun e w' => e = .returned (.tuple #[.string (mk (Sc.named s.data.toList).1), .string (mk (Sc.named s.data.toList).2)]) ∧ Below w.heap.size w w' := by
  have ms : mk s.data.toList = s := (mk_of rfl).symm
  by_cases h0 : s.data.toList = []
  · have h1 : s.toList = [] := by rw [toList_data, h0]
    have F := Lib.hid (show mk (Sc.named s.data.toList).1 = ⟨#[]⟩ ∧ mk (Sc.named s.data.toList).2 = s by rw [h0]; exact ⟨rfl, (mk_of h0).symm⟩)
    clear h0 ms
    go_enter Tryz.func32, Tryz.ntmps32
    go_wp2
    go_ret2
    exact ⟨by rw [F.out.1, F.out.2]; rfl, Below.refl _ _⟩
  · have hz := Sc.size_pos h0
    have E := Sc.head_of hz
    have h1 : (s.toList == ([] : List UInt8)) = false := by rw [toList_data, beq_eq_false_iff_ne]; exact h0
    have LT := fun w => letter_r s[0] w
    cases hl : Sc.letter s[0] with
    | false =>
      have F := Lib.hid (show mk (Sc.named s.data.toList).1 = ⟨#[]⟩ ∧ mk (Sc.named s.data.toList).2 = s by
        rw [E, Sc.named, hl, ← E]; exact ⟨rfl, ms⟩)
      rw [hl] at LT
      clear h0 ms E hl
      go_enter Tryz.func32, Tryz.ntmps32
      go_wp2_with (go_at_call 60; (with_reducible refine (LT _).mono ?_); rintro e w' ⟨rfl, rfl⟩)
      go_ret2
      exact ⟨by rw [F.out.1, F.out.2]; rfl, Below.refl _ _⟩
    | true =>
      have HN : ∀ k : Nat, Sc.Upto Sc.nameByte s 1 k → (∀ h : k < s.size, Sc.nameByte s[k] = false) → mk (Sc.named s.data.toList).1 = s.extract 0 k ∧ mk (Sc.named s.data.toList).2 = s.extract k s.size := by
        intro k u h
        obtain ⟨e1, e2⟩ := u.stop h
        have hge := u.ge
        have hle := u.le
        rw [E, Sc.named, hl]
        simp only [if_true]
        refine ⟨?_, ?_⟩
        · refine (mk_of ?_).symm
          rw [Sc.take_data, e1, E]
          obtain ⟨j, rfl⟩ : ∃ j, k = j + 1 := ⟨k - 1, by omega⟩
          simp
        · refine (mk_of ?_).symm
          rw [Sc.drop_data, e2]
      rw [hl] at LT
      have HNH := Lib.hid HN
      clear h0 ms E hl HN
      unfold Small at hs
      have e45 : ∀ b : UInt8, ((b.toNat : Int) == 45) = (b == 45) := fun b => beq_u8 b 45 (by decide)
      go_enter Tryz.func32, Tryz.ntmps32
      go_wp2_with (go_at_call 60; (with_reducible refine (LT _).mono ?_); rintro e w' ⟨rfl, rfl⟩)
      clear LT
      go_loop [4] (fun i => ∃ k : Nat, i = .int .i64 k ∧ Sc.Upto Sc.nameByte s 1 k) (fun i => s.size - (intOf i).toNat)
      case atStart => exact ⟨1, rfl, Sc.Upto.start hz⟩
      case round =>
        obtain ⟨k, rfl, U⟩ := hrel
        have hk := U.le
        by_cases hp : k < s.size
        · have LB := fun w => letter_r s[k] w
          have DG := fun w => digit_r s[k] w
          cases hq : Sc.nameByte s[k] with
          | true =>
            have HU := Lib.hid (U.step hp hq)
            have hq' : Sc.letter s[k] = true ∨ (Sc.letter s[k] = false ∧ Sc.digit s[k] = true) ∨ (Sc.letter s[k] = false ∧ Sc.digit s[k] = false ∧ (s[k] == 45) = true) := by
              unfold Sc.nameByte at hq
              cases h1 : Sc.letter s[k] <;> cases h2 : Sc.digit s[k] <;> simp_all
            clear hq U
            rcases hq' with h1 | ⟨h1, h2⟩ | ⟨h1, h2, h3⟩
            · rw [h1] at LB; clear h1
              go_wp2_with (go_at_call 60; (with_reducible refine (LB _).mono ?_); rintro e w' ⟨rfl, rfl⟩)
              go_round
              case rel => exact ⟨k + 1, by go_num, HU.out⟩
              case measure => simp [intOf]; omega
            · rw [h1] at LB; rw [h2] at DG; clear h1 h2
              go_wp2_with (first
                | (go_at_call 60; (with_reducible refine (LB _).mono ?_); rintro e w' ⟨rfl, rfl⟩)
                | (go_at_call 46; (with_reducible refine (DG _).mono ?_); rintro e w' ⟨rfl, rfl⟩))
              go_round
              case rel => exact ⟨k + 1, by go_num, HU.out⟩
              case measure => simp [intOf]; omega
            · rw [h1] at LB; rw [h2] at DG; clear h1 h2
              go_wp2_with (first
                | (go_at_call 60; (with_reducible refine (LB _).mono ?_); rintro e w' ⟨rfl, rfl⟩)
                | (go_at_call 46; (with_reducible refine (DG _).mono ?_); rintro e w' ⟨rfl, rfl⟩))
              go_round
              case rel => exact ⟨k + 1, by go_num, HU.out⟩
              case measure => simp [intOf]; omega
          | false =>
            have F := Lib.hid (HNH.out k U (fun _ => hq))
            have hq' : Sc.letter s[k] = false ∧ Sc.digit s[k] = false ∧ (s[k] == 45) = false := by
              unfold Sc.nameByte at hq; simp at hq; simp [hq]
            obtain ⟨h1, h2, h3⟩ := hq'
            rw [h1] at LB; rw [h2] at DG; clear h1 h2 hq U
            go_wp2_with (first
              | (go_at_call 60; (with_reducible refine (LB _).mono ?_); rintro e w' ⟨rfl, rfl⟩)
              | (go_at_call 46; (with_reducible refine (DG _).mono ?_); rintro e w' ⟨rfl, rfl⟩))
            go_quiet (fail)
            go_wp2
            go_ret2
            exact ⟨by rw [F.out.1, F.out.2]; rfl, drewN_below _ _⟩
        · have F := Lib.hid (HNH.out k U (fun h => absurd h hp))
          clear U
          go_wp2
          go_quiet (fail)
          go_wp2
          go_ret2
          exact ⟨by rw [F.out.1, F.out.2]; rfl, drewN_below _ _⟩
end Go.Proofs.YtokhibghnpcogaaGreatDoor
