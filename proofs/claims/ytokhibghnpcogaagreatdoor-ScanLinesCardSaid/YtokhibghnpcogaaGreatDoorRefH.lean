/- The walk of the reference's Ordered. -/
import Derived.Test.YtokhibghnpcogaaGreatDoorRefG
open Go Go.RowKit
set_option linter.unusedVariables false
set_option linter.unusedSimpArgs false
set_option maxRecDepth 100000
namespace Go.Proofs.YtokhibghnpcogaaGreatDoor
open Wk
theorem num_snoc (l : List UInt8) (b : UInt8) : Sc.num (l ++ [b]) = Sc.num l * 10 + (b.toNat - 48) := by
  unfold Sc.num; rw [List.foldl_append]; rfl
theorem pow_step {n k d : Nat} (h : n < 10 ^ k) (hd : d ≤ 9) : n * 10 + d < 10 ^ (k + 1) := by
  rw [Nat.pow_succ]; omega
theorem pow_bound {n k : Nat} (h : n < 10 ^ k) (hk : k ≤ 10) : n < 10000000000 :=
  Nat.lt_of_lt_of_le h (Nat.le_trans (Nat.pow_le_pow_right (by decide) hk) (by decide))
set_option maxHeartbeats 2000000 in
theorem ordered_r (s : ByteArray) (w : World) (hs : Small s) :
    Calls Tryz.prog 14 #[.string s] w fun e w' => e = .returned (.tuple #[.int .i64 (Sc.ordered s.data.toList).1, .int .u8 (Sc.ordered s.data.toList).2.1.toNat, .int .i64 (Sc.ordered s.data.toList).2.2]) ∧ Below w.heap.size w w' := by
  have n46 : ∀ b : UInt8, ((b.toNat : Int) != 46) = (b != 46) := fun b => bne_u8 b 46 (by decide)
  have n41 : ∀ b : UInt8, ((b.toNat : Int) != 41) = (b != 41) := fun b => bne_u8 b 41 (by decide)
  have hX : Sc.ordered s.data.toList = Sc.orderedAt (s.data.toList.takeWhile Sc.digit) (s.data.toList.dropWhile Sc.digit) := rfl
  generalize Sc.ordered s.data.toList = X at *
  have HX := Lib.hid hX
  clear hX
  have EN := fun (k : Nat) (w : World) => end_r (s.extract k s.size) w
  simp only [Sc.drop_data] at EN
  unfold Small at hs
  go_enter Tryz.func14, Tryz.ntmps14
  go_wp2
  go_loop [5, 6] (fun i v => ∃ k n : Nat, i = .int .i64 k ∧ v = .int .i64 n ∧ k ≤ 10 ∧ Sc.Upto Sc.digit s 0 k ∧ Hid (n = Sc.num (s.data.toList.take k)) ∧ Hid (n < 10 ^ k)) (fun i _ => s.size - (intOf i).toNat)
  case atStart => exact ⟨0, 0, rfl, rfl, by decide, Sc.Upto.start (Nat.zero_le _), Lib.hid rfl, Lib.hid (by decide)⟩
  case round =>
    obtain ⟨k, n, rfl, rfl, hk10, U, HN, HB⟩ := hrel
    have hks := U.le
    have hn := pow_bound HB.out hk10
    by_cases hp : k < s.size
    · by_cases h10 : k < 10
      · have DG := fun w => digit_r s[k] w
        cases hd : Sc.digit s[k] with
        | true =>
          have bd := Sc.digit_bd hd
          have HU := Lib.hid (U.step hp hd)
          have HN2 := Lib.hid (show n * 10 + (s[k].toNat - 48) = Sc.num (s.data.toList.take (k + 1)) by rw [take_snoc s k hp, num_snoc, ← HN.out])
          have HB2 := Lib.hid (pow_step HB.out (show s[k].toNat - 48 ≤ 9 by omega))
          rw [hd] at DG
          clear hd U
          go_wp2_with (go_at_call 46; (with_reducible refine (DG _).mono ?_); rintro e w' ⟨rfl, rfl⟩)
          go_round
          case rel => exact ⟨k + 1, n * 10 + (s[k].toNat - 48), by go_num, by go_num, by omega, HU.out, HN2, HB2⟩
          case measure => simp [intOf]; omega
        | false =>
          obtain ⟨e1, e2⟩ := U.stop (fun _ => hd)
          simp only [List.drop_zero, Nat.sub_zero] at e1 e2
          have hl : (s.data.toList.take k).length = k := by rw [List.length_take, Sc.len_size]; omega
          have hX2 : X = if k < 1 ∨ 9 < k then ((0 : Nat), (0 : UInt8), (0 : Nat)) else if (s[k] = 46 ∨ s[k] = 41) ∧ Sc.ends (s.data.toList.drop (k + 1)) = true then (n, s[k], k + 1) else ((0 : Nat), (0 : UInt8), (0 : Nat)) := by
            rw [HX.out, e1, e2, Sc.drop_at s k hp, Sc.orderedAt, hl, ← HN.out]
          have EK := EN (k + 1)
          generalize Sc.ends (s.data.toList.drop (k + 1)) = en at *
          rw [hd] at DG
          clear hd U e1 e2 hl HX EN
          by_cases hk0 : k < 1
          · have F2 := Lib.hid (show X = ((0 : Nat), (0 : UInt8), (0 : Nat)) by rw [hX2, if_pos (.inl hk0)])
            clear hX2
            go_wp2_with (go_at_call 46; (with_reducible refine (DG _).mono ?_); rintro e w' ⟨rfl, rfl⟩)
            go_ret3
            exact ⟨by rw [F2.out]; rfl, Below.refl _ _⟩
          · rw [if_neg (by omega)] at hX2
            have hf1 : decide ((k : Int) < 1) = false := by simp; omega
            have hf2 : decide (9 < (k : Int)) = false := by simp; omega
            have hf3 : ((k : Int) == (s.size : Int)) = false := by rw [beq_eq_false_iff_ne]; omega
            by_cases hm : s[k] = 46 ∨ s[k] = 41
            · have hm2 : (s[k] != 46) = false ∨ ((s[k] != 46) = true ∧ (s[k] != 41) = false) := by
                rcases hm with h | h
                · exact .inl (by simp [h])
                · exact .inr ⟨by rw [h]; decide, by simp [h]⟩
              cases en with
              | true =>
                have F2 := Lib.hid (show X = (n, s[k], k + 1) by rw [hX2, if_pos ⟨hm, rfl⟩])
                clear hX2 hm
                rcases hm2 with q1 | ⟨q1, q2⟩
                all_goals (
                  go_wp2_with (first | (go_at_call 46; (with_reducible refine (DG _).mono ?_); rintro e w' ⟨rfl, rfl⟩) | (go_at_call 40; (with_reducible refine (EK _).mono ?_); rintro e w' ⟨rfl, rfl⟩))
                  try (go_quiet (fail); go_wp2)
                  go_ret3
                  exact ⟨by rw [F2.out]; rfl, by first | exact Below.refl _ _ | exact drewN_below _ _⟩)
              | false =>
                have F2 := Lib.hid (show X = ((0 : Nat), (0 : UInt8), (0 : Nat)) by rw [hX2, if_neg (by simp)])
                clear hX2 hm
                rcases hm2 with q1 | ⟨q1, q2⟩
                all_goals (
                  go_wp2_with (first | (go_at_call 46; (with_reducible refine (DG _).mono ?_); rintro e w' ⟨rfl, rfl⟩) | (go_at_call 40; (with_reducible refine (EK _).mono ?_); rintro e w' ⟨rfl, rfl⟩))
                  go_ret3
                  exact ⟨by rw [F2.out]; rfl, Below.refl _ _⟩)
            · have F2 := Lib.hid (show X = ((0 : Nat), (0 : UInt8), (0 : Nat)) by rw [hX2, if_neg (fun h => hm h.1)])
              have q1 : (s[k] != 46) = true := by simp; exact fun h => hm (.inl h)
              have q2 : (s[k] != 41) = true := by simp; exact fun h => hm (.inr h)
              clear hX2 hm
              go_wp2_with (go_at_call 46; (with_reducible refine (DG _).mono ?_); rintro e w' ⟨rfl, rfl⟩)
              go_ret3
              exact ⟨by rw [F2.out]; rfl, Below.refl _ _⟩
      · have F2 := Lib.hid (show X = ((0 : Nat), (0 : UInt8), (0 : Nat)) by
          have h3 := U.tw
          have : k = 10 := by omega
          subst this
          simp only [List.drop_zero, Nat.sub_zero] at h3
          rw [HX.out]
          unfold Sc.orderedAt
          rw [if_pos]
          right
          rw [h3, List.length_append, List.length_take, Sc.len_size]
          omega)
        clear U HX EN
        go_wp2
        go_ret3
        exact ⟨by rw [F2.out]; rfl, Below.refl _ _⟩
    · have F2 := Lib.hid (show X = ((0 : Nat), (0 : UInt8), (0 : Nat)) by
        obtain ⟨e1, e2⟩ := U.stop (fun h => absurd h hp)
        simp only [List.drop_zero, Nat.sub_zero] at e1 e2
        have hk : k = s.size := by omega
        rw [HX.out, e1, e2, hk, List.drop_eq_nil_of_le (by simp), Sc.orderedAt]
        split <;> rfl)
      clear U HX EN
      go_wp2
      all_goals (
        go_ret3
        exact ⟨by rw [F2.out]; rfl, Below.refl _ _⟩)
end Go.Proofs.YtokhibghnpcogaaGreatDoor
