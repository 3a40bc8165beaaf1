/- The walk of the reference's Rule. -/
import Derived.Test.YtokhibghnpcogaaGreatDoorRefE
open Go Go.RowKit
set_option linter.unusedVariables false
set_option linter.unusedSimpArgs false
set_option maxRecDepth 100000
namespace Go.Proofs.YtokhibghnpcogaaGreatDoor
open Wk
theorem rule_facts (b : UInt8) : ((b == 42 || b == 45 || b == 95) = true ∧ ((b != 42) = false ∨ ((b != 42) = true ∧ (b != 45) = false) ∨ ((b != 42) = true ∧ (b != 45) = true ∧ (b != 95) = false)))
    ∨ ((b == 42 || b == 45 || b == 95) = false ∧ (b != 42) = true ∧ (b != 45) = true ∧ (b != 95) = true) := by
  unfold bne
  cases (b == 42) <;> cases (b == 45) <;> cases (b == 95) <;> simp
theorem take_snoc (s : ByteArray) (k : Nat) (h : k < s.size) : s.data.toList.take (k + 1) = s.data.toList.take k ++ [s[k]] := by
  have hl : k < s.data.toList.length := by rw [Sc.len_size]; exact h
  exact List.take_succ_eq_append_getElem hl
set_option maxHeartbeats 2000000 in
theorem rule_r (s : ByteArray) (w : World) (hs : Small s) :
    Calls Tryz.prog 16 #[.string s] w fun e w' => e = .returned (.bool (Sc.rule s.data.toList)) ∧ Below w.heap.size w w' := by
  unfold Small at hs
  have n42 : ∀ b : UInt8, ((b.toNat : Int) != 42) = (b != 42) := fun b => bne_u8 b 42 (by decide)
  have n45 : ∀ b : UInt8, ((b.toNat : Int) != 45) = (b != 45) := fun b => bne_u8 b 45 (by decide)
  have n95 : ∀ b : UInt8, ((b.toNat : Int) != 95) = (b != 95) := fun b => bne_u8 b 95 (by decide)
  have eb : ∀ b c : UInt8, ((b.toNat : Int) == (c.toNat : Int)) = (b == c) := fun b c => beq_uu b c
  by_cases h0 : s.data.toList = []
  · have h1 : s.toList = [] := by rw [toList_data, h0]
    rw [h0]
    clear h0
    go_enter Tryz.func16, Tryz.ntmps16
    go_wp2
    go_ret
    exact ⟨rfl, Below.refl _ _⟩
  have hz := Sc.size_pos h0
  have E := Sc.head_of hz
  have h1 : (s.toList == ([] : List UInt8)) = false := by rw [toList_data, beq_eq_false_iff_ne]; exact h0
  clear h0
  have hF : Sc.rule s.data.toList = ((s[0] == 42 || s[0] == 45 || s[0] == 95) && decide (3 ≤ s.data.toList.count s[0]) && s.data.toList.all (fun x => ([32, 9, s[0]] : List UInt8).contains x)) := by
    generalize s.data.toList.drop 1 = l1 at *
    rw [E, Sc.rule]
  generalize Sc.rule s.data.toList = X at *
  clear E
  rcases rule_facts s[0] with ⟨f0, f⟩ | ⟨f0, f1, f2, f3⟩
  · have hF2 : X = (decide (3 ≤ s.data.toList.count s[0]) && s.data.toList.all (fun x => ([32, 9, s[0]] : List UInt8).contains x)) := by rw [hF, f0]; rfl
    have HF := Lib.hid hF2
    clear hF hF2 f0
    have ok : ∀ x : UInt8, ([32, 9, s[0]] : List UInt8).contains x = (Sc.blank x || x == s[0]) := fun x => by
      simp only [List.contains_cons, List.contains_nil, Bool.or_false, Sc.blank, Bool.or_assoc]
    have HK := Lib.hid ok
    clear ok
    have tk0 : s.data.toList.take s.size = s.data.toList := List.take_of_length_le (by simp)
    have HT := Lib.hid tk0
    clear tk0
    rcases f with f1 | ⟨f1, f2⟩ | ⟨f1, f2, f3⟩
    all_goals (
      go_enter Tryz.func16, Tryz.ntmps16
      go_wp2
      go_loopw [3, 4] (fun v i wr => ∃ k n : Nat, i = .int .i64 k ∧ v = .int .i64 n ∧ n ≤ k ∧ k ≤ s.size ∧ Hid (n = (s.data.toList.take k).count s[0]) ∧ Hid ((s.data.toList.take k).all (fun x => ([32, 9, s[0]] : List UInt8).contains x) = true) ∧ Below w.heap.size w wr) (fun _ i _ => s.size - (intOf i).toNat)
      case atStart => exact ⟨0, 0, rfl, rfl, Nat.le_refl _, Nat.zero_le _, Lib.hid rfl, Lib.hid rfl, Below.refl _ _⟩
      case round =>
        obtain ⟨k, n, rfl, rfl, hnk, hk, HC, HA, bw⟩ := hrel
        by_cases hp : k < s.size
        · have TS := take_snoc s k hp
          have BL := fun w => blank_r s[k] w
          by_cases hb : s[k] = s[0]
          · have q1 : (s[k] == s[0]) = true := by simpa using hb
            have HC2 := Lib.hid (show n + 1 = (s.data.toList.take (k + 1)).count s[0] by rw [TS, List.count_append, ← HC.out, hb]; simp)
            have HA2 := Lib.hid (show (s.data.toList.take (k + 1)).all (fun x => ([32, 9, s[0]] : List UInt8).contains x) = true by
              rw [TS, List.all_append, HA.out]; simp only [List.all_cons, List.all_nil, Bool.and_true, Bool.true_and]; rw [HK.out, q1, Bool.or_true])
            clear TS BL hb
            go_wp2
            go_quiet (fail)
            go_wp2
            go_roundw
            case rel => exact ⟨k + 1, n + 1, by go_num, by go_num, by omega, hp, HC2, HA2, below_drewN bw _⟩
            case measure => simp [intOf]; omega
          · have q1 : (s[k] == s[0]) = false := by simpa using hb
            cases hbl : Sc.blank s[k] with
            | true =>
              have HC2 := Lib.hid (show n = (s.data.toList.take (k + 1)).count s[0] by rw [TS, List.count_append, ← HC.out]; simp [hb])
              have HA2 := Lib.hid (show (s.data.toList.take (k + 1)).all (fun x => ([32, 9, s[0]] : List UInt8).contains x) = true by
                rw [TS, List.all_append, HA.out]; simp only [List.all_cons, List.all_nil, Bool.and_true, Bool.true_and]; rw [HK.out, hbl, Bool.true_or])
              rw [hbl] at BL
              clear TS hb hbl
              go_wp2
              go_quiet (fail)
              go_wp2_with (go_at_call 42; (with_reducible refine (BL _).mono ?_); rintro e w' ⟨rfl, rfl⟩)
              go_roundw
              case rel => exact ⟨k + 1, n, by go_num, rfl, by omega, hp, HC2, HA2, below_drewN bw _⟩
              case measure => simp [intOf]; omega
            | false =>
              have F2 := Lib.hid (show X = false by
                rw [HF.out]
                have : s.data.toList.all (fun x => ([32, 9, s[0]] : List UInt8).contains x) = false := by
                  rw [List.all_eq_false]
                  refine ⟨s[k], ?_, ?_⟩
                  · exact List.getElem_mem (l := s.data.toList) (n := k) (by rw [Sc.len_size]; exact hp)
                  · rw [HK.out, hbl, q1]; simp
                rw [this, Bool.and_false])
              rw [hbl] at BL
              clear TS hb hbl
              go_wp2
              go_quiet (fail)
              go_wp2_with (go_at_call 42; (with_reducible refine (BL _).mono ?_); rintro e w' ⟨rfl, rfl⟩)
              go_ret
              exact ⟨by rw [F2.out]; rfl, below_drewN bw _⟩
        · have hks : k = s.size := by omega
          have F2 := Lib.hid (show X = decide (3 ≤ n) by
            rw [HF.out]
            have h1 := HC.out
            have h2 := HA.out
            rw [hks, HT.out] at h1 h2
            rw [h2, h1, Bool.and_true])
          clear hks
          go_wp2
          go_ret
          exact ⟨ret_bool (by rw [F2.out, Bool.eq_iff_iff]; simp; try omega), bw⟩)
  · have HF := Lib.hid (show X = false by rw [hF, f0]; rfl)
    clear hF f0
    go_enter Tryz.func16, Tryz.ntmps16
    go_wp2
    go_ret
    exact ⟨by rw [HF.out]; rfl, Below.refl _ _⟩
end Go.Proofs.YtokhibghnpcogaaGreatDoor
