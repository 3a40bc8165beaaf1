/- The walk of the reference's Fence. -/
import Derived.Test.YtokhibghnpcogaaGreatDoorRefF
open Go Go.RowKit
set_option linter.unusedVariables false
set_option linter.unusedSimpArgs false
set_option maxRecDepth 100000
namespace Go.Proofs.YtokhibghnpcogaaGreatDoor
open Wk
theorem contains_step (c : UInt8) (s : ByteArray) (k : Nat) (h : k < s.size) : (s.data.toList.drop k).contains c = (s[k] == c || (s.data.toList.drop (k + 1)).contains c) := by
  rw [Sc.drop_at s k h, List.contains_cons]
  congr 1
  rw [Bool.eq_iff_iff, beq_iff_eq, beq_iff_eq]; exact eq_comm
set_option maxHeartbeats 2000000 in
theorem fence_r (s : ByteArray) (w : World) (hs : Small s) :
    Calls Tryz.prog 12 #[.string s] w fun e w' => e = .returned (.tuple #[.int .u8 (Sc.fence s.data.toList).1.toNat, .int .i64 (Sc.fence s.data.toList).2.1, .string (mk (Sc.fence s.data.toList).2.2)]) ∧ Below w.heap.size w w' := by
  have n96 : ∀ b : UInt8, ((b.toNat : Int) != 96) = (b != 96) := fun b => bne_u8 b 96 (by decide)
  have n126 : ∀ b : UInt8, ((b.toNat : Int) != 126) = (b != 126) := fun b => bne_u8 b 126 (by decide)
  have e96 : ∀ b : UInt8, ((b.toNat : Int) == 96) = (b == 96) := fun b => beq_u8 b 96 (by decide)
  by_cases h0 : s.data.toList = []
  · have h1 : s.toList = [] := by rw [toList_data, h0]
    rw [h0]
    clear h0
    go_enter Tryz.func12, Tryz.ntmps12
    go_wp2
    go_ret3
    exact ⟨rfl, Below.refl _ _⟩
  have hz := Sc.size_pos h0
  have E := Sc.head_of hz
  have h1 : (s.toList == ([] : List UInt8)) = false := by rw [toList_data, beq_eq_false_iff_ne]; exact h0
  clear h0
  have hF : Sc.fence s.data.toList = if s[0] ≠ 96 ∧ s[0] ≠ 126 then ((0 : UInt8), (0 : Nat), ([] : List UInt8)) else if Sc.run s[0] s.data.toList < 3 ∨ (s[0] = 96 ∧ (s.data.toList.drop (Sc.run s[0] s.data.toList)).contains 96) then ((0 : UInt8), (0 : Nat), ([] : List UInt8)) else (s[0], Sc.run s[0] s.data.toList, Sc.trim (s.data.toList.drop (Sc.run s[0] s.data.toList))) := by
    generalize s.data.toList.drop 1 = l1 at *
    rw [E]; rfl
  clear E
  have RU := fun w => run_r s s[0] w hs
  have hr := Sc.run_le s[0] s.data.toList
  rw [Sc.len_size] at hr
  generalize Sc.fence s.data.toList = X at *
  generalize Sc.run s[0] s.data.toList = n at *
  by_cases hk : s[0] = 96 ∨ s[0] = 126
  case neg =>
    have q1 : (s[0] != 96) = true := by simp; exact fun h => hk (.inl h)
    have q2 : (s[0] != 126) = true := by simp; exact fun h => hk (.inr h)
    have HF := Lib.hid (show X = ((0 : UInt8), (0 : Nat), ([] : List UInt8)) by rw [hF, if_pos ⟨fun h => hk (.inl h), fun h => hk (.inr h)⟩])
    clear hF hk
    go_enter Tryz.func12, Tryz.ntmps12
    go_wp2
    go_ret3
    exact ⟨by rw [HF.out]; rfl, Below.refl _ _⟩
  rw [if_neg (by rintro ⟨h1, h2⟩; rcases hk with h | h; exact h1 h; exact h2 h)] at hF
  have hfirst : ((s[0] != 96) = false ∧ s[0] = 96) ∨ ((s[0] != 96) = true ∧ (s[0] != 126) = false ∧ s[0] = 126) := by
    rcases hk with h | h
    · exact .inl ⟨by simp [h], h⟩
    · exact .inr ⟨by rw [h]; decide, by simp [h], h⟩
  clear hk
  by_cases h3 : n < 3
  · have HF := Lib.hid (show X = ((0 : UInt8), (0 : Nat), ([] : List UInt8)) by rw [hF, if_pos (.inl h3)])
    clear hF
    rcases hfirst with ⟨q1, hq⟩ | ⟨q1, q2, hq⟩
    all_goals (
      clear hq
      go_enter Tryz.func12, Tryz.ntmps12
      go_wp2_with (go_at_call 39; (with_reducible refine (RU _).mono ?_); rintro e w1 ⟨rfl, rfl⟩)
      go_ret3
      exact ⟨by rw [HF.out]; rfl, Below.refl _ _⟩)
  have hz2 : Small (s.extract n s.size) := by unfold Small at *; rw [← Sc.len_size, Sc.drop_data]; simp; omega
  have TR := fun w => trim_r (s.extract n s.size) w hz2
  rw [Sc.drop_data] at TR
  unfold Small at hs
  rcases hfirst with ⟨q1, hq⟩ | ⟨q1, q2, hq⟩
  · have q3 : (s[0] == 96) = true := by simp [hq]
    have hF2 : X = if (s.data.toList.drop n).contains 96 = true then ((0 : UInt8), (0 : Nat), ([] : List UInt8)) else (s[0], n, Sc.trim (s.data.toList.drop n)) := by
      rw [hF]
      by_cases hc : (s.data.toList.drop n).contains 96 = true
      · rw [if_pos (.inr ⟨hq, hc⟩), if_pos hc]
      · rw [if_neg (by rintro (h | h); exact h3 h; exact hc h.2), if_neg hc]
    have HF := Lib.hid hF2
    clear hF hF2 hq
    go_enter Tryz.func12, Tryz.ntmps12
    go_wp2_with (go_at_call 39; (with_reducible refine (RU _).mono ?_); rintro e w1 ⟨rfl, rfl⟩)
    clear RU
    go_loopw [6] (fun i wr => ∃ k : Nat, i = .int .i64 k ∧ k ≤ s.size ∧ Hid ((s.data.toList.drop n).contains 96 = (s.data.toList.drop k).contains 96) ∧ Below w.heap.size w wr) (fun i _ => s.size - (intOf i).toNat)
    case atStart => exact ⟨n, rfl, hr, Lib.hid rfl, Below.refl _ _⟩
    case round =>
      obtain ⟨k, rfl, hk, HC, bw⟩ := hrel
      by_cases hp : k < s.size
      · have ST := contains_step 96 s k hp
        cases hb : (s[k] == 96) with
        | true =>
          have F2 := Lib.hid (show X = ((0 : UInt8), (0 : Nat), ([] : List UInt8)) by rw [HF.out, HC.out, ST, hb]; rfl)
          clear ST
          go_wp2
          try (go_quiet (fail); go_wp2)
          go_ret3
          exact ⟨by rw [F2.out]; rfl, by first | exact bw | exact below_drewN bw _⟩
        | false =>
          have HC2 := Lib.hid (show (s.data.toList.drop n).contains 96 = (s.data.toList.drop (k + 1)).contains 96 by rw [HC.out, ST, hb, Bool.false_or])
          clear ST
          go_wp2
          try (go_quiet (fail); go_wp2)
          go_roundw
          case rel => exact ⟨k + 1, by go_num, hp, HC2, by first | exact bw | exact below_drewN bw _⟩
          case measure => simp [intOf]; omega
      · have F2 := Lib.hid (show X = (s[0], n, Sc.trim (s.data.toList.drop n)) by
          rw [HF.out, HC.out, List.drop_eq_nil_of_le (by simp; omega)]; rfl)
        go_wp2
        go_quiet ((go_at_call 41; exact Calls.quiet_of_same ((TR _).mono fun _ _ h => ⟨h.1, h.2.symm⟩)))
        go_wp2
        go_ret3
        exact ⟨by rw [F2.out]; rfl, below_drewN bw _⟩
  · have q3 : (s[0] == 96) = false := by rw [hq]; decide
    have HF := Lib.hid (show X = (s[0], n, Sc.trim (s.data.toList.drop n)) by
      rw [hF, if_neg (by rintro (h | h); exact h3 h; rw [hq] at h; exact absurd h.1 (by decide))])
    clear hF hq
    go_enter Tryz.func12, Tryz.ntmps12
    go_wp2_with (go_at_call 39; (with_reducible refine (RU _).mono ?_); rintro e w1 ⟨rfl, rfl⟩)
    clear RU
    go_loopw [6] (fun i wr => ∃ k : Nat, i = .int .i64 k ∧ k ≤ s.size ∧ Below w.heap.size w wr) (fun i _ => s.size - (intOf i).toNat)
    case atStart => exact ⟨n, rfl, hr, Below.refl _ _⟩
    case round =>
      obtain ⟨k, rfl, hk, bw⟩ := hrel
      by_cases hp : k < s.size
      · go_wp2
        try (go_quiet (fail); go_wp2)
        go_roundw
        case rel => exact ⟨k + 1, by go_num, hp, by first | exact bw | exact below_drewN bw _⟩
        case measure => simp [intOf]; omega
      · go_wp2
        go_quiet ((go_at_call 41; exact Calls.quiet_of_same ((TR _).mono fun _ _ h => ⟨h.1, h.2.symm⟩)))
        go_wp2
        go_ret3
        exact ⟨by rw [HF.out]; rfl, below_drewN bw _⟩
end Go.Proofs.YtokhibghnpcogaaGreatDoor
