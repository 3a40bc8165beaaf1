/- Walks of the scanner's methods: a text in quotes, bytes as long as something is so. -/
import Derived.Test.YtokhibghnpcogaaGreatDoorTag3
open Go Go.RowKit
set_option linter.unusedVariables false
set_option maxRecDepth 100000
namespace Go.Proofs.YtokhibghnpcogaaGreatDoor
open Wk
namespace Sc
theorem index_behind (c : UInt8) : ∀ l : List UInt8, (Lib.indexByte l c = -1 ∧ behind c l = none) ∨ ∃ i : Nat, Lib.indexByte l c = i ∧ i < l.length ∧ behind c l = some (l.drop (i + 1))
  | [] => .inl ⟨rfl, rfl⟩
  | b :: t => by
    by_cases h : b = c
    · exact .inr ⟨0, by simp [Lib.indexByte, h], by simp, by simp [behind, h]⟩
    · rcases index_behind c t with ⟨h1, h2⟩ | ⟨i, h1, h2, h3⟩
      · exact .inl ⟨by simp [Lib.indexByte, h, h1], by simp [behind, h, h2]⟩
      · refine .inr ⟨i + 1, ?_, by simp; omega, by simp [behind, h, h3]⟩
        simp only [Lib.indexByte, h1]
        simp [h]
end Sc
/-- What a method leaves that says whether something is there: where it is, what is left behind it. -/
def LeftO (g : Nat) (w : World) (F : Option (List UInt8)) (e : Ending) (w' : World) : Prop :=
  ∃ r : ByteArray, e = .returned (.bool F.isSome) ∧ (∀ t, F = some t → r.data.toList = t) ∧ r.size ≤ 4000000000 ∧ At 35 g r w' ∧ But g w w'

theorem quoted_any (g : Nat) (s : ByteArray) (c : UInt8) (w : World) (hs : Small s) (h : At 35 g s w) :
    Calls Tryz.prog 88 #[.pointer (some ⟨g, 0, none⟩), .int .u8 c.toNat] w (LeftO g w (Sc.behind c s.data.toList)) := by
  have hc := h.cell
  have hf := h.free
  have ec : ((c.toNat : Int)).toNat.toUInt8 = c := byte_back c
  unfold Small at hs
  rcases Sc.index_behind c s.data.toList with ⟨h1, h2⟩ | ⟨i, h1, h2, h3⟩
  · rw [h2]
    clear h2
    go_enter Tryz.func88, Tryz.ntmps88
    go_wp2_with (go_at_call 43; refine (Tryz.strings_IndexByte _ _ _).mono ?_; rintro e w1 ⟨rfl, rfl⟩; rw [ec, h1])
    go_ret
    exact ⟨s, rfl, (fun t ht => by cases ht), hs, h, But.refl⟩
  · rw [h3]
    rw [Sc.len_size] at h2
    have F := Lib.hid (Sc.drop_data s (i + 1))
    have ez : (s.extract (i + 1) s.size).size ≤ 4000000000 := by rw [← Sc.len_size, F.out]; simp; omega
    clear h3
    go_enter Tryz.func88, Tryz.ntmps88
    go_wp2_with (go_at_call 43; refine (Tryz.strings_IndexByte _ _ _).mono ?_; rintro e w1 ⟨rfl, rfl⟩; rw [ec, h1])
    go_ret
    exact ⟨_, rfl, (fun t ht => by cases ht; exact F.out), ez, h.set _, But.refl.set _ _⟩

theorem while_later (g : Nat) (s : ByteArray) (w : World) (hs : Small s) (h : At 35 g s w) :
    Calls Tryz.prog 67 #[.pointer (some ⟨g, 0, none⟩), .func (.func 68) #[] #[]] w (Left g w (decide (0 < (s.data.toList.takeWhile Sc.later).length), s.data.toList.dropWhile Sc.later)) := by
  have hc := h.cell
  have hf := h.free
  unfold Small at hs
  have U0 : Sc.Upto Sc.later s 0 0 := Sc.Upto.start (Nat.zero_le _)
  have fin : ∀ k, Sc.Upto Sc.later s 0 k → (∀ h : k < s.size, Sc.later s[k] = false) → decide (0 < (s.data.toList.takeWhile Sc.later).length) = decide (0 < k) ∧ (s.extract k s.size).data.toList = s.data.toList.dropWhile Sc.later := by
    intro k U h
    have F := U.stop h
    have hk := U.le
    simp only [List.drop_zero, Nat.sub_zero] at F
    rw [Sc.drop_data, F.2, F.1, List.length_take, Sc.len_size]
    exact ⟨by rw [decide_eq_decide]; omega, rfl⟩
  have FIN := Lib.hid fin
  clear fin
  go_enter Tryz.func67, Tryz.ntmps67
  go_wp2
  go_loop [5] (fun i => ∃ k : Nat, i = .int .i64 k ∧ Sc.Upto Sc.later s 0 k) (fun i => s.size - (intOf i).toNat)
  case atStart => exact ⟨0, rfl, U0⟩
  case round =>
    obtain ⟨k, rfl, U⟩ := hrel
    have hk := U.le
    by_cases hp : k < s.size
    · cases hl : Sc.later s[k] with
      | true =>
        go_wp2_with (go_at_call 68; refine (later_b _ _).mono ?_; rintro e w' ⟨rfl, rfl⟩)
        go_round
        case rel => exact ⟨k + 1, by go_num, U.step hp hl⟩
        case measure => simp [intOf]; omega
      | false =>
        have F := Lib.hid (FIN.out k U (fun _ => hl))
        go_wp2_with (go_at_call 68; refine (later_b _ _).mono ?_; rintro e w' ⟨rfl, rfl⟩)
        go_ret
        exact ⟨_, ret_bool F.out.1.symm, F.out.2, h.set _, But.refl.set _ _⟩
    · have F := Lib.hid (FIN.out k U (fun h => absurd h hp))
      go_wp2
      go_ret
      exact ⟨_, ret_bool F.out.1.symm, F.out.2, h.set _, But.refl.set _ _⟩

theorem while_bare (g : Nat) (s : ByteArray) (w : World) (hs : Small s) (h : At 35 g s w) :
    Calls Tryz.prog 67 #[.pointer (some ⟨g, 0, none⟩), .func (.func 89) #[] #[]] w (Left g w (decide (0 < (s.data.toList.takeWhile Sc.bare).length), s.data.toList.dropWhile Sc.bare)) := by
  have hc := h.cell
  have hf := h.free
  unfold Small at hs
  have U0 : Sc.Upto Sc.bare s 0 0 := Sc.Upto.start (Nat.zero_le _)
  have fin : ∀ k, Sc.Upto Sc.bare s 0 k → (∀ h : k < s.size, Sc.bare s[k] = false) → decide (0 < (s.data.toList.takeWhile Sc.bare).length) = decide (0 < k) ∧ (s.extract k s.size).data.toList = s.data.toList.dropWhile Sc.bare := by
    intro k U h
    have F := U.stop h
    have hk := U.le
    simp only [List.drop_zero, Nat.sub_zero] at F
    rw [Sc.drop_data, F.2, F.1, List.length_take, Sc.len_size]
    exact ⟨by rw [decide_eq_decide]; omega, rfl⟩
  have FIN := Lib.hid fin
  clear fin
  go_enter Tryz.func67, Tryz.ntmps67
  go_wp2
  go_loop [5] (fun i => ∃ k : Nat, i = .int .i64 k ∧ Sc.Upto Sc.bare s 0 k) (fun i => s.size - (intOf i).toNat)
  case atStart => exact ⟨0, rfl, U0⟩
  case round =>
    obtain ⟨k, rfl, U⟩ := hrel
    have hk := U.le
    by_cases hp : k < s.size
    · cases hl : Sc.bare s[k] with
      | true =>
        go_wp2_with (go_at_call 89; refine (bare_b _ _).mono ?_; rintro e w' ⟨rfl, rfl⟩)
        go_round
        case rel => exact ⟨k + 1, by go_num, U.step hp hl⟩
        case measure => simp [intOf]; omega
      | false =>
        have F := Lib.hid (FIN.out k U (fun _ => hl))
        go_wp2_with (go_at_call 89; refine (bare_b _ _).mono ?_; rintro e w' ⟨rfl, rfl⟩)
        go_ret
        exact ⟨_, ret_bool F.out.1.symm, F.out.2, h.set _, But.refl.set _ _⟩
    · have F := Lib.hid (FIN.out k U (fun h => absurd h hp))
      go_wp2
      go_ret
      exact ⟨_, ret_bool F.out.1.symm, F.out.2, h.set _, But.refl.set _ _⟩
end Go.Proofs.YtokhibghnpcogaaGreatDoor
