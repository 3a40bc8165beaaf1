/- The walk of the reference's value. -/
import Derived.Test.YtokhibghnpcogaaGreatDoorRefA
open Go Go.RowKit
set_option linter.unusedVariables false
set_option linter.unusedSimpArgs false
set_option maxRecDepth 100000
namespace Go.Proofs.YtokhibghnpcogaaGreatDoor
open Wk
theorem behind_step {c : UInt8} {s : ByteArray} {k : Nat} (h : k < s.size) : Sc.behind c (s.data.toList.drop k) = if s[k] = c then some (s.data.toList.drop (k + 1)) else Sc.behind c (s.data.toList.drop (k + 1)) := by
  rw [Sc.drop_at s k h, Sc.behind]
def ValueR (l : List UInt8) (F : Option (List UInt8)) (n : Nat) (e : Ending) : Prop :=
  ∃ r : ByteArray, e = .returned (.tuple #[.string r, .bool F.isSome]) ∧ (∀ t, F = some t → r.data.toList = t) ∧ r.size ≤ n
theorem valueR_some {l t : List UInt8} {F : Option (List UInt8)} {n : Nat} {r : ByteArray} (h : F = some t) (hr : r.data.toList = t) (hn : r.size ≤ n) : ValueR l F n (.returned (.tuple #[.string r, .bool true])) :=
  ⟨r, by rw [h]; rfl, fun t' h' => by rw [h] at h'; cases h'; exact hr, hn⟩
theorem valueR_none {l : List UInt8} {F : Option (List UInt8)} {n : Nat} {r : ByteArray} (h : F = none) (hn : r.size ≤ n) : ValueR l F n (.returned (.tuple #[.string r, .bool false])) :=
  ⟨r, by rw [h]; rfl, (fun t' h' => by rw [h] at h'; cases h'), hn⟩
theorem bare_facts (b : UInt8) : (Sc.bare b = true ∧ Sc.white b = false ∧ (b != 34) = true ∧ (b != 39) = true ∧ (b != 61) = true ∧ (b != 60) = true ∧ (b != 62) = true ∧ (b != 96) = true) ∨ (Sc.bare b = false ∧ Sc.white b = true)
    ∨ (Sc.bare b = false ∧ Sc.white b = false ∧ ((b != 34) = false ∨ ((b != 34) = true ∧ (b != 39) = false) ∨ ((b != 34) = true ∧ (b != 39) = true ∧ (b != 61) = false) ∨ ((b != 34) = true ∧ (b != 39) = true ∧ (b != 61) = true ∧ (b != 60) = false)
      ∨ ((b != 34) = true ∧ (b != 39) = true ∧ (b != 61) = true ∧ (b != 60) = true ∧ (b != 62) = false) ∨ ((b != 34) = true ∧ (b != 39) = true ∧ (b != 61) = true ∧ (b != 60) = true ∧ (b != 62) = true ∧ (b != 96) = false))) := by
  have key : ∀ n : Fin 256, (fun b : UInt8 => ((Sc.bare b && !Sc.white b && (b != 34) && (b != 39) && (b != 61) && (b != 60) && (b != 62) && (b != 96)) || (!Sc.bare b && Sc.white b)
    || (!Sc.bare b && !Sc.white b && ((b == 34) || (b == 39) || (b == 61) || (b == 60) || (b == 62) || (b == 96))))) n.val.toUInt8 = true := by decide +kernel
  have K := key ⟨b.toNat, b.toNat_lt⟩
  simp only [show b.toNat.toUInt8 = b by simp] at K
  simp only [Bool.or_eq_true, Bool.and_eq_true, Bool.not_eq_true', beq_iff_eq] at K
  rcases K with (⟨⟨⟨⟨⟨⟨⟨h1, h2⟩, h3⟩, h4⟩, h5⟩, h6⟩, h7⟩, h8⟩ | ⟨h1, h2⟩) | ⟨⟨h1, h2⟩, h3⟩
  · exact .inl ⟨h1, h2, h3, h4, h5, h6, h7, h8⟩
  · exact .inr (.inl ⟨h1, h2⟩)
  · refine .inr (.inr ⟨h1, h2, ?_⟩)
    rcases h3 with ((((rfl | rfl) | rfl) | rfl) | rfl) | rfl <;> decide
set_option maxHeartbeats 2000000 in
theorem value_r (s : ByteArray) (w : World) (hs : Small s) :
    Calls Tryz.prog 70 #[.string s] w fun e w' => ValueR s.data.toList (Sc.value s.data.toList) s.size e ∧ Below w.heap.size w w' := by
  have hx : ∀ k, (s.extract k s.size).size ≤ s.size := fun k => by rw [← Sc.len_size, Sc.drop_data]; simp
  unfold Small at hs
  by_cases hq : ∃ h : 0 < s.size, s[0] = 34 ∨ s[0] = 39
  · obtain ⟨hz, hq⟩ := hq
    have E := Sc.head_of hz
    have h1 : (s.toList == ([] : List UInt8)) = false := by rw [toList_data, beq_eq_false_iff_ne, E]; simp
    have hF : Sc.value s.data.toList = Sc.behind s[0] (s.data.toList.drop 1) := by
      generalize s.data.toList.drop 1 = t at *
      rw [E, Sc.value]
      rcases hq with h | h <;> rw [h] <;> rfl
    rw [hF]
    clear hF E
    generalize hG : Sc.behind s[0] (s.data.toList.drop 1) = F
    have HG := Lib.hid hG
    clear hG
    have eb : ∀ b c : UInt8, ((b.toNat : Int) == (c.toNat : Int)) = (b == c) := fun b c => beq_uu b c
    have e34 : ∀ b : UInt8, ((b.toNat : Int) == 34) = (b == 34) := fun b => beq_u8 b 34 (by decide)
    have e39 : ∀ b : UInt8, ((b.toNat : Int) == 39) = (b == 39) := fun b => beq_u8 b 39 (by decide)
    have hq : (s[0] == 34) = true ∨ ((s[0] == 34) = false ∧ (s[0] == 39) = true) := by
      rcases hq with h | h <;> rw [h] <;> decide
    rcases hq with q1 | ⟨q1, q2⟩
    all_goals (
      go_enter Tryz.func70, Tryz.ntmps70
      go_wp2
      go_loopw [4] (fun i wr => ∃ k : Nat, i = .int .i64 k ∧ 1 ≤ k ∧ k ≤ s.size ∧ Hid (Sc.behind s[0] (s.data.toList.drop k) = F) ∧ Below w.heap.size w wr) (fun i _ => s.size - (intOf i).toNat)
      case atStart => exact ⟨1, rfl, Nat.le_refl _, hz, HG, Below.refl _ _⟩
      case round =>
        obtain ⟨k, rfl, k1, k2, HK, bw⟩ := hrel
        by_cases hp : k < s.size
        · have B := behind_step (c := s[0]) hp
          by_cases hc : s[k] = s[0]
          · have hc1 : (s[k] == s[0]) = true := by simpa using hc
            have hF := Lib.hid (show F = some (s.data.toList.drop (k + 1)) by rw [← HK.out, B, if_pos hc])
            clear B hc
            go_wp2
            go_quiet (fail)
            go_wp2
            first | go_ret2 | (go_quiet (fail); go_wp2; go_ret2)
            exact ⟨valueR_some hF.out (Sc.drop_data _ _) (hx _), by first | exact below_drewN bw _ | exact below_drewN (below_drewN bw _) _⟩
          · have hc1 : (s[k] == s[0]) = false := by simpa using hc
            have HK2 := Lib.hid (show Sc.behind s[0] (s.data.toList.drop (k + 1)) = F by rw [← HK.out, B, if_neg hc])
            clear B hc
            go_wp2
            go_quiet (fail)
            go_wp2
            go_roundw
            case rel => exact ⟨k + 1, by go_num, by omega, hp, HK2, below_drewN bw _⟩
            case measure => simp [intOf]; omega
        · have hF := Lib.hid (show F = none by rw [← HK.out, List.drop_eq_nil_of_le (by simp; omega)]; rfl)
          go_wp2
          first | go_ret2 | (go_quiet (fail); go_wp2; go_ret2)
          exact ⟨valueR_none hF.out (Nat.le_refl _), by first | exact bw | exact below_drewN bw _⟩)
  · have hV : Sc.value s.data.toList = valueBare s.data.toList := by
      refine value_none (fun t ht => hq ?_) (fun t ht => hq ?_) <;>
      · have hz : 0 < s.size := Sc.size_pos (by rw [ht]; simp)
        have E := Sc.head_of hz
        rw [ht] at E
        exact ⟨hz, by simp at E; first | exact .inl E.symm | exact .inr E.symm⟩
    have FIN : ∀ k : Nat, Sc.Upto Sc.bare s 0 k → (∀ h : k < s.size, Sc.bare s[k] = false) → ValueR s.data.toList (Sc.value s.data.toList) s.size (.returned (.tuple #[.string (s.extract k s.size), .bool (decide (0 < k))])) := by
      intro k u h
      obtain ⟨e1, e2⟩ := u.stop h
      have hle := u.le
      simp only [List.drop_zero] at e1 e2
      rw [hV]
      unfold valueBare
      rw [e1, e2]
      by_cases hk : 0 < k
      · rw [if_pos (by simp; omega), show decide (0 < k) = true by simpa using hk]
        exact valueR_some rfl (Sc.drop_data _ _) (hx _)
      · have : k = 0 := by omega
        subst this
        rw [if_neg (by simp)]
        exact valueR_none rfl (hx _)
    have FINH := Lib.hid FIN
    clear FIN hV
    have hst : s.toList = [] ∨ ∃ h : 0 < s.size, (s.toList == ([] : List UInt8)) = false ∧ (s[0] == 34) = false ∧ (s[0] == 39) = false := by
      by_cases h0 : s.data.toList = []
      · exact .inl (by rw [toList_data, h0])
      · refine .inr ⟨Sc.size_pos h0, by rw [toList_data, beq_eq_false_iff_ne]; exact h0, ?_, ?_⟩
        · have := Sc.size_pos h0; simp; exact fun h => hq ⟨this, .inl h⟩
        · have := Sc.size_pos h0; simp; exact fun h => hq ⟨this, .inr h⟩
    clear hq
    have e34 : ∀ b : UInt8, ((b.toNat : Int) == 34) = (b == 34) := fun b => beq_u8 b 34 (by decide)
    have e39 : ∀ b : UInt8, ((b.toNat : Int) == 39) = (b == 39) := fun b => beq_u8 b 39 (by decide)
    have n34 : ∀ b : UInt8, ((b.toNat : Int) != 34) = (b != 34) := fun b => bne_u8 b 34 (by decide)
    have n39 : ∀ b : UInt8, ((b.toNat : Int) != 39) = (b != 39) := fun b => bne_u8 b 39 (by decide)
    have n61 : ∀ b : UInt8, ((b.toNat : Int) != 61) = (b != 61) := fun b => bne_u8 b 61 (by decide)
    have n60 : ∀ b : UInt8, ((b.toNat : Int) != 60) = (b != 60) := fun b => bne_u8 b 60 (by decide)
    have n62 : ∀ b : UInt8, ((b.toNat : Int) != 62) = (b != 62) := fun b => bne_u8 b 62 (by decide)
    have n96 : ∀ b : UInt8, ((b.toNat : Int) != 96) = (b != 96) := fun b => bne_u8 b 96 (by decide)
    rcases hst with h1 | ⟨hz, h1, q1, q2⟩
    all_goals (
      go_enter Tryz.func70, Tryz.ntmps70
      go_wp2
      go_loop [5] (fun i => ∃ k : Nat, i = .int .i64 k ∧ Sc.Upto Sc.bare s 0 k) (fun i => s.size - (intOf i).toNat)
      case atStart => exact ⟨0, rfl, Sc.Upto.start (Nat.zero_le _)⟩
      case round =>
        obtain ⟨k, rfl, U⟩ := hrel
        have hk := U.le
        by_cases hp : k < s.size
        · have WH := fun w => white_r s[k] w
          rcases bare_facts s[k] with ⟨f0, f1, f2, f3, f4, f5, f6, f7⟩ | ⟨f0, f1⟩ | ⟨f0, f1, f2⟩
          · have HU := Lib.hid (U.step hp f0)
            rw [f1] at WH
            clear f0 f1 U
            go_wp2_with (go_at_call 71; (with_reducible refine (WH _).mono ?_); rintro e w' ⟨rfl, rfl⟩)
            go_round
            case rel => exact ⟨k + 1, by go_num, HU.out⟩
            case measure => simp [intOf]; omega
          · have F := Lib.hid (FINH.out k U (fun _ => f0))
            rw [f1] at WH
            clear f0 f1 U
            go_wp2_with (go_at_call 71; (with_reducible refine (WH _).mono ?_); rintro e w' ⟨rfl, rfl⟩)
            first | go_ret2 | (go_quiet (fail); go_wp2; go_ret2)
            exact ⟨F.out, by first | exact Below.refl _ _ | exact drewN_below _ _⟩
          · have F := Lib.hid (FINH.out k U (fun _ => f0))
            rw [f1] at WH
            clear f0 f1 U
            rcases f2 with g1 | ⟨g1, g2⟩ | ⟨g1, g2, g3⟩ | ⟨g1, g2, g3, g4⟩ | ⟨g1, g2, g3, g4, g5⟩ | ⟨g1, g2, g3, g4, g5, g6⟩
            all_goals (
              go_wp2_with (go_at_call 71; (with_reducible refine (WH _).mono ?_); rintro e w' ⟨rfl, rfl⟩)
              first | go_ret2 | (go_quiet (fail); go_wp2; go_ret2)
              exact ⟨F.out, by first | exact Below.refl _ _ | exact drewN_below _ _⟩)
        · have F := Lib.hid (FINH.out k U (fun h => absurd h hp))
          clear U
          go_wp2
          first | go_ret2 | (go_quiet (fail); go_wp2; go_ret2)
          exact ⟨F.out, by first | exact Below.refl _ _ | exact drewN_below _ _⟩)
end Go.Proofs.YtokhibghnpcogaaGreatDoor
