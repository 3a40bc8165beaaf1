/- The walk of ScanHtml. -/
import Derived.Test.YtokhibghnpcogaaGreatDoorRefM
open Go Go.RowKit
set_option linter.unusedVariables false
set_option linter.unusedSimpArgs false
set_option maxRecDepth 100000
namespace Go.Proofs.YtokhibghnpcogaaGreatDoor
open Wk
theorem and_mask7 (n : Int) (m : Nat) (hm : m < 4294967296) : ∃ r : Nat, bits .and .i64 n (m : Int) = r ∧ r ≤ m := by
  have h2 : (BitVec.ofInt 64 (m : Int)).toNat = m := by
    rw [BitVec.ofInt_natCast, BitVec.toNat_ofNat]; exact Nat.mod_eq_of_lt (by omega)
  refine ⟨(BitVec.ofInt 64 n).toNat &&& m, ?_, Nat.and_le_right⟩
  have hx : (BitVec.ofInt 64 n).toNat &&& m ≤ m := Nat.and_le_right
  show IntKind.i64.wrap ((BitVec.ofInt 64 n &&& BitVec.ofInt 64 (m : Int)).toNat : Int) = _
  rw [BitVec.toNat_and, h2, IntKind.wrap_i64]
  omega
theorem htmlEnds_out (l : List UInt8) (k : Int) (h : ¬ (1 ≤ k ∧ k ≤ 7)) : Sc.htmlEnds l k = false := by
  unfold Sc.htmlEnds
  rw [if_neg (by omega), if_neg (by omega), if_neg (by omega), if_neg (by omega), if_neg (by omega), if_neg (by omega)]
set_option maxHeartbeats 4000000 in
theorem scanHtml_any (s : ByteArray) (kind : Int) (w : World) (hE : Env w) (hz : s.size ≤ 9223372036854775807) (hn0 : -9223372036854775808 ≤ kind) (hn1 : kind ≤ 9223372036854775807) :
    Calls Tryz.prog 5 #[.string s, .int .i64 kind] w fun e w' => e = .returned (.bool true) ∧ Below w.heap.size w w' := by
  have AW := awake_any w hE
  by_cases h1 : 1000 < s.size
  · go_enter Tryz.func5, Tryz.ntmps5
    go_wp2_with (first
      | (go_at_call 6; (with_reducible refine AW.mono ?_); rintro e w1 ⟨rfl, b1⟩))
    go_ret
    exact ⟨rfl, b1⟩
  have hs : Small s := by unfold Small; omega
  obtain ⟨r, hr, _⟩ := and_mask7 kind 7 (by decide)
  have hr : bits .and .i64 kind 7 = (r : Int) := hr
  have HS1 := fun w => htmlStart_any s w hs
  have HS2 := fun w => htmlStart_r s w hs
  have HE1 := fun w hE => htmlEnds_any s (r : Int) w hs hE
  have HE2 := fun w => htmlEnds_r s (r : Int) w hs
  have HE3 := fun w hE => htmlEnds_any s kind w hs hE
  have HO := htmlEnds_out s.data.toList kind
  generalize Sc.htmlStart s.data.toList = x1 at *
  generalize Sc.htmlEnds s.data.toList (r : Int) = x2 at *
  generalize Sc.htmlEnds s.data.toList kind = x3 at *
  by_cases hk : 1 ≤ kind ∧ kind ≤ 7
  · obtain ⟨hk1, hk2⟩ := hk
    clear HO HE3
    go_enter Tryz.func5, Tryz.ntmps5
    go_wp2_with (first
      | (go_at_call 6; (with_reducible refine AW.mono ?_); rintro e w1 ⟨rfl, b1⟩)
      | (go_at_call 23; (with_reducible refine (HS1 _).mono ?_); rintro e w2 ⟨rfl, b2⟩; have b1 := b1.trans (b2.mono b1.size); clear b2)
      | (go_at_call 24; (with_reducible refine (HS2 _).mono ?_); rintro e w2 ⟨rfl, b2⟩; have b1 := b1.trans (b2.mono b1.size); clear b2)
      | (go_at_call 25; (with_reducible refine (HE1 _ (hE.below b1)).mono ?_); rintro e w2 ⟨rfl, b2⟩; have b1 := b1.trans (b2.mono b1.size); clear b2)
      | (go_at_call 26; (with_reducible refine (HE2 _).mono ?_); rintro e w2 ⟨rfl, b2⟩; have b1 := b1.trans (b2.mono b1.size); clear b2))
    all_goals go_ret
    all_goals exact ⟨by first | rfl | (refine ret_bool ?_; simp), b1⟩
  · obtain rfl := HO hk
    have hk' : kind < 1 ∨ 7 < kind := by omega
    clear HO hk
    rcases hk' with hk | hk
    all_goals (
      go_enter Tryz.func5, Tryz.ntmps5
      go_wp2_with (first
        | (go_at_call 6; (with_reducible refine AW.mono ?_); rintro e w1 ⟨rfl, b1⟩)
        | (go_at_call 23; (with_reducible refine (HS1 _).mono ?_); rintro e w2 ⟨rfl, b2⟩; have b1 := b1.trans (b2.mono b1.size); clear b2)
        | (go_at_call 24; (with_reducible refine (HS2 _).mono ?_); rintro e w2 ⟨rfl, b2⟩; have b1 := b1.trans (b2.mono b1.size); clear b2)
        | (go_at_call 25; (with_reducible refine (HE1 _ (hE.below b1)).mono ?_); rintro e w2 ⟨rfl, b2⟩; have b1 := b1.trans (b2.mono b1.size); clear b2)
        | (go_at_call 25; (with_reducible refine (HE3 _ (hE.below b1)).mono ?_); rintro e w2 ⟨rfl, b2⟩; have b1 := b1.trans (b2.mono b1.size); clear b2)
        | (go_at_call 26; (with_reducible refine (HE2 _).mono ?_); rintro e w2 ⟨rfl, b2⟩; have b1 := b1.trans (b2.mono b1.size); clear b2))
      all_goals go_ret
      all_goals exact ⟨by first | rfl | (refine ret_bool ?_; simp), b1⟩)
end Go.Proofs.YtokhibghnpcogaaGreatDoor
