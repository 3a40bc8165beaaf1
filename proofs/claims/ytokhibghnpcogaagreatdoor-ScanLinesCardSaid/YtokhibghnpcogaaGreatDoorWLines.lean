/- The walk of ScanLines. -/
import Derived.Test.YtokhibghnpcogaaGreatDoorRefI
open Go Go.RowKit
set_option linter.unusedVariables false
set_option linter.unusedSimpArgs false
set_option maxRecDepth 100000
namespace Go.Proofs.YtokhibghnpcogaaGreatDoor
open Wk
set_option maxHeartbeats 4000000 in
theorem scanLines_any (s : ByteArray) (c n : Int) (w : World) (hE : Env w) (hz : s.size ≤ 9223372036854775807) (hc0 : 0 ≤ c) (hc1 : c ≤ 255) (hn0 : -9223372036854775808 ≤ n) (hn1 : n ≤ 9223372036854775807) :
    Calls Tryz.prog 4 #[.string s, .int .u8 c, .int .i64 n] w fun e w' => e = .returned (.bool true) ∧ Below w.heap.size w w' := by
  have AW := awake_any w hE
  by_cases h1 : 1000 < s.size
  · go_enter Tryz.func4, Tryz.ntmps4
    go_wp2_with (first
      | (go_at_call 6; (with_reducible refine AW.mono ?_); rintro e w1 ⟨rfl, b1⟩))
    go_ret
    exact ⟨rfl, b1⟩
  have hs : Small s := by unfold Small; omega
  obtain ⟨b, rfl⟩ : ∃ b : UInt8, c = b.toNat := ⟨c.toNat.toUInt8, by simp [Nat.toUInt8, UInt8.toNat_ofNat']; omega⟩
  clear hc0 hc1
  have AT1 := fun w => atx_any s w hs
  have AT2 := fun w => atx_r s w hs
  have FE1 := fun w => fence_any s w hs
  have FE2 := fun w => fence_r s w hs
  have OR1 := fun w => ordered_any s w hs
  have OR2 := fun w => ordered_r s w hs
  have RU1 := fun w hE => rule_any s w hs hE
  have RU2 := fun w => rule_r s w hs
  have SE1 := fun w => setext_any s w hs
  have SE2 := fun w => setext_r s w hs
  have CL1 := fun w => closes_any s b n w hs hn0 hn1
  have CL2 := fun w => closes_r s b n w hs hn0 hn1
  have BU1 := fun w => bullet_any s w
  have BU2 := fun w => bullet_r s w
  generalize mk (Sc.atx s.data.toList).2 = x1 at *
  generalize (Sc.atx s.data.toList).1 = x2 at *
  generalize mk (Sc.fence s.data.toList).2.2 = x3 at *
  generalize (Sc.fence s.data.toList).2.1 = x4 at *
  generalize (Sc.fence s.data.toList).1.toNat = x5 at *
  generalize (Sc.ordered s.data.toList).1 = x6 at *
  generalize (Sc.ordered s.data.toList).2.1.toNat = x7 at *
  generalize (Sc.ordered s.data.toList).2.2 = x8 at *
  generalize Sc.rule s.data.toList = x9 at *
  generalize Sc.setext s.data.toList = x10 at *
  generalize Sc.closes s.data.toList b n = x11 at *
  generalize Sc.bullet s.data.toList = x12 at *
  go_enter Tryz.func4, Tryz.ntmps4
  go_wp2_with (first
    | (go_at_call 6; (with_reducible refine AW.mono ?_); rintro e w1 ⟨rfl, b1⟩)
    | (go_at_call 9; (with_reducible refine (AT1 _).mono ?_); rintro e w2 ⟨rfl, b2⟩; have b1 := b1.trans (b2.mono b1.size); clear b2)
    | (go_at_call 10; (with_reducible refine (AT2 _).mono ?_); rintro e w2 ⟨rfl, b2⟩; have b1 := b1.trans (b2.mono b1.size); clear b2)
    | (go_at_call 11; (with_reducible refine (FE1 _).mono ?_); rintro e w2 ⟨rfl, b2⟩; have b1 := b1.trans (b2.mono b1.size); clear b2)
    | (go_at_call 12; (with_reducible refine (FE2 _).mono ?_); rintro e w2 ⟨rfl, b2⟩; have b1 := b1.trans (b2.mono b1.size); clear b2)
    | (go_at_call 13; (with_reducible refine (OR1 _).mono ?_); rintro e w2 ⟨rfl, b2⟩; have b1 := b1.trans (b2.mono b1.size); clear b2)
    | (go_at_call 14; (with_reducible refine (OR2 _).mono ?_); rintro e w2 ⟨rfl, b2⟩; have b1 := b1.trans (b2.mono b1.size); clear b2)
    | (go_at_call 15; (with_reducible refine (RU1 _ (hE.below b1)).mono ?_); rintro e w2 ⟨rfl, b2⟩; have b1 := b1.trans (b2.mono b1.size); clear b2)
    | (go_at_call 16; (with_reducible refine (RU2 _).mono ?_); rintro e w2 ⟨rfl, b2⟩; have b1 := b1.trans (b2.mono b1.size); clear b2)
    | (go_at_call 17; (with_reducible refine (SE1 _).mono ?_); rintro e w2 ⟨rfl, b2⟩; have b1 := b1.trans (b2.mono b1.size); clear b2)
    | (go_at_call 18; (with_reducible refine (SE2 _).mono ?_); rintro e w2 ⟨rfl, b2⟩; have b1 := b1.trans (b2.mono b1.size); clear b2)
    | (go_at_call 19; (with_reducible refine (CL1 _).mono ?_); rintro e w2 ⟨rfl, b2⟩; have b1 := b1.trans (b2.mono b1.size); clear b2)
    | (go_at_call 20; (with_reducible refine (CL2 _).mono ?_); rintro e w2 ⟨rfl, b2⟩; have b1 := b1.trans (b2.mono b1.size); clear b2)
    | (go_at_call 21; (with_reducible refine (BU1 _).mono ?_); rintro e w2 ⟨rfl, b2⟩; have b1 := b1.trans (b2.mono b1.size); clear b2)
    | (go_at_call 22; (with_reducible refine (BU2 _).mono ?_); rintro e w2 ⟨rfl, b2⟩; have b1 := b1.trans (b2.mono b1.size); clear b2))
  all_goals go_ret
  all_goals exact ⟨by first | rfl | (refine ret_bool ?_; simp), b1⟩
end Go.Proofs.YtokhibghnpcogaaGreatDoor
