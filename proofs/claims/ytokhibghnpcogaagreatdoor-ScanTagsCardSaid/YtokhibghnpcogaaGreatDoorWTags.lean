/- The walk of ScanTags. -/
import Derived.Test.YtokhibghnpcogaaGreatDoorRefD
open Go Go.RowKit
set_option linter.unusedVariables false
set_option linter.unusedSimpArgs false
set_option maxRecDepth 100000
namespace Go.Proofs.YtokhibghnpcogaaGreatDoor
open Wk
theorem scanTags_any (s : ByteArray) (w : World) (hE : Env w) (hz : s.size ≤ 9223372036854775807) :
    Calls Tryz.prog 3 #[.string s] w fun e w' => e = .returned (.bool true) ∧ Below w.heap.size w w' := by
  have AW := awake_any w hE
  by_cases h1 : 1000 < s.size
  · go_enter Tryz.func3, Tryz.ntmps3
    go_wp2_with (first
      | (go_at_call 6; (with_reducible refine AW.mono ?_); rintro e w1 ⟨rfl, b1⟩))
    go_ret
    exact ⟨rfl, b1⟩
  have hs : Small s := by unfold Small; omega
  have TG := fun w => tag_any s w hs
  have TR := fun w => tag_r s w hs
  generalize Sc.tag s.data.toList = n at *
  go_enter Tryz.func3, Tryz.ntmps3
  go_wp2_with (first
    | (go_at_call 6; (with_reducible refine AW.mono ?_); rintro e w1 ⟨rfl, b1⟩)
    | (go_at_call 7; (with_reducible refine (TG _).mono ?_); rintro e w2 ⟨rfl, b2⟩; have b1 := b1.trans (b2.mono b1.size); clear b2)
    | (go_at_call 8; (with_reducible refine (TR _).mono ?_); rintro e w2 ⟨rfl, b2⟩; have b1 := b1.trans (b2.mono b1.size); clear b2))
  go_ret
  exact ⟨rfl, b1⟩
end Go.Proofs.YtokhibghnpcogaaGreatDoor
