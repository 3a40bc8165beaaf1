/- The walk of ScanOne. -/
import Derived.Test.YtokhibghnpcogaaDoorPOne
open Go Go.RowKit
set_option linter.unusedVariables false
set_option linter.unusedSimpArgs false
set_option maxRecDepth 100000
namespace Go.Proofs.YtokhibghnpcogaaDoor
open Wk
set_option maxHeartbeats 4000000 in
theorem scanOne_any (s : ByteArray) (w : World) (hE : Env w) (hz : s.size ≤ 9223372036854775807) :
    Calls Tryd.prog 5 #[.string s] w fun e w' => e = .returned (.bool true) ∧ Below w.heap.size w w' := by
  have AW := awake_any w hE
  by_cases h1 : 1000 < s.size
  · go_enter Tryd.func5, Tryd.ntmps5
    go_wp2_with (first
      | (go_at_call 7; (with_reducible refine AW.mono ?_); rintro e w1 ⟨rfl, b1⟩))
    go_ret
    exact ⟨rfl, b1⟩
  have hs : Small s := by unfold Small; omega
  have AT := fun w => atx_any s w hs
  have FE := fun w => fence_any s w hs
  have OR := fun w => ordered_any s w hs
  have RU := fun w hE => rule_any s w hs hE
  have HT := fun w => htmlStart_any s w hs
  have BU := fun w => bullet_any s w
  have SE := fun w => setext_any s w hs
  have K := Sc.one_law s.data.toList
  have ka : ∀ q, q = Sc.atx s.data.toList → q.1 = (Sc.atx s.data.toList).1 := by rintro q rfl; rfl
  obtain ⟨a, ea⟩ : ∃ a, (Sc.atx s.data.toList).1 = a := ⟨_, rfl⟩
  obtain ⟨fk, ef⟩ : ∃ a, (Sc.fence s.data.toList).2.1 = a := ⟨_, rfl⟩
  obtain ⟨ow, eo⟩ : ∃ a, (Sc.ordered s.data.toList).2.2 = a := ⟨_, rfl⟩
  obtain ⟨ht, eh⟩ : ∃ a, Sc.htmlStart s.data.toList = a := ⟨_, rfl⟩
  obtain ⟨bu, eb⟩ : ∃ a, Sc.bullet s.data.toList = a := ⟨_, rfl⟩
  obtain ⟨se, es⟩ : ∃ a, Sc.setext s.data.toList = a := ⟨_, rfl⟩
  obtain ⟨ru, er⟩ : ∃ a, Sc.rule s.data.toList = a := ⟨_, rfl⟩
  rw [ea] at AT; rw [ef] at FE; rw [eo] at OR; rw [eh] at HT; rw [eb] at BU; rw [es] at SE; rw [er] at RU
  generalize mk (Sc.atx s.data.toList).2 = r1 at *
  generalize mk (Sc.fence s.data.toList).2.2 = r2 at *
  generalize (Sc.fence s.data.toList).1.toNat = r3 at *
  generalize (Sc.ordered s.data.toList).1 = r4 at *
  generalize (Sc.ordered s.data.toList).2.1.toNat = r5 at *
  have K' : (a = 0 ∧ fk = 0 ∧ ow = 0 ∧ ru = false ∧ ht = 0) ∨ (0 < a ∧ fk = 0 ∧ ow = 0 ∧ ru = false ∧ ht = 0 ∧ bu = 0 ∧ se ≠ 1) ∨ (a = 0 ∧ 0 < fk ∧ ow = 0 ∧ ru = false ∧ ht = 0 ∧ bu = 0 ∧ se ≠ 1)
      ∨ (a = 0 ∧ fk = 0 ∧ 0 < ow ∧ ru = false ∧ ht = 0 ∧ bu = 0 ∧ se ≠ 1) ∨ (a = 0 ∧ fk = 0 ∧ ow = 0 ∧ ru = true ∧ ht = 0 ∧ se ≠ 1) ∨ (a = 0 ∧ fk = 0 ∧ ow = 0 ∧ ru = false ∧ 0 < ht ∧ bu = 0 ∧ se ≠ 1) := by
    rw [← ea, ← ef, ← eo, ← er, ← eh, ← eb, ← es]
    rcases K with ⟨h1, h2, h3, h4, h5⟩ | ⟨h1, h2, h3, h4, h5, h6, h7⟩ | ⟨h1, h2, h3, h4, h5, h6, h7⟩ | ⟨h1, h2, h3, h4, h5, h6, h7⟩ | ⟨h1, h2, h3, h4, h5, h7⟩ | ⟨h1, h2, h3, h4, h5, h6, h7⟩
    · exact .inl ⟨h1, h2, h3, h4, h5⟩
    · exact .inr (.inl ⟨h1, h2, h3, h4, h5, h6, h7⟩)
    · exact .inr (.inr (.inl ⟨h1, h2, h3, h4, h5, h6, h7⟩))
    · exact .inr (.inr (.inr (.inl ⟨h1, h2, h3, h4, h5, h6, h7⟩)))
    · exact .inr (.inr (.inr (.inr (.inl ⟨h1, h2, h3, h4, h5, h7⟩))))
    · exact .inr (.inr (.inr (.inr (.inr ⟨h1, h2, h3, h4, h5, h6, h7⟩))))
  clear K ka ea ef eo eh eb es er
  have tr := fun (a b c : World) (h : Below w.heap.size w a) (k : Below a.heap.size a b) => h.trans (k.mono h.size)
  rcases K' with ⟨rfl, rfl, rfl, rfl, rfl⟩ | ⟨h1, rfl, rfl, rfl, rfl, rfl, h7⟩ | ⟨rfl, h1, rfl, rfl, rfl, rfl, h7⟩ | ⟨rfl, rfl, h1, rfl, rfl, rfl, h7⟩ | ⟨rfl, rfl, rfl, rfl, rfl, h7⟩ | ⟨rfl, rfl, rfl, rfl, h1, rfl, h7⟩
  all_goals
    go_enter Tryd.func5, Tryd.ntmps5
    go_wp2_with (first
      | (go_at_call 7; (with_reducible refine AW.mono ?_); rintro e w1 ⟨rfl, b1⟩)
      | (go_at_call 9; (with_reducible refine (AT _).mono ?_); rintro e w2 ⟨rfl, b2⟩; have b1 := b1.trans (b2.mono b1.size); clear b2)
      | (go_at_call 10; (with_reducible refine (FE _).mono ?_); rintro e w2 ⟨rfl, b2⟩; have b1 := b1.trans (b2.mono b1.size); clear b2)
      | (go_at_call 12; (with_reducible refine (OR _).mono ?_); rintro e w2 ⟨rfl, b2⟩; have b1 := b1.trans (b2.mono b1.size); clear b2)
      | (go_at_call 14; (with_reducible refine (HT _).mono ?_); rintro e w2 ⟨rfl, b2⟩; have b1 := b1.trans (b2.mono b1.size); clear b2)
      | (go_at_call 15; (with_reducible refine (BU _).mono ?_); rintro e w2 ⟨rfl, b2⟩; have b1 := b1.trans (b2.mono b1.size); clear b2)
      | (go_at_call 16; (with_reducible refine (SE _).mono ?_); rintro e w2 ⟨rfl, b2⟩; have b1 := b1.trans (b2.mono b1.size); clear b2)
      | (go_at_call 13; (with_reducible refine (RU _ (hE.below b1)).mono ?_); rintro e w2 ⟨rfl, b2⟩; have b1 := b1.trans (b2.mono b1.size); clear b2))
  all_goals go_ret
  all_goals exact ⟨rfl, b1⟩
end Go.Proofs.YtokhibghnpcogaaDoor
