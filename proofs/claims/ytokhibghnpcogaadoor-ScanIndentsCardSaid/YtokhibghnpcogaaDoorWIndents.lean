/- The walk of ScanIndents. -/
import Derived.Test.YtokhibghnpcogaaDoorPOne
open Go Go.RowKit
set_option linter.unusedVariables false
set_option linter.unusedSimpArgs false
set_option maxRecDepth 100000
namespace Go.Proofs.YtokhibghnpcogaaDoor
open Wk
/-- A text that is none of the things that a line may be. -/
def Plain_ (t : ByteArray) : Prop := Small t ∧ Sc.None_ t.data.toList
set_option maxHeartbeats 4000000 in
theorem scanIndents_any (s : ByteArray) (w : World) (hE : Env w) (hz : s.size ≤ 9223372036854775807) :
    Calls Tryd.prog 6 #[.string s] w fun e w' => e = .returned (.bool true) ∧ Below w.heap.size w w' := by
  have AW := awake_any w hE
  by_cases h1 : 1000 < s.size
  · go_enter Tryd.func6, Tryd.ntmps6
    go_wp2_with (first
      | (go_at_call 7; (with_reducible refine AW.mono ?_); rintro e w1 ⟨rfl, b1⟩))
    go_ret
    exact ⟨rfl, b1⟩
  have dap : ∀ b : UInt8, (⟨#[b]⟩ ++ s : ByteArray).data.toList = b :: s.data.toList := fun b => by
    rw [show (⟨#[b]⟩ ++ s : ByteArray).data = #[b] ++ s.data from ByteArray.data_append .., Array.toList_append]; rfl
  have hP : ∀ b : UInt8, Sc.digit b = false → b ∉ ([35, 96, 126, 42, 45, 95, 60, 43, 61] : List UInt8) → Plain_ (⟨#[b]⟩ ++ s) := fun b hb hm =>
    ⟨by unfold Small; rw [← Sc.len_size, dap]; simp; omega, by rw [dap]; exact Sc.none_of hb hm⟩
  have P1 := hP 32 (by decide) (by decide)
  have P2 := hP 9 (by decide) (by decide)
  have P4 := hP 120 (by decide) (by decide)
  have P3 : Plain_ ⟨#[]⟩ := ⟨by unfold Small; decide, Sc.none_nil⟩
  clear hP dap
  have AT : ∀ t w, Plain_ t → Calls Tryd.prog 9 #[.string t] w fun e w' => e = .returned (.tuple #[.int .i64 0, .string (mk [])]) ∧ Below w.heap.size w w' := fun t w h => by
    have := atx_any t w h.1; rw [h.2.atx] at this; exact this
  have FE : ∀ t w, Plain_ t → Calls Tryd.prog 10 #[.string t] w fun e w' => e = .returned (.tuple #[.int .u8 0, .int .i64 0, .string (mk [])]) ∧ Below w.heap.size w w' := fun t w h => by
    have := fence_any t w h.1; rw [h.2.fence] at this; exact this
  have OR : ∀ t w, Plain_ t → Calls Tryd.prog 12 #[.string t] w fun e w' => e = .returned (.tuple #[.int .i64 0, .int .u8 0, .int .i64 0]) ∧ Below w.heap.size w w' := fun t w h => by
    have := ordered_any t w h.1; rw [h.2.ordered] at this; exact this
  have RU : ∀ t w, Plain_ t → Env w → Calls Tryd.prog 13 #[.string t] w fun e w' => e = .returned (.bool false) ∧ Below w.heap.size w w' := fun t w h hE => by
    have := rule_any t w h.1 hE; rw [h.2.rule] at this; exact this
  have HT : ∀ t w, Plain_ t → Calls Tryd.prog 14 #[.string t] w fun e w' => e = .returned (.int .i64 0) ∧ Below w.heap.size w w' := fun t w h => by
    have := htmlStart_any t w h.1; rw [h.2.html] at this; exact this
  have BU : ∀ t w, Plain_ t → Calls Tryd.prog 15 #[.string t] w fun e w' => e = .returned (.int .i64 0) ∧ Below w.heap.size w w' := fun t w h => by
    have := bullet_any t w; rw [h.2.bullet] at this; exact this
  have SE : ∀ t w, Plain_ t → Calls Tryd.prog 16 #[.string t] w fun e w' => e = .returned (.int .i64 0) ∧ Below w.heap.size w w' := fun t w h => by
    have := setext_any t w h.1; rw [h.2.setext] at this; exact this
  have TG : ∀ t w, Plain_ t → Calls Tryd.prog 8 #[.string t] w fun e w' => e = .returned (.int .i64 0) ∧ Below w.heap.size w w' := fun t w h => by
    have := tag_any t w h.1; rw [h.2.tag] at this; exact this
  go_enter Tryd.func6, Tryd.ntmps6
  go_wp2_with (first
    | (go_at_call 7; (with_reducible refine AW.mono ?_); rintro e w1 ⟨rfl, b1⟩))
  have Bw := b1.alloc b1.size (.cells #[.string (⟨#[32]⟩ ++ s), .string (⟨#[9]⟩ ++ s), .string ⟨#[]⟩, .string (⟨#[120]⟩ ++ s)] 9)
  have hE1 := hE.below Bw
  have C : ∀ j v, (#[.string (⟨#[32]⟩ ++ s), .string (⟨#[9]⟩ ++ s), .string ⟨#[]⟩, .string (⟨#[120]⟩ ++ s)] : Array Value)[j]? = some v → (w1.alloc (.cells #[.string (⟨#[32]⟩ ++ s), .string (⟨#[9]⟩ ++ s), .string ⟨#[]⟩, .string (⟨#[120]⟩ ++ s)] 9)).cell? ⟨w1.heap.size, j, none⟩ = some v := by
    intro j v h
    have := World.cell?_alloc_new w1 #[.string (⟨#[32]⟩ ++ s), .string (⟨#[9]⟩ ++ s), .string ⟨#[]⟩, .string (⟨#[120]⟩ ++ s)] 9 j
    rw [this, h]
  generalize hw0 : w1.alloc (.cells #[.string (⟨#[32]⟩ ++ s), .string (⟨#[9]⟩ ++ s), .string ⟨#[]⟩, .string (⟨#[120]⟩ ++ s)] 9) = w0 at *
  have hsz : w1.heap.size < w0.heap.size := by rw [← hw0]; show w1.heap.size < (w1.heap.push _).size; rw [Array.size_push]; exact Nat.lt_succ_self _
  generalize w1.heap.size = g at *
  have D : ∀ j v, (#[.string (⟨#[32]⟩ ++ s), .string (⟨#[9]⟩ ++ s), .string ⟨#[]⟩, .string (⟨#[120]⟩ ++ s)] : Array Value)[j]? = some v → ∀ wx, Below w0.heap.size w0 wx → wx.cell? ⟨g, j, none⟩ = some v := fun j v h wx hb => by rw [hb.cell hsz]; exact C j v h
  have C0 := C 0 _ rfl
  have D1 := D 1 _ rfl
  have D2 := D 2 _ rfl
  have D3 := D 3 _ rfl
  have B := Below.refl w0.heap.size w0
  clear C D hw0 AW b1 hE
  generalize (⟨#[32]⟩ ++ s : ByteArray) = t0 at *
  generalize (⟨#[9]⟩ ++ s : ByteArray) = t1 at *
  generalize (⟨#[120]⟩ ++ s : ByteArray) = t3 at *
  refine wp_loop_rounds 5 ?_
  rw [rounds_succ]
  go_wp2_with (first
    | (go_at_call 9; (with_reducible refine (AT _ _ (by assumption)).mono ?_); rintro e w2 ⟨rfl, b2⟩; have B := B.trans (b2.mono B.size); clear b2)
    | (go_at_call 10; (with_reducible refine (FE _ _ (by assumption)).mono ?_); rintro e w2 ⟨rfl, b2⟩; have B := B.trans (b2.mono B.size); clear b2)
    | (go_at_call 12; (with_reducible refine (OR _ _ (by assumption)).mono ?_); rintro e w2 ⟨rfl, b2⟩; have B := B.trans (b2.mono B.size); clear b2)
    | (go_at_call 14; (with_reducible refine (HT _ _ (by assumption)).mono ?_); rintro e w2 ⟨rfl, b2⟩; have B := B.trans (b2.mono B.size); clear b2)
    | (go_at_call 15; (with_reducible refine (BU _ _ (by assumption)).mono ?_); rintro e w2 ⟨rfl, b2⟩; have B := B.trans (b2.mono B.size); clear b2)
    | (go_at_call 16; (with_reducible refine (SE _ _ (by assumption)).mono ?_); rintro e w2 ⟨rfl, b2⟩; have B := B.trans (b2.mono B.size); clear b2)
    | (go_at_call 8; (with_reducible refine (TG _ _ (by assumption)).mono ?_); rintro e w2 ⟨rfl, b2⟩; have B := B.trans (b2.mono B.size); clear b2)
    | (go_at_call 13; (with_reducible refine (RU _ _ (by assumption) (hE1.below B)).mono ?_); rintro e w2 ⟨rfl, b2⟩; have B := B.trans (b2.mono B.size); clear b2; have C1 := D1 _ B))
  rw [rounds_succ]
  go_wp2_with (first
    | (go_at_call 9; (with_reducible refine (AT _ _ (by assumption)).mono ?_); rintro e w2 ⟨rfl, b2⟩; have B := B.trans (b2.mono B.size); clear b2)
    | (go_at_call 10; (with_reducible refine (FE _ _ (by assumption)).mono ?_); rintro e w2 ⟨rfl, b2⟩; have B := B.trans (b2.mono B.size); clear b2)
    | (go_at_call 12; (with_reducible refine (OR _ _ (by assumption)).mono ?_); rintro e w2 ⟨rfl, b2⟩; have B := B.trans (b2.mono B.size); clear b2)
    | (go_at_call 14; (with_reducible refine (HT _ _ (by assumption)).mono ?_); rintro e w2 ⟨rfl, b2⟩; have B := B.trans (b2.mono B.size); clear b2)
    | (go_at_call 15; (with_reducible refine (BU _ _ (by assumption)).mono ?_); rintro e w2 ⟨rfl, b2⟩; have B := B.trans (b2.mono B.size); clear b2)
    | (go_at_call 16; (with_reducible refine (SE _ _ (by assumption)).mono ?_); rintro e w2 ⟨rfl, b2⟩; have B := B.trans (b2.mono B.size); clear b2)
    | (go_at_call 8; (with_reducible refine (TG _ _ (by assumption)).mono ?_); rintro e w2 ⟨rfl, b2⟩; have B := B.trans (b2.mono B.size); clear b2)
    | (go_at_call 13; (with_reducible refine (RU _ _ (by assumption) (hE1.below B)).mono ?_); rintro e w2 ⟨rfl, b2⟩; have B := B.trans (b2.mono B.size); clear b2; have C2 := D2 _ B))
  rw [rounds_succ]
  go_wp2_with (first
    | (go_at_call 9; (with_reducible refine (AT _ _ (by assumption)).mono ?_); rintro e w2 ⟨rfl, b2⟩; have B := B.trans (b2.mono B.size); clear b2)
    | (go_at_call 10; (with_reducible refine (FE _ _ (by assumption)).mono ?_); rintro e w2 ⟨rfl, b2⟩; have B := B.trans (b2.mono B.size); clear b2)
    | (go_at_call 12; (with_reducible refine (OR _ _ (by assumption)).mono ?_); rintro e w2 ⟨rfl, b2⟩; have B := B.trans (b2.mono B.size); clear b2)
    | (go_at_call 14; (with_reducible refine (HT _ _ (by assumption)).mono ?_); rintro e w2 ⟨rfl, b2⟩; have B := B.trans (b2.mono B.size); clear b2)
    | (go_at_call 15; (with_reducible refine (BU _ _ (by assumption)).mono ?_); rintro e w2 ⟨rfl, b2⟩; have B := B.trans (b2.mono B.size); clear b2)
    | (go_at_call 16; (with_reducible refine (SE _ _ (by assumption)).mono ?_); rintro e w2 ⟨rfl, b2⟩; have B := B.trans (b2.mono B.size); clear b2)
    | (go_at_call 8; (with_reducible refine (TG _ _ (by assumption)).mono ?_); rintro e w2 ⟨rfl, b2⟩; have B := B.trans (b2.mono B.size); clear b2)
    | (go_at_call 13; (with_reducible refine (RU _ _ (by assumption) (hE1.below B)).mono ?_); rintro e w2 ⟨rfl, b2⟩; have B := B.trans (b2.mono B.size); clear b2; have C3 := D3 _ B))
  rw [rounds_succ]
  go_wp2_with (first
    | (go_at_call 9; (with_reducible refine (AT _ _ (by assumption)).mono ?_); rintro e w2 ⟨rfl, b2⟩; have B := B.trans (b2.mono B.size); clear b2)
    | (go_at_call 10; (with_reducible refine (FE _ _ (by assumption)).mono ?_); rintro e w2 ⟨rfl, b2⟩; have B := B.trans (b2.mono B.size); clear b2)
    | (go_at_call 12; (with_reducible refine (OR _ _ (by assumption)).mono ?_); rintro e w2 ⟨rfl, b2⟩; have B := B.trans (b2.mono B.size); clear b2)
    | (go_at_call 14; (with_reducible refine (HT _ _ (by assumption)).mono ?_); rintro e w2 ⟨rfl, b2⟩; have B := B.trans (b2.mono B.size); clear b2)
    | (go_at_call 15; (with_reducible refine (BU _ _ (by assumption)).mono ?_); rintro e w2 ⟨rfl, b2⟩; have B := B.trans (b2.mono B.size); clear b2)
    | (go_at_call 16; (with_reducible refine (SE _ _ (by assumption)).mono ?_); rintro e w2 ⟨rfl, b2⟩; have B := B.trans (b2.mono B.size); clear b2)
    | (go_at_call 8; (with_reducible refine (TG _ _ (by assumption)).mono ?_); rintro e w2 ⟨rfl, b2⟩; have B := B.trans (b2.mono B.size); clear b2)
    | (go_at_call 13; (with_reducible refine (RU _ _ (by assumption) (hE1.below B)).mono ?_); rintro e w2 ⟨rfl, b2⟩; have B := B.trans (b2.mono B.size); clear b2))
  rw [rounds_succ]
  go_wp2
  go_ret
  exact ⟨rfl, Bw.trans (B.mono Bw.size)⟩
end Go.Proofs.YtokhibghnpcogaaDoor
