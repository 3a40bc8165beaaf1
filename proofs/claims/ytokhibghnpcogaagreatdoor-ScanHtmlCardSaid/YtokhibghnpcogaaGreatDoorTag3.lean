/- Walks of the scanner's methods: a sign, white. -/
import Derived.Test.YtokhibghnpcogaaGreatDoorTag2
open Go Go.RowKit
set_option linter.unusedVariables false
set_option maxRecDepth 100000
namespace Go.Proofs.YtokhibghnpcogaaGreatDoor
open Wk
/-- What a method of a scanner leaves: its answer, and what is left of its text. -/
def Left (g : Nat) (w : World) (F : Bool × List UInt8) (e : Ending) (w' : World) : Prop :=
  ∃ r : ByteArray, e = .returned (.bool F.1) ∧ r.data.toList = F.2 ∧ At 35 g r w' ∧ But g w w'

theorem sign_any (g : Nat) (s : ByteArray) (c : UInt8) (w : World) (h : At 35 g s w) :
    Calls Tryz.prog 27 #[.pointer (some ⟨g, 0, none⟩), .int .u8 c.toNat] w (Left g w (Sc.sign c s.data.toList)) := by
  have hc := h.cell
  have hf := h.free
  by_cases h0 : s.data.toList = []
  · have h1 : (s.toList == ([] : List UInt8)) = true := by rw [toList_data, h0]; rfl
    have F : Sc.sign c s.data.toList = (false, s.data.toList) := by rw [h0]; rfl
    rw [F]
    clear h0 F
    go_enter Tryz.func27, Tryz.ntmps27
    go_wp2
    go_ret
    exact ⟨s, rfl, rfl, h, But.refl⟩
  · have hsz := Sc.size_pos h0
    have h1 : (s.toList == ([] : List UInt8)) = false := by rw [toList_data, beq_eq_false_iff_ne]; exact h0
    have eb : ∀ b : UInt8, ((b.toNat : Int) == (c.toNat : Int)) = (b == c) := fun b => beq_uu b c
    have en : ∀ b : UInt8, ((b.toNat : Int) != (c.toNat : Int)) = (b != c) := fun b => by simp only [bne, beq_uu b c]
    by_cases hq : s[0] = c
    · have hq1 : (s[0] == c) = true := by simpa using hq
      have hq2 : (s[0] != c) = false := by simpa using hq
      have F : Sc.sign c s.data.toList = (true, s.data.toList.drop 1) := by have E := congrArg (Sc.sign c) (Sc.head_of hsz); rw [E, Sc.sign, if_pos hq]
      rw [F]
      clear h0 hq F
      go_enter Tryz.func27, Tryz.ntmps27
      go_wp2
      go_ret
      exact ⟨_, rfl, by rw [Sc.drop_data], h.set _, But.refl.set _ _⟩
    · have hq1 : (s[0] == c) = false := by simpa using hq
      have hq2 : (s[0] != c) = true := by simpa using hq
      have F : Sc.sign c s.data.toList = (false, s.data.toList) := by have E := congrArg (Sc.sign c) (Sc.head_of hsz); rw [E, Sc.sign, if_neg hq, ← Sc.head_of hsz]
      rw [F]
      clear h0 hq F
      go_enter Tryz.func27, Tryz.ntmps27
      go_wp2
      go_ret
      exact ⟨s, rfl, rfl, h, But.refl⟩

/-- The walk's bound on a text. -/
abbrev Small (s : ByteArray) : Prop := s.size ≤ 4000000000
theorem dropWhile_size {s r : ByteArray} {p : UInt8 → Bool} (h : r.data.toList = s.data.toList.dropWhile p) : r.size ≤ s.size := by
  rw [← Sc.len_size, ← Sc.len_size, h]; exact Sc.len_dropWhile _

theorem white_any (g : Nat) (s : ByteArray) (w : World) (h : At 35 g s w) :
    Calls Tryz.prog 31 #[.pointer (some ⟨g, 0, none⟩)] w (Left g w (decide ((s.data.toList.dropWhile Sc.white).length < s.data.toList.length), s.data.toList.dropWhile Sc.white)) := by
  have hc := h.cell
  have hf := h.free
  have hw : ∀ l : List UInt8, l.dropWhile (([32, 9, 10] : List UInt8).contains ·) = l.dropWhile Sc.white := fun l => by
    congr 1; funext b; simp only [List.contains_cons, List.contains_nil, Bool.or_false, Sc.white, Bool.or_assoc]
  have HW := Lib.hid hw
  clear hw
  go_enter Tryz.func31, Tryz.ntmps31
  go_wp2_with (go_at_call 49; refine (cutLeft_any s ⟨#[32, 9, 10]⟩ _ (by decide)).mono ?_; rintro e w1 ⟨r, rfl, hr, hb⟩; have h1 := h.below hb; have hc1 := h1.cell; have hf1 := h1.free; have HR := Lib.hid (hr.trans (HW.out _)); clear hr)
  go_ret
  refine ⟨r, ?_, HR.out, h1.set _, (But.of_below hb).set _ _⟩
  rw [← HR.out]
  simp
end Go.Proofs.YtokhibghnpcogaaGreatDoor
