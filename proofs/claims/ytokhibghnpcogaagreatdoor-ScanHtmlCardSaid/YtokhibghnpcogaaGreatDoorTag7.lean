/- Walks of the scanner's methods: all attributes. -/
import Derived.Test.YtokhibghnpcogaaGreatDoorTag6
open Go Go.RowKit
set_option linter.unusedVariables false
set_option maxRecDepth 100000
namespace Go.Proofs.YtokhibghnpcogaaGreatDoor
open Wk
/-- How long the text of block g is. -/
def sizeAt (g : Nat) (w : World) : Nat := match w.heap[g]? with
  | some (.cells c _ _) => match c[0]? with
    | some (Value.string s) => s.size
    | _ => 0
  | _ => 0
theorem sizeAt_of {T g : Nat} {s : ByteArray} {w : World} (h : At T g s w) : sizeAt g w = s.size := by unfold sizeAt; rw [h.blk]; rfl

theorem attributes_any (g : Nat) (s : ByteArray) (w : World) (hs : Small s) (h : At 35 g s w) :
    Calls Tryz.prog 29 #[.pointer (some ⟨g, 0, none⟩), .func (.func 30) #[.pointer (some ⟨g, 0, none⟩)] #[]] w (LeftO g w (Sc.attrs (s.data.toList.length + 1) s.data.toList)) := by
  generalize hF : Sc.attrs (s.data.toList.length + 1) s.data.toList = F
  have HF := Lib.hid hF
  clear hF
  go_enter Tryz.func29, Tryz.ntmps29
  go_wp2
  go_loopw [5, 6] (fun _ _ wr => ∃ s1, At 35 g s1 wr ∧ Small s1 ∧ But g w wr ∧ Hid (Sc.attrs (s1.data.toList.length + 1) s1.data.toList = F)) (fun _ _ wr => sizeAt g wr)
  case atStart => exact ⟨s, h, hs, But.refl, HF⟩
  case round =>
    obtain ⟨s1, h1, hs1, b1, HF1⟩ := hrel
    have hc1 := h1.cell
    have hf1 := h1.free
    have A := attribute_any g s1 wr hs1 h1
    have hz := Lib.hid (sizeAt_of h1)
    cases hatt : Sc.attr s1.data.toList with
    | none =>
      have e : F = some s1.data.toList := by rw [← HF1.out, Sc.attrs, hatt]
      subst e
      rw [hatt] at A
      clear hatt HF HF1
      go_wp2_with (go_at_call 30; refine A.mono ?_; rintro e w2 ⟨r2, rfl, _, hr2, hz2, a2, b2⟩; try have hr2' := hr2 rfl)
      go_ret
      exact ⟨r2, rfl, (fun t ht => by cases ht; exact hr2'), hz2, a2, b1.trans b2⟩
    | some o =>
      cases o with
      | none =>
        have e : F = none := by rw [← HF1.out, Sc.attrs, hatt]
        subst e
        rw [hatt] at A
        clear hatt HF HF1
        go_wp2_with (go_at_call 30; refine A.mono ?_; rintro e w2 ⟨r2, rfl, _, hr2, hz2, a2, b2⟩; try have hr2' := hr2 rfl)
        go_ret
        exact ⟨r2, rfl, (fun t ht => by cases ht), hz2, a2, b1.trans b2⟩
      | some t =>
        have hlt := Sc.attr_len hatt
        have e0 : Sc.attrs (s1.data.toList.length + 1) s1.data.toList = Sc.attrs s1.data.toList.length t := by rw [Sc.attrs, hatt]
        have e : Sc.attrs (t.length + 1) t = F := by rw [← HF1.out, e0]; exact (Sc.attrs_more _ _ hlt).symm
        clear e0
        have HE := Lib.hid e
        clear e
        rw [hatt] at A
        clear hatt HF HF1
        rw [Sc.len_size] at hlt
        go_wp2_with (go_at_call 30; refine A.mono ?_; rintro e w2 ⟨r2, rfl, hr2, _, hz2, a2, b2⟩; have HR2 := Lib.hid (hr2 t rfl); clear hr2)
        go_roundw
        case rel => exact ⟨r2, a2, hz2, b1.trans b2, by rw [HR2.out]; exact HE⟩
        case measure => rw [sizeAt_of a2, hz.out, ← Sc.len_size, HR2.out]; exact hlt
end Go.Proofs.YtokhibghnpcogaaGreatDoor
