/- Walks of the scanner's methods: an attribute. -/
import Derived.Test.YtokhibghnpcogaaGreatDoorTag5
open Go Go.RowKit
set_option linter.unusedVariables false
set_option maxRecDepth 100000
namespace Go.Proofs.YtokhibghnpcogaaGreatDoor
open Wk
namespace Sc
theorem dw_lt {p : UInt8 → Bool} {b : UInt8} {t : List UInt8} : ((b :: t).dropWhile p).length < (b :: t).length ↔ p b = true := by
  rw [List.dropWhile_cons]
  split
  · rename_i h; have := len_dropWhile (p := p) t; simp [h]; omega
  · rename_i h; simp [h]
theorem attr_cases (l : List UInt8) :
    ((l.dropWhile white).length = l.length ∧ attr l = none) ∨
    ((l.dropWhile white).length < l.length ∧ l.dropWhile white = [] ∧ attr l = none) ∨
    (∃ b t, (l.dropWhile white).length < l.length ∧ l.dropWhile white = b :: t ∧ first b = false ∧ attr l = none) ∨
    (∃ b t, (l.dropWhile white).length < l.length ∧ l.dropWhile white = b :: t ∧ first b = true ∧ (∀ v, (t.dropWhile later).dropWhile white ≠ 61 :: v) ∧ attr l = some (some (t.dropWhile later))) ∨
    (∃ b t v, (l.dropWhile white).length < l.length ∧ l.dropWhile white = b :: t ∧ first b = true ∧ (t.dropWhile later).dropWhile white = 61 :: v ∧ attr l = some (value (v.dropWhile white))) := by
  cases l with
  | nil => exact .inl ⟨rfl, rfl⟩
  | cons w l' =>
    by_cases hw : white w = true
    · have hlt := dw_lt (t := l').2 hw
      have hattr : attr (w :: l') = attrAt ((w :: l').dropWhile white) := by simp only [attr, hw, if_true]
      generalize (w :: l').dropWhile white = d at *
      cases d with
      | nil => exact .inr (.inl ⟨hlt, rfl, hattr⟩)
      | cons b t =>
        cases hf : first b with
        | false => exact .inr (.inr (.inl ⟨b, t, hlt, rfl, hf, by rw [hattr, attrAt, hf]; rfl⟩))
        | true =>
          have hat : attr (w :: l') = attrRest (t.dropWhile later) ((t.dropWhile later).dropWhile white) := by rw [hattr, attrAt, if_pos hf]
          cases hu : (t.dropWhile later).dropWhile white with
          | nil => rw [hu] at hat; exact .inr (.inr (.inr (.inl ⟨b, t, hlt, rfl, hf, by simp [hu], hat⟩)))
          | cons e u =>
            rw [hu] at hat
            by_cases he : e = 61
            · subst he
              exact .inr (.inr (.inr (.inr ⟨b, t, u, hlt, rfl, hf, hu, by rw [hat, attrRest, if_pos rfl]⟩)))
            · exact .inr (.inr (.inr (.inl ⟨b, t, hlt, rfl, hf, by rw [hu]; intro v hv; exact he (List.cons.inj hv).1, by rw [hat, attrRest, if_neg he]⟩)))
    · have hn : ¬ ((w :: l').dropWhile white).length < (w :: l').length := fun h => hw (dw_lt.1 h)
      have := len_dropWhile (p := white) (w :: l')
      exact .inl ⟨by omega, by simp [attr, hw]⟩
theorem first_later {b : UInt8} (h : first b = true) : later b = true := by unfold later; simp [h]
end Sc
/-- What an attribute's scan leaves. -/
def LeftA (g : Nat) (w : World) (l : List UInt8) (F : Option (Option (List UInt8))) (e : Ending) (w' : World) : Prop :=
  ∃ r : ByteArray, e = .returned (.tuple #[.bool F.isSome, .bool (F != some none)]) ∧ (∀ t, F = some (some t) → r.data.toList = t) ∧ (F = none → r.data.toList = l) ∧ Small r ∧ At 35 g r w' ∧ But g w w'
theorem attribute_any (g : Nat) (s : ByteArray) (w : World) (hs : Small s) (h : At 35 g s w) :
    Calls Tryz.prog 30 #[.pointer (some ⟨g, 0, none⟩)] w (LeftA g w s.data.toList (Sc.attr s.data.toList)) := by
  have hc := h.cell
  have hf := h.free
  have W := white_any g s w h
  rcases Sc.attr_cases s.data.toList with ⟨h1, h2⟩ | ⟨h1, h2, h3⟩ | ⟨b, t, h1, h2, h3, h4⟩ | ⟨b, t, h1, h2, h3, h4, h5⟩ | ⟨b, t, v, h1, h2, h3, h4, h5⟩
  · have E : decide ((s.data.toList.dropWhile Sc.white).length < s.data.toList.length) = false := by rw [decide_eq_false_iff_not]; omega
    rw [E] at W
    rw [h2]
    clear h1 h2 E
    go_enter Tryz.func30, Tryz.ntmps30
    go_wp2_with (go_at_call 31; refine W.mono ?_; rintro e w1 ⟨r1, rfl, hr1, a1, b1⟩; have hc1 := a1.cell; have hf1 := a1.free)
    go_ret2
    exact ⟨s, rfl, (fun t ht => by cases ht), fun _ => rfl, hs, a1.set s, b1.set _ _⟩
  · have E : decide ((s.data.toList.dropWhile Sc.white).length < s.data.toList.length) = true := decide_eq_true h1
    rw [E, h2] at W
    rw [h3]
    clear h1 h2 h3 E
    go_enter Tryz.func30, Tryz.ntmps30
    go_wp2_with (go_at_call 31; refine W.mono ?_; rintro e w1 ⟨r1, rfl, hr1, a1, b1⟩; have hc1 := a1.cell; have hf1 := a1.free; have he1 : (r1.toList == ([] : List UInt8)) = true := by rw [toList_data, hr1]; rfl)
    go_ret2
    exact ⟨s, rfl, (fun t ht => by cases ht), fun _ => rfl, hs, a1.set s, b1.set _ _⟩
  · have E : decide ((s.data.toList.dropWhile Sc.white).length < s.data.toList.length) = true := decide_eq_true h1
    rw [E, h2] at W
    rw [h4]
    clear h1 h2 h4 E
    go_enter Tryz.func30, Tryz.ntmps30
    go_wp2_with (first
      | (go_at_call 31; refine W.mono ?_; rintro e w1 ⟨r1, rfl, hr1, a1, b1⟩; have hc1 := a1.cell; have hf1 := a1.free; have he1 : (r1.toList == ([] : List UInt8)) = false := by { rw [toList_data, hr1]; rfl }; have hz1 : 0 < r1.size := Sc.size_pos (by rw [hr1]; simp); have hb1 : r1[0] = b := by { have := Sc.head_of hz1; rw [hr1] at this; exact (List.cons.inj this).1.symm })
      | (go_at_call 66; refine (first_b b _).mono ?_; rw [h3]; rintro e w2 ⟨rfl, rfl⟩))
    go_ret2
    exact ⟨s, rfl, (fun t ht => by cases ht), fun _ => rfl, hs, a1.set s, b1.set _ _⟩
  · have E : decide ((s.data.toList.dropWhile Sc.white).length < s.data.toList.length) = true := decide_eq_true h1
    have hlen := Sc.len_dropWhile (p := Sc.white) s.data.toList
    have hl0 := Sc.len_size s
    rw [h2] at hlen
    rw [E, h2] at W
    have hdl : (b :: t).dropWhile Sc.later = t.dropWhile Sc.later := by rw [List.dropWhile_cons, if_pos (Sc.first_later h3)]
    have hl1 := Sc.len_dropWhile (p := Sc.later) t
    have hl2 := Sc.len_dropWhile (p := Sc.white) (t.dropWhile Sc.later)
    rw [h5]
    clear h1 h2 h5 E
    unfold Small at hs
    have E4 := Lib.hid (sign_false (c := 61) h4)
    clear h4
    go_enter Tryz.func30, Tryz.ntmps30
    go_wp2_with (first
      | (go_at_call 31; refine W.mono ?_; rintro e w1 ⟨r1, rfl, hr1, a1, b1⟩; have hc1 := a1.cell; have hf1 := a1.free; have he1 : (r1.toList == ([] : List UInt8)) = false := by { rw [toList_data, hr1]; rfl }; have hz1 : 0 < r1.size := Sc.size_pos (by rw [hr1]; simp); have hb1 : r1[0] = b := by { have := Sc.head_of hz1; rw [hr1] at this; exact (List.cons.inj this).1.symm }; have HZ1 : Small r1 := by { unfold Small; rw [← Sc.len_size, hr1]; simp at hlen ⊢; omega })
      | (go_at_call 66; refine (first_b b _).mono ?_; rw [h3]; rintro e w2 ⟨rfl, rfl⟩)
      | (go_at_call 67; refine (while_later g r1 _ HZ1 a1).mono ?_; rw [hr1, hdl]; rintro e w2 ⟨r2, rfl, hr2, a2, b2⟩; have hc2 := a2.cell; have hf2 := a2.free))
    go_wp2_with (first
      | (go_at_call 31; refine (white_any g r2 _ a2).mono ?_; rw [hr2]; rintro e w3 ⟨r3, rfl, hr3, a3, b3⟩; have hc3 := a3.cell; have hf3 := a3.free)
      | (go_at_call 27; refine (sign_lit g r3 61 (by decide) _ a3).mono ?_; rw [show r3.data.toList = _ from hr3, show Sc.sign (61 : Nat).toUInt8 _ = _ from E4.out]; rintro e w4 ⟨r4, rfl, hr4, a4, b4⟩; have hc4 := a4.cell; have hf4 := a4.free))
    go_ret2
    exact ⟨r2, rfl, (fun t' ht => by cases ht; exact hr2), (fun h => by cases h), (by unfold Small; rw [← Sc.len_size, hr2]; simp at hlen; omega), a4.set r2, (b1.trans (b2.trans (b3.trans b4))).set _ _⟩
  · have E : decide ((s.data.toList.dropWhile Sc.white).length < s.data.toList.length) = true := decide_eq_true h1
    have hlen := Sc.len_dropWhile (p := Sc.white) s.data.toList
    have hl0 := Sc.len_size s
    rw [h2] at hlen
    rw [E, h2] at W
    have hdl : (b :: t).dropWhile Sc.later = t.dropWhile Sc.later := by rw [List.dropWhile_cons, if_pos (Sc.first_later h3)]
    have hl1 := Sc.len_dropWhile (p := Sc.later) t
    have hl2 := Sc.len_dropWhile (p := Sc.white) (t.dropWhile Sc.later)
    rw [h5]
    clear h1 h2 h5 E
    unfold Small at hs
    have hl3 : v.length < s.size := by rw [h4] at hl2; simp at hl2 hlen; omega
    have E4 := Lib.hid (show Sc.sign (61 : Nat).toUInt8 ((t.dropWhile Sc.later).dropWhile Sc.white) = (true, v) by rw [h4]; rfl)
    have hl4 := Sc.len_dropWhile (p := Sc.white) v
    clear h4 hl2
    go_enter Tryz.func30, Tryz.ntmps30
    go_wp2_with (first
      | (go_at_call 31; refine W.mono ?_; rintro e w1 ⟨r1, rfl, hr1, a1, b1⟩; have hc1 := a1.cell; have hf1 := a1.free; have he1 : (r1.toList == ([] : List UInt8)) = false := by { rw [toList_data, hr1]; rfl }; have hz1 : 0 < r1.size := Sc.size_pos (by rw [hr1]; simp); have hb1 : r1[0] = b := by { have := Sc.head_of hz1; rw [hr1] at this; exact (List.cons.inj this).1.symm }; have HZ1 : Small r1 := by { unfold Small; rw [← Sc.len_size, hr1]; simp at hlen ⊢; omega })
      | (go_at_call 66; refine (first_b b _).mono ?_; rw [h3]; rintro e w2 ⟨rfl, rfl⟩)
      | (go_at_call 67; refine (while_later g r1 _ HZ1 a1).mono ?_; rw [hr1, hdl]; rintro e w2 ⟨r2, rfl, hr2, a2, b2⟩; have hc2 := a2.cell; have hf2 := a2.free))
    go_wp2_with (first
      | (go_at_call 31; refine (white_any g r2 _ a2).mono ?_; rw [hr2]; rintro e w3 ⟨r3, rfl, hr3, a3, b3⟩; have hc3 := a3.cell; have hf3 := a3.free)
      | (go_at_call 27; refine (sign_lit g r3 61 (by decide) _ a3).mono ?_; rw [show r3.data.toList = _ from hr3, show Sc.sign (61 : Nat).toUInt8 _ = _ from E4.out]; rintro e w4 ⟨r4, rfl, hr4, a4, b4⟩; have hc4 := a4.cell; have hf4 := a4.free))
    go_wp2_with (first
      | (go_at_call 31; refine (white_any g r4 _ a4).mono ?_; rw [hr4]; rintro e w5 ⟨r5, rfl, hr5, a5, b5⟩; have hc5 := a5.cell; have hf5 := a5.free; have HZ5 : Small r5 := by { unfold Small; rw [← Sc.len_size, hr5]; simp at hl4 ⊢; omega })
      | (go_at_call 69; refine (value_any g r5 _ HZ5 a5).mono ?_; rw [hr5]; rintro e w6 ⟨r6, rfl, hr6, hz6, a6, b6⟩))
    go_ret2
    refine ⟨r6, ?_, (fun t' ht => hr6 t' (Option.some.inj ht)), (fun h => by cases h), hz6, a6, b1.trans (b2.trans (b3.trans (b4.trans (b5.trans b6))))⟩
    cases Sc.value (v.dropWhile Sc.white) <;> rfl
end Go.Proofs.YtokhibghnpcogaaGreatDoor
