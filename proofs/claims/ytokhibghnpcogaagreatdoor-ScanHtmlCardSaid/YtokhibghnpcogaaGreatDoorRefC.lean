/- The walk of the reference's attribute. -/
import Derived.Test.YtokhibghnpcogaaGreatDoorRefB
open Go Go.RowKit
set_option linter.unusedVariables false
set_option linter.unusedSimpArgs false
set_option maxRecDepth 100000
namespace Go.Proofs.YtokhibghnpcogaaGreatDoor
open Wk
def okA : Option (Option (List UInt8)) → Bool
  | some (some _) => true
  | _ => false
def badA : Option (Option (List UInt8)) → Bool
  | some none => true
  | _ => false
def AttrR (l : List UInt8) (F : Option (Option (List UInt8))) (n : Nat) (e : Ending) : Prop :=
  ∃ r : ByteArray, e = .returned (.tuple #[.string r, .bool (okA F), .bool (badA F)]) ∧ (F = none → r.data.toList = l) ∧ (∀ t, F = some (some t) → r.data.toList = t) ∧ r.size ≤ n
theorem attrR_none {l : List UInt8} {F : Option (Option (List UInt8))} {n : Nat} {r : ByteArray} (h : F = none) (hr : r.data.toList = l) (hn : r.size ≤ n) : AttrR l F n (.returned (.tuple #[.string r, .bool false, .bool false])) :=
  ⟨r, by rw [h]; rfl, fun _ => hr, (fun t' h' => by rw [h] at h'; cases h'), hn⟩
theorem attrR_some {l t : List UInt8} {F : Option (Option (List UInt8))} {n : Nat} {r : ByteArray} (h : F = some (some t)) (hr : r.data.toList = t) (hn : r.size ≤ n) : AttrR l F n (.returned (.tuple #[.string r, .bool true, .bool false])) :=
  ⟨r, by rw [h]; rfl, (fun h' => by rw [h] at h'; cases h'), (fun t' h' => by rw [h] at h'; cases h'; exact hr), hn⟩
theorem attrR_value {l : List UInt8} {F : Option (Option (List UInt8))} {G : Option (List UInt8)} {n : Nat} {r : ByteArray} {b b' : Bool} (h : F = some G) (hb : G.isSome = b) (hb' : b' = !b) (hr : ∀ t, G = some t → r.data.toList = t) (hn : r.size ≤ n) : AttrR l F n (.returned (.tuple #[.string r, .bool b, .bool b'])) := by
  subst hb hb'
  refine ⟨r, ?_, (fun h' => by rw [h] at h'; cases h'), (fun t' h' => hr t' (by rw [h] at h'; exact Option.some.inj h')), hn⟩
  rw [h]; cases G <;> rfl
theorem later_facts (b : UInt8) : (Sc.later b = true ∧ (Sc.letter b = true ∨ (Sc.letter b = false ∧ Sc.digit b = true) ∨ (Sc.letter b = false ∧ Sc.digit b = false ∧ (b == 95) = true) ∨ (Sc.letter b = false ∧ Sc.digit b = false ∧ (b == 95) = false ∧ (b == 46) = true)
      ∨ (Sc.letter b = false ∧ Sc.digit b = false ∧ (b == 95) = false ∧ (b == 46) = false ∧ (b == 58) = true) ∨ (Sc.letter b = false ∧ Sc.digit b = false ∧ (b == 95) = false ∧ (b == 46) = false ∧ (b == 58) = false ∧ (b == 45) = true)))
    ∨ (Sc.later b = false ∧ Sc.letter b = false ∧ Sc.digit b = false ∧ (b == 95) = false ∧ (b == 46) = false ∧ (b == 58) = false ∧ (b == 45) = false) := by
  unfold Sc.later Sc.first
  cases Sc.letter b <;> cases Sc.digit b <;> cases (b == 95) <;> cases (b == 46) <;> cases (b == 58) <;> cases (b == 45) <;> simp
theorem first_facts (b : UInt8) : (Sc.first b = true ∧ (Sc.letter b = true ∨ (Sc.letter b = false ∧ (b != 95) = false) ∨ (Sc.letter b = false ∧ (b != 95) = true ∧ (b != 58) = false)))
    ∨ (Sc.first b = false ∧ Sc.letter b = false ∧ (b != 95) = true ∧ (b != 58) = true) := by
  unfold Sc.first bne
  cases Sc.letter b <;> cases (b == 95) <;> cases (b == 58) <;> simp
set_option maxHeartbeats 4000000 in
theorem attribute_r (s : ByteArray) (w : World) (hs : Small s) :
    Calls Tryz.prog 33 #[.string s] w fun e w' => AttrR s.data.toList (Sc.attr s.data.toList) s.size e ∧ Below w.heap.size w w' := by
  have SK := fun w => skip_r s w hs
  obtain ⟨t, ht⟩ : ∃ t : ByteArray, mk (s.data.toList.dropWhile Sc.white) = t := ⟨_, rfl⟩
  have hd : t.data.toList = s.data.toList.dropWhile Sc.white := by rw [← ht]; rfl
  rw [ht] at SK
  clear ht
  have hts : t.size ≤ s.size := by rw [← Sc.len_size, hd, ← Sc.len_size]; exact Sc.len_dropWhile _
  by_cases h1 : t = s
  · have F := Lib.hid (show Sc.attr s.data.toList = none by
      rw [h1] at hd
      cases e : s.data.toList with
      | nil => rfl
      | cons b l =>
        rw [e] at hd
        simp only [Sc.attr]
        cases hb : Sc.white b with
        | false => simp
        | true =>
          rw [List.dropWhile_cons, if_pos hb] at hd
          have := congrArg List.length hd
          have h2 := Sc.len_dropWhile (p := Sc.white) l
          simp at this; omega)
    subst h1
    clear hd
    go_enter Tryz.func33, Tryz.ntmps33
    go_wp2_with (go_at_call 34; (with_reducible refine (SK _).mono ?_); rintro e w' ⟨rfl, rfl⟩)
    go_ret3
    exact ⟨attrR_none F.out rfl (Nat.le_refl _), Below.refl _ _⟩
  · have n1 : (t.toList == s.toList) = false := by rw [beq_eq_false_iff_ne, toList_data, toList_data]; exact fun h => h1 (same_text h)
    have hat : Sc.attr s.data.toList = Sc.attrAt t.data.toList := by
      cases e : s.data.toList with
      | nil => exact absurd (same_text (by rw [hd, e]; rfl)) h1
      | cons b l =>
        cases hb : Sc.white b with
        | false => exact absurd (same_text (by rw [hd, e, List.dropWhile_cons, hb]; simp)) h1
        | true => simp only [Sc.attr]; rw [if_pos hb, hd, e]
    by_cases h0 : t.data.toList = []
    · have h2 : t.toList = [] := by rw [toList_data, h0]
      have F := Lib.hid (show Sc.attr s.data.toList = none by rw [hat, h0]; rfl)
      have hsE : s.toList.isEmpty = false := by
        rw [toList_data]
        cases e : s.data.toList with
        | nil => exact absurd (same_text (by rw [h0, e])) h1
        | cons _ _ => rfl
      have hsN : (s.toList == ([] : List UInt8)) = false := by
        rw [beq_eq_false_iff_ne]; intro e; rw [e] at hsE; cases hsE
      clear hat h0 hd h1
      go_enter Tryz.func33, Tryz.ntmps33
      go_wp2_with (go_at_call 34; (with_reducible refine (SK _).mono ?_); rintro e w' ⟨rfl, rfl⟩)
      go_ret3
      exact ⟨attrR_none F.out rfl (Nat.le_refl _), Below.refl _ _⟩
    · have hz := Sc.size_pos h0
      have E := Sc.head_of hz
      have h2 : (t.toList == ([] : List UInt8)) = false := by rw [toList_data, beq_eq_false_iff_ne]; exact h0
      have LT := fun w => letter_r t[0] w
      have n95 : ∀ b : UInt8, ((b.toNat : Int) != 95) = (b != 95) := fun b => bne_u8 b 95 (by decide)
      have n58 : ∀ b : UInt8, ((b.toNat : Int) != 58) = (b != 58) := fun b => bne_u8 b 58 (by decide)
      have n61 : ∀ b : UInt8, ((b.toNat : Int) != 61) = (b != 61) := fun b => bne_u8 b 61 (by decide)
      have e95 : ∀ b : UInt8, ((b.toNat : Int) == 95) = (b == 95) := fun b => beq_u8 b 95 (by decide)
      have e46 : ∀ b : UInt8, ((b.toNat : Int) == 46) = (b == 46) := fun b => beq_u8 b 46 (by decide)
      have e58 : ∀ b : UInt8, ((b.toNat : Int) == 58) = (b == 58) := fun b => beq_u8 b 58 (by decide)
      have e45 : ∀ b : UInt8, ((b.toNat : Int) == 45) = (b == 45) := fun b => beq_u8 b 45 (by decide)
      rcases first_facts t[0] with ⟨f0, f1⟩ | ⟨f0, f1, f2, f3⟩
      · have TAIL : ∀ k, Sc.Upto Sc.later t 1 k → (∀ h : k < t.size, Sc.later t[k] = false) → Sc.attr s.data.toList = Sc.attrRest (t.data.toList.drop k) ((t.data.toList.drop k).dropWhile Sc.white) := by
          intro k u h
          obtain ⟨_, e2⟩ := u.stop h
          rw [hat, ← e2]
          generalize t.data.toList.drop 1 = l1 at *
          rw [E]
          simp only [Sc.attrAt]
          rw [if_pos f0]
        have TAILH := Lib.hid TAIL
        clear TAIL hat h0 hd h1 E f0
        generalize Sc.attr s.data.toList = F at *
        have VL := fun (x : ByteArray) w hx => value_r x w hx
        unfold Small at hs VL
        have loop : ∀ k, k ≤ t.size → Small (t.extract k t.size) := fun k hk => by unfold Small; rw [← Sc.len_size, Sc.drop_data]; simp; omega
        rcases f1 with f1 | ⟨f1, f2⟩ | ⟨f1, f2, f3⟩
        all_goals (
          rw [f1] at LT
          clear f1
          go_enter Tryz.func33, Tryz.ntmps33
          go_wp2_with (first
            | (go_at_call 34; (with_reducible refine (SK _).mono ?_); rintro e w' ⟨rfl, rfl⟩)
            | (go_at_call 60; (with_reducible refine (LT _).mono ?_); rintro e w' ⟨rfl, rfl⟩))
          clear SK LT
          go_loop [6] (fun i => ∃ k : Nat, i = .int .i64 k ∧ Sc.Upto Sc.later t 1 k) (fun i => t.size - (intOf i).toNat)
          case atStart => exact ⟨1, rfl, Sc.Upto.start hz⟩
          case round =>
            obtain ⟨k, rfl, U⟩ := hrel
            have hk := U.le
            have hcase : (∃ hp : k < t.size, Sc.later t[k] = true) ∨ (∀ hp : k < t.size, Sc.later t[k] = false) := by
              by_cases hp : k < t.size
              · cases hl : Sc.later t[k] with
                | true => exact .inl ⟨hp, hl⟩
                | false => exact .inr (fun _ => hl)
              · exact .inr (fun h => absurd h hp)
            rcases hcase with ⟨hp, hl⟩ | hl
            · have LB := fun w => letter_r t[k] w
              have DG := fun w => digit_r t[k] w
              have HU := Lib.hid (U.step hp hl)
              clear U
              rcases later_facts t[k] with ⟨_, g⟩ | ⟨g, _⟩
              · clear hl
                rcases g with g1 | ⟨g1, g2⟩ | ⟨g1, g2, g3⟩ | ⟨g1, g2, g3, g4⟩ | ⟨g1, g2, g3, g4, g5⟩ | ⟨g1, g2, g3, g4, g5, g6⟩
                all_goals (
                  rw [g1] at LB
                  clear g1
                  try (rw [g2] at DG; clear g2)
                  go_wp2_with (first
                    | (go_at_call 60; (with_reducible refine (LB _).mono ?_); rintro e w' ⟨rfl, rfl⟩)
                    | (go_at_call 46; (with_reducible refine (DG _).mono ?_); rintro e w' ⟨rfl, rfl⟩))
                  go_round
                  case rel => exact ⟨k + 1, by go_num, HU.out⟩
                  case measure => simp [intOf]; omega)
              · rw [hl] at g; cases g
            · have F0 := TAILH.out k U hl
              clear TAILH U
              have hdr := Sc.drop_data t k
              have hz2 := loop k hk
              clear loop
              have SK2 := fun w => skip_r (t.extract k t.size) w hz2
              obtain ⟨u, hu⟩ : ∃ u : ByteArray, mk ((t.extract k t.size).data.toList.dropWhile Sc.white) = u := ⟨_, rfl⟩
              have hud : u.data.toList = (t.data.toList.drop k).dropWhile Sc.white := by rw [← hu, ← hdr]; rfl
              rw [hu] at SK2
              clear hu
              rw [← hud] at F0
              have hz3 : (t.extract k t.size).size ≤ s.size := by rw [← Sc.len_size, hdr]; simp; omega
              have hus : u.size ≤ s.size := by
                rw [← Sc.len_size, hud]
                exact Nat.le_trans (Sc.len_dropWhile _) (by simp; omega)
              clear hud
              have hstop : (¬ k < t.size) ∨ (∃ hp : k < t.size, Sc.letter t[k] = false ∧ Sc.digit t[k] = false ∧ (t[k] == 95) = false ∧ (t[k] == 46) = false ∧ (t[k] == 58) = false ∧ (t[k] == 45) = false) := by
                by_cases hp : k < t.size
                · rcases later_facts t[k] with ⟨g, _⟩ | ⟨_, g⟩
                  · rw [hl hp] at g; cases g
                  · exact .inr ⟨hp, g⟩
                · exact .inl hp
              clear hl
              have hucase : (u.toList = [] ∧ F = some (some (t.data.toList.drop k))) ∨ (∃ hu : 0 < u.size, (u.toList == ([] : List UInt8)) = false ∧ (u[0] != 61) = true ∧ F = some (some (t.data.toList.drop k)))
                  ∨ (∃ hu : 0 < u.size, (u.toList == ([] : List UInt8)) = false ∧ (u[0] != 61) = false ∧ F = some (Sc.value ((u.data.toList.drop 1).dropWhile Sc.white))) := by
                by_cases h0 : u.data.toList = []
                · exact .inl ⟨by rw [toList_data, h0], by rw [F0, h0]; rfl⟩
                · have hu0 := Sc.size_pos h0
                  have E := Sc.head_of hu0
                  have hne : (u.toList == ([] : List UInt8)) = false := by rw [toList_data, beq_eq_false_iff_ne]; exact h0
                  by_cases h61 : u[0] = 61
                  · refine .inr (.inr ⟨hu0, hne, by simp [h61], ?_⟩)
                    rw [F0]
                    generalize u.data.toList.drop 1 = l1 at *
                    rw [E]; simp only [Sc.attrRest]; rw [if_pos h61]
                  · refine .inr (.inl ⟨hu0, hne, by simp [h61], ?_⟩)
                    rw [F0, E]; simp only [Sc.attrRest]; rw [if_neg h61]
              clear F0
              have hz4 : Small (u.extract 1 u.size) := by unfold Small; rw [← Sc.len_size, Sc.drop_data]; simp; omega
              have SK3 := fun w => skip_r (u.extract 1 u.size) w hz4
              obtain ⟨v, hv⟩ : ∃ v : ByteArray, mk ((u.extract 1 u.size).data.toList.dropWhile Sc.white) = v := ⟨_, rfl⟩
              have hvd : v.data.toList = (u.data.toList.drop 1).dropWhile Sc.white := by rw [← hv, ← Sc.drop_data]; rfl
              rw [hv] at SK3
              clear hv
              have hvs : v.size ≤ s.size := by
                rw [← Sc.len_size, hvd]
                exact Nat.le_trans (Sc.len_dropWhile _) (by simp; omega)
              have VL := fun w => VL v w (by omega)
              rw [hvd] at VL
              clear hvd
              generalize (u.data.toList.drop 1).dropWhile Sc.white = lv at *
              rcases hstop with hp | ⟨hp, g1, g2, g3, g4, g5, g6⟩
              · rcases hucase with ⟨c1, c2⟩ | ⟨c0, c1, c2, c3⟩ | ⟨c0, c1, c2, c3⟩
                · have F := Lib.hid c2
                  clear c2 VL SK3
                  go_wp2_with (go_at_call 34; (with_reducible refine (SK2 _).mono ?_); rintro e w' ⟨rfl, rfl⟩)
                  go_ret3
                  exact ⟨attrR_some F.out hdr hz3, Below.refl _ _⟩
                · have F := Lib.hid c3
                  clear c3 VL SK3
                  go_wp2_with (go_at_call 34; (with_reducible refine (SK2 _).mono ?_); rintro e w' ⟨rfl, rfl⟩)
                  go_ret3
                  exact ⟨attrR_some F.out hdr hz3, Below.refl _ _⟩
                · have F := Lib.hid c3
                  clear c3
                  go_wp2_with (first
                    | (go_at_call 34; (with_reducible refine (SK2 _).mono ?_); rintro e w' ⟨rfl, rfl⟩)
                    | (go_at_call 34; (with_reducible refine (SK3 _).mono ?_); rintro e w' ⟨rfl, rfl⟩)
                    | (go_at_call 70; (with_reducible refine (VL _).mono ?_); rintro e w' ⟨⟨r3, rfl, hr3, hn3⟩, b3⟩; have HR3 := Lib.hid hr3; clear hr3))
                  go_ret3
                  exact ⟨attrR_value F.out rfl (by cases Sc.value lv <;> rfl) HR3.out (by omega), b3⟩
              · have LB := fun w => letter_r t[k] w
                have DG := fun w => digit_r t[k] w
                rw [g1] at LB
                rw [g2] at DG
                clear g1 g2
                rcases hucase with ⟨c1, c2⟩ | ⟨c0, c1, c2, c3⟩ | ⟨c0, c1, c2, c3⟩
                · have F := Lib.hid c2
                  clear c2 VL SK3
                  go_wp2_with (first
                    | (go_at_call 60; (with_reducible refine (LB _).mono ?_); rintro e w' ⟨rfl, rfl⟩)
                    | (go_at_call 46; (with_reducible refine (DG _).mono ?_); rintro e w' ⟨rfl, rfl⟩)
                    | (go_at_call 34; (with_reducible refine (SK2 _).mono ?_); rintro e w' ⟨rfl, rfl⟩))
                  go_ret3
                  exact ⟨attrR_some F.out hdr hz3, Below.refl _ _⟩
                · have F := Lib.hid c3
                  clear c3 VL SK3
                  go_wp2_with (first
                    | (go_at_call 60; (with_reducible refine (LB _).mono ?_); rintro e w' ⟨rfl, rfl⟩)
                    | (go_at_call 46; (with_reducible refine (DG _).mono ?_); rintro e w' ⟨rfl, rfl⟩)
                    | (go_at_call 34; (with_reducible refine (SK2 _).mono ?_); rintro e w' ⟨rfl, rfl⟩))
                  go_ret3
                  exact ⟨attrR_some F.out hdr hz3, Below.refl _ _⟩
                · have F := Lib.hid c3
                  clear c3
                  go_wp2_with (first
                    | (go_at_call 60; (with_reducible refine (LB _).mono ?_); rintro e w' ⟨rfl, rfl⟩)
                    | (go_at_call 46; (with_reducible refine (DG _).mono ?_); rintro e w' ⟨rfl, rfl⟩)
                    | (go_at_call 34; (with_reducible refine (SK2 _).mono ?_); rintro e w' ⟨rfl, rfl⟩)
                    | (go_at_call 34; (with_reducible refine (SK3 _).mono ?_); rintro e w' ⟨rfl, rfl⟩)
                    | (go_at_call 70; (with_reducible refine (VL _).mono ?_); rintro e w' ⟨⟨r3, rfl, hr3, hn3⟩, b3⟩; have HR3 := Lib.hid hr3; clear hr3))
                  go_ret3
                  exact ⟨attrR_value F.out rfl (by cases Sc.value lv <;> rfl) HR3.out (by omega), b3⟩)
      · have F := Lib.hid (show Sc.attr s.data.toList = none by rw [hat, E]; simp [Sc.attrAt, f0])
        rw [f1] at LT
        clear hat h0 hd h1 E f0 f1
        go_enter Tryz.func33, Tryz.ntmps33
        go_wp2_with (first
          | (go_at_call 34; (with_reducible refine (SK _).mono ?_); rintro e w' ⟨rfl, rfl⟩)
          | (go_at_call 60; (with_reducible refine (LT _).mono ?_); rintro e w' ⟨rfl, rfl⟩))
        go_ret3
        exact ⟨attrR_none F.out rfl (Nat.le_refl _), Below.refl _ _⟩
end Go.Proofs.YtokhibghnpcogaaGreatDoor
