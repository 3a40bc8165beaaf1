/- The walk of scan.HtmlStart. -/
import Derived.Test.YtokhibghnpcogaaGreatDoorHtml2
import Derived.Deep.DeepCutAuto
open Go Go.RowKit
set_option linter.unusedVariables false
set_option linter.unusedSimpArgs false
set_option maxRecDepth 100000
namespace Go.Proofs.YtokhibghnpcogaaGreatDoor
open Wk
namespace Sc
def afterRaw (r : List UInt8) : Bool := ends r || (match r with | b :: _ => b == 62 | [] => false)
def afterBlock (r : List UInt8) : Bool := afterRaw r || Lib.hasPrefix r [47, 62]
def decl : List UInt8 → Bool
  | _ :: b :: c :: _ => b == 33 && letter c
  | _ => false
def htmlTail (l nm r : List UInt8) : Nat :=
  if (blocks.contains (lower nm) && afterBlock r) = true then 6
  else if (decide (0 < tag l) && !raws.contains (lower nm) && blanks (l.drop (tag l))) = true then 7 else 0
def htmlRest (l : List UInt8) (q : List UInt8 × List UInt8) : Nat :=
  if decl l = true then 4
  else if Lib.hasPrefix l [60, 33, 91, 67, 68, 65, 84, 65, 91] = true then 5
  else if Lib.hasPrefix l [60, 47] = true then htmlTail l (named (l.drop 2)).1 (named (l.drop 2)).2
  else htmlTail l q.1 q.2
def htmlStart (l : List UInt8) : Nat :=
  if Lib.hasPrefix l [60] = false then 0
  else if (raws.contains (lower (named (l.drop 1)).1) && afterRaw (named (l.drop 1)).2) = true then 1
  else if Lib.hasPrefix l [60, 33, 45, 45] = true then 2
  else if Lib.hasPrefix l [60, 63] = true then 3
  else htmlRest l (named (l.drop 1))
theorem named_len1 (l : List UInt8) : (named l).1.length ≤ l.length := by
  cases l with
  | nil => simp [named]
  | cons b t =>
    rw [named]
    split
    · have := len_takeDrop (p := nameByte) t; simp; omega
    · simp
theorem tag_le (l : List UInt8) : tag l ≤ l.length := by
  unfold tag; split <;> omega
end Sc
/-- Behind a name: an end, or a byte that may be ">". -/
theorem after_cases (rs : ByteArray) : (Sc.ends rs.data.toList = true ∧ Sc.afterRaw rs.data.toList = true) ∨ (Sc.ends rs.data.toList = false ∧ ∃ h : 0 < rs.size, Sc.afterRaw rs.data.toList = (rs[0] == 62)) := by
  unfold Sc.afterRaw
  cases h : Sc.ends rs.data.toList with
  | true => exact .inl ⟨rfl, rfl⟩
  | false =>
    have hne : rs.data.toList ≠ [] := by intro e; rw [e] at h; simp [Sc.ends] at h
    have hz := Sc.size_pos hne
    refine .inr ⟨rfl, hz, ?_⟩
    have E := Sc.head_of hz
    generalize rs.data.toList = l at *
    rw [E]
    simp
/-- '<!' and a letter. -/
theorem decl_cases (s : ByteArray) : (s.size ≤ 2 ∧ Sc.decl s.data.toList = false) ∨ (∃ h : 2 < s.size, s[1] ≠ 33 ∧ Sc.decl s.data.toList = false) ∨ (∃ h : 2 < s.size, s[1] = 33 ∧ Sc.decl s.data.toList = Sc.letter s[2]) := by
  by_cases h : 2 < s.size
  · have e0 := Sc.drop_at s 0 (by omega)
    have e1 := Sc.drop_at s 1 (by omega)
    have e2 := Sc.drop_at s 2 h
    rw [e1, e2] at e0
    have E : Sc.decl s.data.toList = (s[1] == 33 && Sc.letter s[2]) := by
      have : s.data.toList = s[0] :: s[1] :: s[2] :: s.data.toList.drop 3 := by simpa using e0
      rw [this]; rfl
    by_cases h1 : s[1] = 33
    · exact .inr (.inr ⟨h, h1, by rw [E, h1]; rfl⟩)
    · exact .inr (.inl ⟨h, h1, by rw [E]; simp [h1]⟩)
  · refine .inl ⟨by omega, ?_⟩
    have hl := Sc.len_size s
    match e : s.data.toList with
    | [] => rfl
    | [_] => rfl
    | [_, _] => rfl
    | _ :: _ :: _ :: _ => rw [e] at hl; simp at hl; omega
theorem prefix_any (s p : ByteArray) (w : World) : Calls Tryz.prog 51 #[.string s, .string p] w fun e w' => e = .returned (.bool (Lib.hasPrefix s.data.toList p.data.toList)) ∧ w = w' :=
  (Tryz.strings_HasPrefix s p w).mono fun _ _ ⟨h1, h2⟩ => ⟨h1, h2.symm⟩
theorem cutPrefix_any (s p : ByteArray) (w : World) : Calls Tryz.prog 54 #[.string s, .string p] w fun e w' => e = .returned (.tuple #[.string (mk (Lib.trimPrefix s.data.toList p.data.toList)), .bool (Lib.hasPrefix s.data.toList p.data.toList)]) ∧ w = w' :=
  (Tryz.strings_CutPrefix s p w).mono fun _ _ ⟨h1, h2⟩ => ⟨h1, h2.symm⟩
set_option maxHeartbeats 4000000 in
theorem htmlStart_any (s : ByteArray) (w : World) (hs : Small s) :
    Calls Tryz.prog 23 #[.string s] w fun e w' => e = .returned (.int .i64 (Sc.htmlStart s.data.toList)) ∧ Below w.heap.size w w' := by
  have HP := fun (p : ByteArray) (w : World) => prefix_any s p w
  have F : Sc.htmlStart s.data.toList = if Lib.hasPrefix s.data.toList [60] = false then 0
    else if (Sc.raws.contains (Sc.lower (Sc.named (s.data.toList.drop 1)).1) && Sc.afterRaw (Sc.named (s.data.toList.drop 1)).2) = true then 1
    else if Lib.hasPrefix s.data.toList [60, 33, 45, 45] = true then 2
    else if Lib.hasPrefix s.data.toList [60, 63] = true then 3
    else Sc.htmlRest s.data.toList (Sc.named (s.data.toList.drop 1)) := rfl
  have G : ∀ q, Sc.htmlRest s.data.toList q = if Sc.decl s.data.toList = true then 4
    else if Lib.hasPrefix s.data.toList [60, 33, 91, 67, 68, 65, 84, 65, 91] = true then 5
    else if Lib.hasPrefix s.data.toList [60, 47] = true then Sc.htmlTail s.data.toList (Sc.named (s.data.toList.drop 2)).1 (Sc.named (s.data.toList.drop 2)).2
    else Sc.htmlTail s.data.toList q.1 q.2 := fun q => rfl
  generalize Sc.htmlStart s.data.toList = X at *
  unfold Small at hs
  cases h60 : Lib.hasPrefix s.data.toList [60] with
  | false =>
    rw [if_pos h60] at F
    subst F
    have HP0 := fun w => HP ⟨#[60]⟩ w
    have e60 : (⟨#[60]⟩ : ByteArray).data.toList = [60] := rfl
    rw [e60, h60] at HP0
    go_enter Tryz.func23, Tryz.ntmps23
    go_wp2_with (go_at_call 51; (with_reducible refine (HP0 _).mono ?_); rintro e w1 ⟨rfl, rfl⟩)
    go_ret
    exact ⟨rfl, Below.refl _ _⟩
  | true =>
    rw [if_neg (by rw [h60]; simp)] at F
    have HP0 := fun w => HP ⟨#[60]⟩ w
    have e60 : (⟨#[60]⟩ : ByteArray).data.toList = [60] := rfl
    rw [e60, h60] at HP0
    have hd1 := Sc.drop_data s 1
    have hz1 : (s.extract 1 s.size).size ≤ s.size := by rw [← Sc.len_size, hd1]; simp
    have NM := fun w => named_any (s.extract 1 s.size) w (by omega)
    rw [hd1] at NM
    have hl1 := Sc.named_len1 (s.data.toList.drop 1)
    have hl2 := Sc.named_len (s.data.toList.drop 1)
    have hl3 : (s.data.toList.drop 1).length ≤ s.size := by simp
    have hsz : 1 ≤ s.size := by
      cases hl : s.data.toList with
      | nil => rw [hl] at h60; simp [Lib.hasPrefix] at h60
      | cons b t => rw [← Sc.len_size, hl]; simp
    have HF := Lib.hid F
    clear F
    go_enter Tryz.func23, Tryz.ntmps23
    go_upto_region 4 with (first
      | (go_at_call 51; (with_reducible refine (HP0 _).mono ?_); rintro e w1 ⟨rfl, rfl⟩)
      | (go_at_call 28; (with_reducible refine (NM _).mono ?_); rintro e w1 ⟨nm, rs, rfl, hnm, hrs, b1⟩))
    have hznm : Small nm := by unfold Small; rw [← Sc.len_size, hnm]; omega
    have hzrs : Small rs := by unfold Small; rw [← Sc.len_size, hrs]; omega
    have e62 : ∀ b : UInt8, ((b.toNat : Int) == 62) = (b == 62) := fun b => beq_u8 b 62 (by decide)
    go_cut [17] (fun c wx => c = .bool (Sc.raws.contains (Sc.lower nm.data.toList) && Sc.afterRaw rs.data.toList) ∧ Below w1.heap.size w1 wx)
    case first =>
      have RW := fun w => raw_any nm w hznm
      generalize Sc.raws.contains (Sc.lower nm.data.toList) = r1 at *
      have EN := fun w => ends_any rs w
      have AF := after_cases rs
      generalize Sc.afterRaw rs.data.toList = a1 at *
      generalize Sc.ends rs.data.toList = e1 at *
      cases r1 with
      | false =>
        go_wp2_with (first
          | (go_at_call 52; (with_reducible refine (RW _).mono ?_); rintro e w2 ⟨rfl, b2⟩)
          | (go_at_call 36; (with_reducible refine (EN _).mono ?_); rintro e w3 ⟨rfl, rfl⟩))
        go_meet
        case rel => exact ⟨rfl, b2⟩
      | true =>
        rcases AF with ⟨h1, h2⟩ | ⟨h1, hz, h2⟩
        · subst h1 h2
          go_wp2_with (first
            | (go_at_call 52; (with_reducible refine (RW _).mono ?_); rintro e w2 ⟨rfl, b2⟩)
            | (go_at_call 36; (with_reducible refine (EN _).mono ?_); rintro e w3 ⟨rfl, rfl⟩))
          go_meet
          case rel => exact ⟨rfl, b2⟩
        · subst h1
          go_wp2_with (first
            | (go_at_call 52; (with_reducible refine (RW _).mono ?_); rintro e w2 ⟨rfl, b2⟩)
            | (go_at_call 36; (with_reducible refine (EN _).mono ?_); rintro e w3 ⟨rfl, rfl⟩))
          go_meet
          case rel => exact ⟨by rw [h2]; rfl, b2⟩
    case rest =>
      obtain ⟨rfl, b2⟩ := hcut
      have b2 := b1.trans (b2.mono b1.size)
      have F := HF.out
      rw [← hnm, ← hrs] at F
      clear HF
      have HPn := fun (l : List UInt8) (w : World) => HP (mk l) w
      have H4 : ∀ w, Calls Tryz.prog 51 #[.string s, .string ⟨#[60, 33, 45, 45]⟩] w fun e w' => e = .returned (.bool (Lib.hasPrefix s.data.toList [60, 33, 45, 45])) ∧ w = w' := HP ⟨#[60, 33, 45, 45]⟩
      have H2 : ∀ w, Calls Tryz.prog 51 #[.string s, .string ⟨#[60, 63]⟩] w fun e w' => e = .returned (.bool (Lib.hasPrefix s.data.toList [60, 63])) ∧ w = w' := HP ⟨#[60, 63]⟩
      have H9 : ∀ w, Calls Tryz.prog 51 #[.string s, .string ⟨#[60, 33, 91, 67, 68, 65, 84, 65, 91]⟩] w fun e w' => e = .returned (.bool (Lib.hasPrefix s.data.toList [60, 33, 91, 67, 68, 65, 84, 65, 91])) ∧ w = w' := HP ⟨#[60, 33, 91, 67, 68, 65, 84, 65, 91]⟩
      clear HP HPn HP0
      generalize (Sc.raws.contains (Sc.lower nm.data.toList) && Sc.afterRaw rs.data.toList) = p1 at *
      generalize Lib.hasPrefix s.data.toList [60, 33, 45, 45] = p2 at *
      generalize Lib.hasPrefix s.data.toList [60, 63] = p3 at *
      cases p1 with
      | true =>
        rw [if_pos rfl] at F
        have HF := Lib.hid F
        clear F
        go_wp2
        go_ret
        exact ⟨by rw [HF.out]; rfl, b2⟩
      | false =>
        rw [if_neg (by simp)] at F
        cases p2 with
        | true =>
          rw [if_pos rfl] at F
          have HF := Lib.hid F
          clear F
          go_wp2_with (go_at_call 51; (with_reducible refine (H4 _).mono ?_); rintro e w3 ⟨rfl, rfl⟩)
          go_ret
          exact ⟨by rw [HF.out]; rfl, b2⟩
        | false =>
          rw [if_neg (by simp)] at F
          cases p3 with
          | true =>
            rw [if_pos rfl] at F
            have HF := Lib.hid F
            clear F
            go_wp2_with (first
              | (go_at_call 51; (with_reducible refine (H4 _).mono ?_); rintro e w3 ⟨rfl, rfl⟩)
              | (go_at_call 51; (with_reducible refine (H2 _).mono ?_); rintro e w3 ⟨rfl, rfl⟩))
            go_ret
            exact ⟨by rw [HF.out]; rfl, b2⟩
          | false =>
            rw [if_neg (by simp), G] at F
            have HF := Lib.hid F
            clear F G
            go_upto_region 10 with (first
              | (go_at_call 51; (with_reducible refine (H4 _).mono ?_); rintro e w3 ⟨rfl, rfl⟩)
              | (go_at_call 51; (with_reducible refine (H2 _).mono ?_); rintro e w3 ⟨rfl, rfl⟩))
            go_cut [35] (fun c wx => c = .bool (Sc.decl s.data.toList) ∧ Below w.heap.size w wx)
            case first =>
              have e33 : ∀ b : UInt8, ((b.toNat : Int) == 33) = (b == 33) := fun b => beq_u8 b 33 (by decide)
              rcases decl_cases s with ⟨d1, d2⟩ | ⟨d1, d2, d3⟩ | ⟨d1, d2, d3⟩
              · have D := Lib.hid d2
                clear d2
                go_wp2
                go_meet
                case rel => exact ⟨by rw [D.out], b2⟩
              · have D := Lib.hid d3
                have d4 : (s[1] == 33) = false := by simpa using d2
                clear d2 d3
                go_wp2
                go_meet
                case rel => exact ⟨by rw [D.out], b2⟩
              · have D := Lib.hid d3
                have d4 : (s[1] == 33) = true := by simpa using d2
                clear d2 d3
                go_wp2_with (go_at_call 53; (with_reducible refine (letter_b _ _).mono ?_); rintro e w4 ⟨rfl, rfl⟩)
                go_meet
                case rel => exact ⟨by rw [D.out], b2⟩
            case rest =>
              obtain ⟨rfl, b3⟩ := hcut
              have F := HF.out
              clear HF
              generalize Sc.decl s.data.toList = p4 at *
              generalize Lib.hasPrefix s.data.toList [60, 33, 91, 67, 68, 65, 84, 65, 91] = p5 at *
              cases p4 with
              | true =>
                rw [if_pos rfl] at F
                have HF := Lib.hid F
                clear F
                go_wp2
                go_ret
                exact ⟨by rw [HF.out]; rfl, b3⟩
              | false =>
                rw [if_neg (by simp)] at F
                cases p5 with
                | true =>
                  rw [if_pos rfl] at F
                  have HF := Lib.hid F
                  clear F
                  go_wp2_with (go_at_call 51; (with_reducible refine (H9 _).mono ?_); rintro e w3 ⟨rfl, rfl⟩)
                  go_ret
                  exact ⟨by rw [HF.out]; rfl, b3⟩
                | false =>
                  rw [if_neg (by simp)] at F
                  have CP : ∀ w, Calls Tryz.prog 54 #[.string s, .string ⟨#[60, 47]⟩] w fun e w' => e = .returned (.tuple #[.string (mk (Lib.trimPrefix s.data.toList [60, 47])), .bool (Lib.hasPrefix s.data.toList [60, 47])]) ∧ w = w' := fun w => cutPrefix_any s ⟨#[60, 47]⟩ w
                  have hfin : ∃ nm2 rs2 : ByteArray, Small nm2 ∧ Small rs2 ∧ X = Sc.htmlTail s.data.toList nm2.data.toList rs2.data.toList ∧ (Lib.hasPrefix s.data.toList [60, 47] = true → ∀ w, Calls Tryz.prog 28 #[.string (mk (Lib.trimPrefix s.data.toList [60, 47]))] w fun e w' => e = .returned (.tuple #[.string nm2, .string rs2]) ∧ Below w.heap.size w w') ∧ (Lib.hasPrefix s.data.toList [60, 47] = false → nm2 = nm ∧ rs2 = rs) := by
                    cases h : Lib.hasPrefix s.data.toList [60, 47] with
                    | true =>
                      rw [h, if_pos rfl] at F
                      have hz : ∀ l : List UInt8, l.length ≤ s.size → Small (mk l) := fun l hl => by unfold Small; rw [mk_size]; omega
                      have hd2 : (s.data.toList.drop 2).length ≤ s.size := by simp
                      have ht : Lib.trimPrefix s.data.toList [60, 47] = s.data.toList.drop 2 := by unfold Lib.trimPrefix; rw [h]; rfl
                      have k1 := Sc.named_len1 (s.data.toList.drop 2)
                      have k2 := Sc.named_len (s.data.toList.drop 2)
                      refine ⟨mk (Sc.named (s.data.toList.drop 2)).1, mk (Sc.named (s.data.toList.drop 2)).2, hz _ (by omega), hz _ (by omega), F, (fun _ w => ?_), (fun h => by cases h)⟩
                      rw [ht]
                      refine (named_any (mk (s.data.toList.drop 2)) w (hz _ hd2)).mono ?_
                      rintro e w' ⟨a, b, he, ha, hb, hbe⟩
                      exact ⟨by rw [he, mk_of ha, mk_of hb, mk_data], hbe⟩
                    | false =>
                      rw [h, if_neg (by simp)] at F
                      exact ⟨nm, rs, hznm, hzrs, (by rw [hnm, hrs]; exact F), (fun h => by cases h), fun _ => ⟨rfl, rfl⟩⟩
                  obtain ⟨nm2, rs2, hz2, hz3, F, K1, K2⟩ := hfin
                  have HF := Lib.hid F
                  clear F
                  go_upto_if 57 with (first
                    | (go_at_call 51; (with_reducible refine (H9 _).mono ?_); rintro e w3 ⟨rfl, rfl⟩)
                    | (go_at_call 54; (with_reducible refine (CP _).mono ?_); rintro e w3 ⟨rfl, rfl⟩))
                  go_cut [3, 4, 6] (fun a b _ wx => a = .string nm2 ∧ b = .string rs2 ∧ Below w.heap.size w wx)
                  case first =>
                    cases h : Lib.hasPrefix s.data.toList [60, 47] with
                    | true =>
                      have K1 := K1 h
                      clear K2
                      go_wp2_with (go_at_call 28; (with_reducible refine (K1 _).mono ?_); rintro e w4 ⟨rfl, b4⟩)
                      go_meet
                      case rel => exact ⟨rfl, rfl, b3.trans (b4.mono b3.size)⟩
                    | false =>
                      obtain ⟨rfl, rfl⟩ := K2 h
                      clear K1 K2
                      go_wp2
                      go_meet
                      case rel => exact ⟨rfl, rfl, b3⟩
                  case rest =>
                    obtain ⟨rfl, rfl, b4⟩ := hcut
                    clear K1 K2
                    go_upto_region 17 with fail
                    go_cut [77] (fun c wx => c = .bool (Sc.blocks.contains (Sc.lower nm2.data.toList) && Sc.afterBlock rs2.data.toList) ∧ Below w.heap.size w wx)
                    case first =>
                      have RW := fun w => block_any nm2 w hz2
                      have PF : ∀ w, Calls Tryz.prog 51 #[.string rs2, .string ⟨#[47, 62]⟩] w fun e w' => e = .returned (.bool (Lib.hasPrefix rs2.data.toList [47, 62])) ∧ w = w' := fun w => prefix_any rs2 ⟨#[47, 62]⟩ w
                      have EN := fun w => ends_any rs2 w
                      have AF := after_cases rs2
                      have AB : Sc.afterBlock rs2.data.toList = (Sc.afterRaw rs2.data.toList || Lib.hasPrefix rs2.data.toList [47, 62]) := rfl
                      generalize Sc.blocks.contains (Sc.lower nm2.data.toList) = r1 at *
                      generalize Sc.afterBlock rs2.data.toList = ab at *
                      generalize Sc.afterRaw rs2.data.toList = a1 at *
                      generalize Sc.ends rs2.data.toList = e1 at *
                      generalize Lib.hasPrefix rs2.data.toList [47, 62] = q1 at *
                      have HAB := Lib.hid AB
                      clear AB
                      cases r1 with
                      | false =>
                        go_wp2_with (go_at_call 55; (with_reducible refine (RW _).mono ?_); rintro e w5 ⟨rfl, b5⟩)
                        go_meet
                        case rel => exact ⟨rfl, b4.trans (b5.mono b4.size)⟩
                      | true =>
                        rcases AF with ⟨h1, h2⟩ | ⟨h1, hz, h2⟩
                        · subst h1
                          have H2 := Lib.hid h2
                          clear h2
                          go_wp2_with (first
                            | (go_at_call 55; (with_reducible refine (RW _).mono ?_); rintro e w5 ⟨rfl, b5⟩)
                            | (go_at_call 36; (with_reducible refine (EN _).mono ?_); rintro e w6 ⟨rfl, rfl⟩))
                          go_meet
                          case rel => exact ⟨by rw [HAB.out, H2.out]; rfl, b4.trans (b5.mono b4.size)⟩
                        · subst h1
                          have H2 := Lib.hid h2
                          clear h2
                          cases hq : (rs2[0] == 62) with
                          | true =>
                            go_wp2_with (first
                              | (go_at_call 55; (with_reducible refine (RW _).mono ?_); rintro e w5 ⟨rfl, b5⟩)
                              | (go_at_call 36; (with_reducible refine (EN _).mono ?_); rintro e w6 ⟨rfl, rfl⟩))
                            go_meet
                            case rel => exact ⟨by rw [HAB.out, H2.out, hq]; rfl, b4.trans (b5.mono b4.size)⟩
                          | false =>
                            go_wp2_with (first
                              | (go_at_call 55; (with_reducible refine (RW _).mono ?_); rintro e w5 ⟨rfl, b5⟩)
                              | (go_at_call 36; (with_reducible refine (EN _).mono ?_); rintro e w6 ⟨rfl, rfl⟩)
                              | (go_at_call 51; (with_reducible refine (PF _).mono ?_); rintro e w6 ⟨rfl, rfl⟩))
                            go_meet
                            case rel => exact ⟨by rw [HAB.out, H2.out, hq]; rfl, b4.trans (b5.mono b4.size)⟩
                    case rest =>
                      obtain ⟨rfl, b5⟩ := hcut
                      have F : X = if (Sc.blocks.contains (Sc.lower nm2.data.toList) && Sc.afterBlock rs2.data.toList) = true then 6
                        else if (decide (0 < Sc.tag s.data.toList) && !Sc.raws.contains (Sc.lower nm2.data.toList) && Sc.blanks (s.data.toList.drop (Sc.tag s.data.toList))) = true then 7 else 0 := HF.out
                      clear HF
                      generalize (Sc.blocks.contains (Sc.lower nm2.data.toList) && Sc.afterBlock rs2.data.toList) = p7 at *
                      have RW := fun w => raw_any nm2 w hz2
                      generalize Sc.raws.contains (Sc.lower nm2.data.toList) = r2 at *
                      have TG := fun w => tag_any s w (by unfold Small; omega)
                      have tl := Sc.tag_le s.data.toList
                      rw [Sc.len_size] at tl
                      have hd := Sc.drop_data s (Sc.tag s.data.toList)
                      have BL := fun w => blank_any (s.extract (Sc.tag s.data.toList) s.size) w (by unfold Small; rw [← Sc.len_size, hd]; simp; omega)
                      rw [hd] at BL
                      clear hd
                      generalize Sc.tag s.data.toList = n at *
                      generalize Sc.blanks (s.data.toList.drop n) = bl at *
                      cases p7 with
                      | true =>
                        rw [if_pos rfl] at F
                        have HF := Lib.hid F
                        clear F
                        go_wp2
                        go_ret
                        exact ⟨by rw [HF.out]; rfl, b5⟩
                      | false =>
                        rw [if_neg (by simp)] at F
                        by_cases hn : 0 < n
                        · cases r2 with
                          | true =>
                            rw [if_neg (by simp)] at F
                            have HF := Lib.hid F
                            clear F
                            go_wp2_with (first
                              | (go_at_call 7; (with_reducible refine (TG _).mono ?_); rintro e w6 ⟨rfl, b6⟩)
                              | (go_at_call 52; (with_reducible refine (RW _).mono ?_); rintro e w7 ⟨rfl, b7⟩))
                            go_ret
                            exact ⟨by rw [HF.out]; rfl, b5.trans ((b6.mono b5.size).trans (b7.mono (Nat.le_trans b5.size b6.size)))⟩
                          | false =>
                            have HF := Lib.hid F
                            clear F
                            cases bl with
                            | true =>
                              go_wp2_with (first
                                | (go_at_call 7; (with_reducible refine (TG _).mono ?_); rintro e w6 ⟨rfl, b6⟩)
                                | (go_at_call 52; (with_reducible refine (RW _).mono ?_); rintro e w7 ⟨rfl, b7⟩)
                                | (go_at_call 50; (with_reducible refine (BL _).mono ?_); rintro e w8 ⟨rfl, b8⟩))
                              go_ret
                              exact ⟨by rw [HF.out]; simp [hn], b5.trans ((b6.mono b5.size).trans ((b7.mono (Nat.le_trans b5.size b6.size)).trans (b8.mono (Nat.le_trans (Nat.le_trans b5.size b6.size) b7.size))))⟩
                            | false =>
                              go_wp2_with (first
                                | (go_at_call 7; (with_reducible refine (TG _).mono ?_); rintro e w6 ⟨rfl, b6⟩)
                                | (go_at_call 52; (with_reducible refine (RW _).mono ?_); rintro e w7 ⟨rfl, b7⟩)
                                | (go_at_call 50; (with_reducible refine (BL _).mono ?_); rintro e w8 ⟨rfl, b8⟩))
                              go_ret
                              exact ⟨by rw [HF.out]; simp [hn], b5.trans ((b6.mono b5.size).trans ((b7.mono (Nat.le_trans b5.size b6.size)).trans (b8.mono (Nat.le_trans (Nat.le_trans b5.size b6.size) b7.size))))⟩
                        · have hn0 : n = 0 := by omega
                          subst hn0
                          rw [if_neg (by simp)] at F
                          have HF := Lib.hid F
                          clear F
                          go_wp2_with (go_at_call 7; (with_reducible refine (TG _).mono ?_); rintro e w6 ⟨rfl, b6⟩)
                          go_ret
                          exact ⟨by rw [HF.out]; rfl, b5.trans (b6.mono b5.size)⟩
end Go.Proofs.YtokhibghnpcogaaGreatDoor
