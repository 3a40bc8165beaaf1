/- Parts of this session's proof, one behind the other: Html3 Html4 Bk. -/
import Derived.Test.YtehmcahdjldhbaaGreatDoorZ05
import Derived.Deep.DeepCutAuto
section
/- The walk of scan.HtmlStart. -/
open Go Go.RowKit
set_option linter.unusedVariables false
set_option linter.unusedSimpArgs false
set_option maxRecDepth 100000
namespace Go.Proofs.YtehmcahdjldhbaaGreatDoor
open Wk
namespace Sc
def afterRaw (r : List UInt8) : Bool := ends r || (match r with | b :: _ => b == 62 | [] => false)
def afterBlock (r : List UInt8) : Bool := afterRaw r || Lib.hasPrefix r [47, 62]
def decl : List UInt8 → Bool
  | _ :: b :: c :: _ => b == 33 && letter c
  | _ => false
def htmlTail (l nm r : List UInt8) : Nat :=
  if (blocks.contains (lower nm) && afterBlock r) = true then 6
  else if (decide (0 < tag l) && !raws.contains (lower nm) && blanks (l.drop (tag l))) = true then 7 else 0
def htmlRest (l : List UInt8) (q : List UInt8 × List UInt8) : Nat :=
  if decl l = true then 4
  else if Lib.hasPrefix l [60, 33, 91, 67, 68, 65, 84, 65, 91] = true then 5
  else if Lib.hasPrefix l [60, 47] = true then htmlTail l (named (l.drop 2)).1 (named (l.drop 2)).2
  else htmlTail l q.1 q.2
def htmlStart (l : List UInt8) : Nat :=
  if Lib.hasPrefix l [60] = false then 0
  else if (raws.contains (lower (named (l.drop 1)).1) && afterRaw (named (l.drop 1)).2) = true then 1
  else if Lib.hasPrefix l [60, 33, 45, 45] = true then 2
  else if Lib.hasPrefix l [60, 63] = true then 3
  else htmlRest l (named (l.drop 1))
theorem named_len1 (l : List UInt8) : (named l).1.length ≤ l.length := by
  cases l with
  | nil => simp [named]
  | cons b t =>
    rw [named]
    split
    · have := len_takeDrop (p := nameByte) t; simp; omega
    · simp
theorem tag_le (l : List UInt8) : tag l ≤ l.length := by
  unfold tag; split <;> omega
end Sc
/-- Behind a name: an end, or a byte that may be ">". -/
theorem after_cases (rs : ByteArray) : (Sc.ends rs.data.toList = true ∧ Sc.afterRaw rs.data.toList = true) ∨ (Sc.ends rs.data.toList = false ∧ ∃ h : 0 < rs.size, Sc.afterRaw rs.data.toList = (rs[0] == 62)) := by
  unfold Sc.afterRaw
  cases h : Sc.ends rs.data.toList with
  | true => exact .inl ⟨rfl, rfl⟩
  | false =>
    have hne : rs.data.toList ≠ [] := by intro e; rw [e] at h; simp [Sc.ends] at h
    have hz := Sc.size_pos hne
    refine .inr ⟨rfl, hz, ?_⟩
    have E := Sc.head_of hz
    generalize rs.data.toList = l at *
    rw [E]
    simp
/-- '<!' and a letter. -/
theorem decl_cases (s : ByteArray) : (s.size ≤ 2 ∧ Sc.decl s.data.toList = false) ∨ (∃ h : 2 < s.size, s[1] ≠ 33 ∧ Sc.decl s.data.toList = false) ∨ (∃ h : 2 < s.size, s[1] = 33 ∧ Sc.decl s.data.toList = Sc.letter s[2]) := by
  by_cases h : 2 < s.size
  · have e0 := Sc.drop_at s 0 (by omega)
    have e1 := Sc.drop_at s 1 (by omega)
    have e2 := Sc.drop_at s 2 h
    rw [e1, e2] at e0
    have E : Sc.decl s.data.toList = (s[1] == 33 && Sc.letter s[2]) := by
      have : s.data.toList = s[0] :: s[1] :: s[2] :: s.data.toList.drop 3 := by simpa using e0
      rw [this]; rfl
    by_cases h1 : s[1] = 33
    · exact .inr (.inr ⟨h, h1, by rw [E, h1]; rfl⟩)
    · exact .inr (.inl ⟨h, h1, by rw [E]; simp [h1]⟩)
  · refine .inl ⟨by omega, ?_⟩
    have hl := Sc.len_size s
    match e : s.data.toList with
    | [] => rfl
    | [_] => rfl
    | [_, _] => rfl
    | _ :: _ :: _ :: _ => rw [e] at hl; simp at hl; omega
theorem prefix_any (s p : ByteArray) (w : World) : Calls Tryz.prog 30 #[.string s, .string p] w fun e w' => e = .returned (.bool (Lib.hasPrefix s.data.toList p.data.toList)) ∧ w = w' :=
  (Tryz.strings_HasPrefix s p w).mono fun _ _ ⟨h1, h2⟩ => ⟨h1, h2.symm⟩
theorem cutPrefix_any (s p : ByteArray) (w : World) : Calls Tryz.prog 28 #[.string s, .string p] w fun e w' => e = .returned (.tuple #[.string (mk (Lib.trimPrefix s.data.toList p.data.toList)), .bool (Lib.hasPrefix s.data.toList p.data.toList)]) ∧ w = w' :=
  (Tryz.strings_CutPrefix s p w).mono fun _ _ ⟨h1, h2⟩ => ⟨h1, h2.symm⟩
set_option maxHeartbeats 4000000 in
theorem htmlStart_any (s : ByteArray) (w : World) (hs : Small s) :
    Calls Tryz.prog 81 #[.string s] w fun e w' => e = .returned (.int .i64 (Sc.htmlStart s.data.toList)) ∧ Below w.heap.size w w' := by
  have HP := fun (p : ByteArray) (w : World) => prefix_any s p w
  have F : Sc.htmlStart s.data.toList = if Lib.hasPrefix s.data.toList [60] = false then 0
    else if (Sc.raws.contains (Sc.lower (Sc.named (s.data.toList.drop 1)).1) && Sc.afterRaw (Sc.named (s.data.toList.drop 1)).2) = true then 1
    else if Lib.hasPrefix s.data.toList [60, 33, 45, 45] = true then 2
    else if Lib.hasPrefix s.data.toList [60, 63] = true then 3
    else Sc.htmlRest s.data.toList (Sc.named (s.data.toList.drop 1)) := rfl
  have G : ∀ q, Sc.htmlRest s.data.toList q = if Sc.decl s.data.toList = true then 4
    else if Lib.hasPrefix s.data.toList [60, 33, 91, 67, 68, 65, 84, 65, 91] = true then 5
    else if Lib.hasPrefix s.data.toList [60, 47] = true then Sc.htmlTail s.data.toList (Sc.named (s.data.toList.drop 2)).1 (Sc.named (s.data.toList.drop 2)).2
    else Sc.htmlTail s.data.toList q.1 q.2 := fun q => rfl
  generalize Sc.htmlStart s.data.toList = X at *
  unfold Small at hs
  cases h60 : Lib.hasPrefix s.data.toList [60] with
  | false =>
    rw [if_pos h60] at F
    subst F
    have HP0 := fun w => HP ⟨#[60]⟩ w
    have e60 : (⟨#[60]⟩ : ByteArray).data.toList = [60] := rfl
    rw [e60, h60] at HP0
    go_enter Tryz.func81, Tryz.ntmps81
    go_wp2_with (go_at_call 30; (with_reducible refine (HP0 _).mono ?_); rintro e w1 ⟨rfl, rfl⟩)
    go_ret
    exact ⟨rfl, Below.refl _ _⟩
  | true =>
    rw [if_neg (by rw [h60]; simp)] at F
    have HP0 := fun w => HP ⟨#[60]⟩ w
    have e60 : (⟨#[60]⟩ : ByteArray).data.toList = [60] := rfl
    rw [e60, h60] at HP0
    have hd1 := Sc.drop_data s 1
    have hz1 : (s.extract 1 s.size).size ≤ s.size := by rw [← Sc.len_size, hd1]; simp
    have NM := fun w => named_any (s.extract 1 s.size) w (by omega)
    rw [hd1] at NM
    have hl1 := Sc.named_len1 (s.data.toList.drop 1)
    have hl2 := Sc.named_len (s.data.toList.drop 1)
    have hl3 : (s.data.toList.drop 1).length ≤ s.size := by simp
    have hsz : 1 ≤ s.size := by
      cases hl : s.data.toList with
      | nil => rw [hl] at h60; simp [Lib.hasPrefix] at h60
      | cons b t => rw [← Sc.len_size, hl]; simp
    have HF := Lib.hid F
    clear F
    go_enter Tryz.func81, Tryz.ntmps81
    go_upto_region 4 with (first
      | (go_at_call 30; (with_reducible refine (HP0 _).mono ?_); rintro e w1 ⟨rfl, rfl⟩)
      | (go_at_call 114; (with_reducible refine (NM _).mono ?_); rintro e w1 ⟨nm, rs, rfl, hnm, hrs, b1⟩))
    have hznm : Small nm := by unfold Small; rw [← Sc.len_size, hnm]; omega
    have hzrs : Small rs := by unfold Small; rw [← Sc.len_size, hrs]; omega
    have e62 : ∀ b : UInt8, ((b.toNat : Int) == 62) = (b == 62) := fun b => beq_u8 b 62 (by decide)
    go_cut [17] (fun c wx => c = .bool (Sc.raws.contains (Sc.lower nm.data.toList) && Sc.afterRaw rs.data.toList) ∧ Below w1.heap.size w1 wx)
    case first =>
      have RW := fun w => raw_any nm w hznm
      generalize Sc.raws.contains (Sc.lower nm.data.toList) = r1 at *
      have EN := fun w => ends_any rs w
      have AF := after_cases rs
      generalize Sc.afterRaw rs.data.toList = a1 at *
      generalize Sc.ends rs.data.toList = e1 at *
      cases r1 with
      | false =>
        go_wp2_with (first
          | (go_at_call 115; (with_reducible refine (RW _).mono ?_); rintro e w2 ⟨rfl, b2⟩)
          | (go_at_call 110; (with_reducible refine (EN _).mono ?_); rintro e w3 ⟨rfl, rfl⟩))
        go_meet
        case rel => exact ⟨rfl, b2⟩
      | true =>
        rcases AF with ⟨h1, h2⟩ | ⟨h1, hz, h2⟩
        · subst h1 h2
          go_wp2_with (first
            | (go_at_call 115; (with_reducible refine (RW _).mono ?_); rintro e w2 ⟨rfl, b2⟩)
            | (go_at_call 110; (with_reducible refine (EN _).mono ?_); rintro e w3 ⟨rfl, rfl⟩))
          go_meet
          case rel => exact ⟨rfl, b2⟩
        · subst h1
          go_wp2_with (first
            | (go_at_call 115; (with_reducible refine (RW _).mono ?_); rintro e w2 ⟨rfl, b2⟩)
            | (go_at_call 110; (with_reducible refine (EN _).mono ?_); rintro e w3 ⟨rfl, rfl⟩))
          go_meet
          case rel => exact ⟨by rw [h2]; rfl, b2⟩
    case rest =>
      obtain ⟨rfl, b2⟩ := hcut
      have b2 := b1.trans (b2.mono b1.size)
      have F := HF.out
      rw [← hnm, ← hrs] at F
      clear HF
      have HPn := fun (l : List UInt8) (w : World) => HP (mk l) w
      have H4 : ∀ w, Calls Tryz.prog 30 #[.string s, .string ⟨#[60, 33, 45, 45]⟩] w fun e w' => e = .returned (.bool (Lib.hasPrefix s.data.toList [60, 33, 45, 45])) ∧ w = w' := HP ⟨#[60, 33, 45, 45]⟩
      have H2 : ∀ w, Calls Tryz.prog 30 #[.string s, .string ⟨#[60, 63]⟩] w fun e w' => e = .returned (.bool (Lib.hasPrefix s.data.toList [60, 63])) ∧ w = w' := HP ⟨#[60, 63]⟩
      have H9 : ∀ w, Calls Tryz.prog 30 #[.string s, .string ⟨#[60, 33, 91, 67, 68, 65, 84, 65, 91]⟩] w fun e w' => e = .returned (.bool (Lib.hasPrefix s.data.toList [60, 33, 91, 67, 68, 65, 84, 65, 91])) ∧ w = w' := HP ⟨#[60, 33, 91, 67, 68, 65, 84, 65, 91]⟩
      clear HP HPn HP0
      generalize (Sc.raws.contains (Sc.lower nm.data.toList) && Sc.afterRaw rs.data.toList) = p1 at *
      generalize Lib.hasPrefix s.data.toList [60, 33, 45, 45] = p2 at *
      generalize Lib.hasPrefix s.data.toList [60, 63] = p3 at *
      cases p1 with
      | true =>
        rw [if_pos rfl] at F
        have HF := Lib.hid F
        clear F
        go_wp2
        go_ret
        exact ⟨by rw [HF.out]; rfl, b2⟩
      | false =>
        rw [if_neg (by simp)] at F
        cases p2 with
        | true =>
          rw [if_pos rfl] at F
          have HF := Lib.hid F
          clear F
          go_wp2_with (go_at_call 30; (with_reducible refine (H4 _).mono ?_); rintro e w3 ⟨rfl, rfl⟩)
          go_ret
          exact ⟨by rw [HF.out]; rfl, b2⟩
        | false =>
          rw [if_neg (by simp)] at F
          cases p3 with
          | true =>
            rw [if_pos rfl] at F
            have HF := Lib.hid F
            clear F
            go_wp2_with (first
              | (go_at_call 30; (with_reducible refine (H4 _).mono ?_); rintro e w3 ⟨rfl, rfl⟩)
              | (go_at_call 30; (with_reducible refine (H2 _).mono ?_); rintro e w3 ⟨rfl, rfl⟩))
            go_ret
            exact ⟨by rw [HF.out]; rfl, b2⟩
          | false =>
            rw [if_neg (by simp), G] at F
            have HF := Lib.hid F
            clear F G
            go_upto_region 10 with (first
              | (go_at_call 30; (with_reducible refine (H4 _).mono ?_); rintro e w3 ⟨rfl, rfl⟩)
              | (go_at_call 30; (with_reducible refine (H2 _).mono ?_); rintro e w3 ⟨rfl, rfl⟩))
            go_cut [35] (fun c wx => c = .bool (Sc.decl s.data.toList) ∧ Below w.heap.size w wx)
            case first =>
              have e33 : ∀ b : UInt8, ((b.toNat : Int) == 33) = (b == 33) := fun b => beq_u8 b 33 (by decide)
              rcases decl_cases s with ⟨d1, d2⟩ | ⟨d1, d2, d3⟩ | ⟨d1, d2, d3⟩
              · have D := Lib.hid d2
                clear d2
                go_wp2
                go_meet
                case rel => exact ⟨by rw [D.out], b2⟩
              · have D := Lib.hid d3
                have d4 : (s[1] == 33) = false := by simpa using d2
                clear d2 d3
                go_wp2
                go_meet
                case rel => exact ⟨by rw [D.out], b2⟩
              · have D := Lib.hid d3
                have d4 : (s[1] == 33) = true := by simpa using d2
                clear d2 d3
                go_wp2_with (go_at_call 116; (with_reducible refine (letter_b _ _).mono ?_); rintro e w4 ⟨rfl, rfl⟩)
                go_meet
                case rel => exact ⟨by rw [D.out], b2⟩
            case rest =>
              obtain ⟨rfl, b3⟩ := hcut
              have F := HF.out
              clear HF
              generalize Sc.decl s.data.toList = p4 at *
              generalize Lib.hasPrefix s.data.toList [60, 33, 91, 67, 68, 65, 84, 65, 91] = p5 at *
              cases p4 with
              | true =>
                rw [if_pos rfl] at F
                have HF := Lib.hid F
                clear F
                go_wp2
                go_ret
                exact ⟨by rw [HF.out]; rfl, b3⟩
              | false =>
                rw [if_neg (by simp)] at F
                cases p5 with
                | true =>
                  rw [if_pos rfl] at F
                  have HF := Lib.hid F
                  clear F
                  go_wp2_with (go_at_call 30; (with_reducible refine (H9 _).mono ?_); rintro e w3 ⟨rfl, rfl⟩)
                  go_ret
                  exact ⟨by rw [HF.out]; rfl, b3⟩
                | false =>
                  rw [if_neg (by simp)] at F
                  have CP : ∀ w, Calls Tryz.prog 28 #[.string s, .string ⟨#[60, 47]⟩] w fun e w' => e = .returned (.tuple #[.string (mk (Lib.trimPrefix s.data.toList [60, 47])), .bool (Lib.hasPrefix s.data.toList [60, 47])]) ∧ w = w' := fun w => cutPrefix_any s ⟨#[60, 47]⟩ w
                  have hfin : ∃ nm2 rs2 : ByteArray, Small nm2 ∧ Small rs2 ∧ X = Sc.htmlTail s.data.toList nm2.data.toList rs2.data.toList ∧ (Lib.hasPrefix s.data.toList [60, 47] = true → ∀ w, Calls Tryz.prog 114 #[.string (mk (Lib.trimPrefix s.data.toList [60, 47]))] w fun e w' => e = .returned (.tuple #[.string nm2, .string rs2]) ∧ Below w.heap.size w w') ∧ (Lib.hasPrefix s.data.toList [60, 47] = false → nm2 = nm ∧ rs2 = rs) := by
                    cases h : Lib.hasPrefix s.data.toList [60, 47] with
                    | true =>
                      rw [h, if_pos rfl] at F
                      have hz : ∀ l : List UInt8, l.length ≤ s.size → Small (mk l) := fun l hl => by unfold Small; rw [mk_size]; omega
                      have hd2 : (s.data.toList.drop 2).length ≤ s.size := by simp
                      have ht : Lib.trimPrefix s.data.toList [60, 47] = s.data.toList.drop 2 := by unfold Lib.trimPrefix; rw [h]; rfl
                      have k1 := Sc.named_len1 (s.data.toList.drop 2)
                      have k2 := Sc.named_len (s.data.toList.drop 2)
                      refine ⟨mk (Sc.named (s.data.toList.drop 2)).1, mk (Sc.named (s.data.toList.drop 2)).2, hz _ (by omega), hz _ (by omega), F, (fun _ w => ?_), (fun h => by cases h)⟩
                      rw [ht]
                      refine (named_any (mk (s.data.toList.drop 2)) w (hz _ hd2)).mono ?_
                      rintro e w' ⟨a, b, he, ha, hb, hbe⟩
                      exact ⟨by rw [he, mk_of ha, mk_of hb, mk_data], hbe⟩
                    | false =>
                      rw [h, if_neg (by simp)] at F
                      exact ⟨nm, rs, hznm, hzrs, (by rw [hnm, hrs]; exact F), (fun h => by cases h), fun _ => ⟨rfl, rfl⟩⟩
                  obtain ⟨nm2, rs2, hz2, hz3, F, K1, K2⟩ := hfin
                  have HF := Lib.hid F
                  clear F
                  go_upto_if 57 with (first
                    | (go_at_call 30; (with_reducible refine (H9 _).mono ?_); rintro e w3 ⟨rfl, rfl⟩)
                    | (go_at_call 28; (with_reducible refine (CP _).mono ?_); rintro e w3 ⟨rfl, rfl⟩))
                  go_cut [3, 4, 6] (fun a b _ wx => a = .string nm2 ∧ b = .string rs2 ∧ Below w.heap.size w wx)
                  case first =>
                    cases h : Lib.hasPrefix s.data.toList [60, 47] with
                    | true =>
                      have K1 := K1 h
                      clear K2
                      go_wp2_with (go_at_call 114; (with_reducible refine (K1 _).mono ?_); rintro e w4 ⟨rfl, b4⟩)
                      go_meet
                      case rel => exact ⟨rfl, rfl, b3.trans (b4.mono b3.size)⟩
                    | false =>
                      obtain ⟨rfl, rfl⟩ := K2 h
                      clear K1 K2
                      go_wp2
                      go_meet
                      case rel => exact ⟨rfl, rfl, b3⟩
                  case rest =>
                    obtain ⟨rfl, rfl, b4⟩ := hcut
                    clear K1 K2
                    go_upto_region 17 with fail
                    go_cut [77] (fun c wx => c = .bool (Sc.blocks.contains (Sc.lower nm2.data.toList) && Sc.afterBlock rs2.data.toList) ∧ Below w.heap.size w wx)
                    case first =>
                      have RW := fun w => block_any nm2 w hz2
                      have PF : ∀ w, Calls Tryz.prog 30 #[.string rs2, .string ⟨#[47, 62]⟩] w fun e w' => e = .returned (.bool (Lib.hasPrefix rs2.data.toList [47, 62])) ∧ w = w' := fun w => prefix_any rs2 ⟨#[47, 62]⟩ w
                      have EN := fun w => ends_any rs2 w
                      have AF := after_cases rs2
                      have AB : Sc.afterBlock rs2.data.toList = (Sc.afterRaw rs2.data.toList || Lib.hasPrefix rs2.data.toList [47, 62]) := rfl
                      generalize Sc.blocks.contains (Sc.lower nm2.data.toList) = r1 at *
                      generalize Sc.afterBlock rs2.data.toList = ab at *
                      generalize Sc.afterRaw rs2.data.toList = a1 at *
                      generalize Sc.ends rs2.data.toList = e1 at *
                      generalize Lib.hasPrefix rs2.data.toList [47, 62] = q1 at *
                      have HAB := Lib.hid AB
                      clear AB
                      cases r1 with
                      | false =>
                        go_wp2_with (go_at_call 117; (with_reducible refine (RW _).mono ?_); rintro e w5 ⟨rfl, b5⟩)
                        go_meet
                        case rel => exact ⟨rfl, b4.trans (b5.mono b4.size)⟩
                      | true =>
                        rcases AF with ⟨h1, h2⟩ | ⟨h1, hz, h2⟩
                        · subst h1
                          have H2 := Lib.hid h2
                          clear h2
                          go_wp2_with (first
                            | (go_at_call 117; (with_reducible refine (RW _).mono ?_); rintro e w5 ⟨rfl, b5⟩)
                            | (go_at_call 110; (with_reducible refine (EN _).mono ?_); rintro e w6 ⟨rfl, rfl⟩))
                          go_meet
                          case rel => exact ⟨by rw [HAB.out, H2.out]; rfl, b4.trans (b5.mono b4.size)⟩
                        · subst h1
                          have H2 := Lib.hid h2
                          clear h2
                          cases hq : (rs2[0] == 62) with
                          | true =>
                            go_wp2_with (first
                              | (go_at_call 117; (with_reducible refine (RW _).mono ?_); rintro e w5 ⟨rfl, b5⟩)
                              | (go_at_call 110; (with_reducible refine (EN _).mono ?_); rintro e w6 ⟨rfl, rfl⟩))
                            go_meet
                            case rel => exact ⟨by rw [HAB.out, H2.out, hq]; rfl, b4.trans (b5.mono b4.size)⟩
                          | false =>
                            go_wp2_with (first
                              | (go_at_call 117; (with_reducible refine (RW _).mono ?_); rintro e w5 ⟨rfl, b5⟩)
                              | (go_at_call 110; (with_reducible refine (EN _).mono ?_); rintro e w6 ⟨rfl, rfl⟩)
                              | (go_at_call 30; (with_reducible refine (PF _).mono ?_); rintro e w6 ⟨rfl, rfl⟩))
                            go_meet
                            case rel => exact ⟨by rw [HAB.out, H2.out, hq]; rfl, b4.trans (b5.mono b4.size)⟩
                    case rest =>
                      obtain ⟨rfl, b5⟩ := hcut
                      have F : X = if (Sc.blocks.contains (Sc.lower nm2.data.toList) && Sc.afterBlock rs2.data.toList) = true then 6
                        else if (decide (0 < Sc.tag s.data.toList) && !Sc.raws.contains (Sc.lower nm2.data.toList) && Sc.blanks (s.data.toList.drop (Sc.tag s.data.toList))) = true then 7 else 0 := HF.out
                      clear HF
                      generalize (Sc.blocks.contains (Sc.lower nm2.data.toList) && Sc.afterBlock rs2.data.toList) = p7 at *
                      have RW := fun w => raw_any nm2 w hz2
                      generalize Sc.raws.contains (Sc.lower nm2.data.toList) = r2 at *
                      have TG := fun w => tag_any s w (by unfold Small; omega)
                      have tl := Sc.tag_le s.data.toList
                      rw [Sc.len_size] at tl
                      have hd := Sc.drop_data s (Sc.tag s.data.toList)
                      have BL := fun w => blank_any (s.extract (Sc.tag s.data.toList) s.size) w (by unfold Small; rw [← Sc.len_size, hd]; simp; omega)
                      rw [hd] at BL
                      clear hd
                      generalize Sc.tag s.data.toList = n at *
                      generalize Sc.blanks (s.data.toList.drop n) = bl at *
                      cases p7 with
                      | true =>
                        rw [if_pos rfl] at F
                        have HF := Lib.hid F
                        clear F
                        go_wp2
                        go_ret
                        exact ⟨by rw [HF.out]; rfl, b5⟩
                      | false =>
                        rw [if_neg (by simp)] at F
                        by_cases hn : 0 < n
                        · cases r2 with
                          | true =>
                            rw [if_neg (by simp)] at F
                            have HF := Lib.hid F
                            clear F
                            go_wp2_with (first
                              | (go_at_call 118; (with_reducible refine (TG _).mono ?_); rintro e w6 ⟨rfl, b6⟩)
                              | (go_at_call 115; (with_reducible refine (RW _).mono ?_); rintro e w7 ⟨rfl, b7⟩))
                            go_ret
                            exact ⟨by rw [HF.out]; rfl, b5.trans ((b6.mono b5.size).trans (b7.mono (Nat.le_trans b5.size b6.size)))⟩
                          | false =>
                            have HF := Lib.hid F
                            clear F
                            cases bl with
                            | true =>
                              go_wp2_with (first
                                | (go_at_call 118; (with_reducible refine (TG _).mono ?_); rintro e w6 ⟨rfl, b6⟩)
                                | (go_at_call 115; (with_reducible refine (RW _).mono ?_); rintro e w7 ⟨rfl, b7⟩)
                                | (go_at_call 104; (with_reducible refine (BL _).mono ?_); rintro e w8 ⟨rfl, b8⟩))
                              go_ret
                              exact ⟨by rw [HF.out]; simp [hn], b5.trans ((b6.mono b5.size).trans ((b7.mono (Nat.le_trans b5.size b6.size)).trans (b8.mono (Nat.le_trans (Nat.le_trans b5.size b6.size) b7.size))))⟩
                            | false =>
                              go_wp2_with (first
                                | (go_at_call 118; (with_reducible refine (TG _).mono ?_); rintro e w6 ⟨rfl, b6⟩)
                                | (go_at_call 115; (with_reducible refine (RW _).mono ?_); rintro e w7 ⟨rfl, b7⟩)
                                | (go_at_call 104; (with_reducible refine (BL _).mono ?_); rintro e w8 ⟨rfl, b8⟩))
                              go_ret
                              exact ⟨by rw [HF.out]; simp [hn], b5.trans ((b6.mono b5.size).trans ((b7.mono (Nat.le_trans b5.size b6.size)).trans (b8.mono (Nat.le_trans (Nat.le_trans b5.size b6.size) b7.size))))⟩
                        · have hn0 : n = 0 := by omega
                          subst hn0
                          rw [if_neg (by simp)] at F
                          have HF := Lib.hid F
                          clear F
                          go_wp2_with (go_at_call 118; (with_reducible refine (TG _).mono ?_); rintro e w6 ⟨rfl, b6⟩)
                          go_ret
                          exact ⟨by rw [HF.out]; rfl, b5.trans (b6.mono b5.size)⟩
end Go.Proofs.YtehmcahdjldhbaaGreatDoor
end
section
/- The walk of scan.HtmlEnds. -/
open Go Go.RowKit
set_option linter.unusedVariables false
set_option linter.unusedSimpArgs false
set_option maxRecDepth 100000
namespace Go.Proofs.YtehmcahdjldhbaaGreatDoor
open Wk
namespace Sc
def rawEnds : List (List UInt8) := [[60, 47, 115, 99, 114, 105, 112, 116, 62], [60, 47, 112, 114, 101, 62], [60, 47, 115, 116, 121, 108, 101, 62], [60, 47, 116, 101, 120, 116, 97, 114, 101, 97, 62]]
def htmlEnds (l : List UInt8) (k : Int) : Bool :=
  if k = 1 then Lib.contains (lower l) [60, 47, 115, 99, 114, 105, 112, 116, 62] || (Lib.contains (lower l) [60, 47, 112, 114, 101, 62] || (Lib.contains (lower l) [60, 47, 115, 116, 121, 108, 101, 62] || Lib.contains (lower l) [60, 47, 116, 101, 120, 116, 97, 114, 101, 97, 62]))
  else if k = 2 then Lib.contains l [45, 45, 62]
  else if k = 3 then Lib.contains l [63, 62]
  else if k = 4 then Lib.contains l [62]
  else if k = 5 then Lib.contains l [93, 93, 62]
  else if k = 6 ∨ k = 7 then blanks l
  else false
end Sc
theorem contains_any (s sub : ByteArray) (w : World) (hs : Small s) (hE : Env w) :
    Calls Tryz.prog 106 #[.string s, .string sub] w fun e w' => e = .returned (.bool (Lib.contains s.data.toList sub.data.toList)) ∧ w = w' := by
  obtain ⟨m, hm⟩ := hE.ml
  exact (Go.Proofs.Any.strings_Contains { Tryz.laysM144 with } s sub m w (by unfold Small at hs; omega) hm).mono fun _ _ h => ⟨h.1, h.2.symm⟩
theorem lower_len (l : List UInt8) : (Sc.lower l).length = l.length := by unfold Sc.lower; simp
set_option maxHeartbeats 4000000 in
theorem htmlEnds_any (s : ByteArray) (k : Int) (w : World) (hs : Small s) (hE : Env w) :
    Calls Tryz.prog 76 #[.string s, .int .i64 k] w fun e w' => e = .returned (.bool (Sc.htmlEnds s.data.toList k)) ∧ Below w.heap.size w w' := by
  have CT := fun (t sub : ByteArray) w (ht : Small t) hE => contains_any t sub w ht hE
  by_cases k1 : k = 1
  · subst k1
    have F : Sc.htmlEnds s.data.toList 1 = (Lib.contains (Sc.lower s.data.toList) [60, 47, 115, 99, 114, 105, 112, 116, 62] || (Lib.contains (Sc.lower s.data.toList) [60, 47, 112, 114, 101, 62] || (Lib.contains (Sc.lower s.data.toList) [60, 47, 115, 116, 121, 108, 101, 62] || Lib.contains (Sc.lower s.data.toList) [60, 47, 116, 101, 120, 116, 97, 114, 101, 97, 62]))) := rfl
    have LW := fun w => lower_any s w hs
    have hls : Small (mk (Sc.lower s.data.toList)) := by unfold Small at *; rw [mk_size, lower_len, Sc.len_size]; exact hs
    have C1 : ∀ w, Env w → Calls Tryz.prog 106 #[.string (mk (Sc.lower s.data.toList)), .string ⟨#[60, 47, 115, 99, 114, 105, 112, 116, 62]⟩] w fun e w' => e = .returned (.bool (Lib.contains (Sc.lower s.data.toList) [60, 47, 115, 99, 114, 105, 112, 116, 62])) ∧ w = w' := fun w hE => CT _ _ w hls hE
    have C2 : ∀ w, Env w → Calls Tryz.prog 106 #[.string (mk (Sc.lower s.data.toList)), .string ⟨#[60, 47, 112, 114, 101, 62]⟩] w fun e w' => e = .returned (.bool (Lib.contains (Sc.lower s.data.toList) [60, 47, 112, 114, 101, 62])) ∧ w = w' := fun w hE => CT _ _ w hls hE
    have C3 : ∀ w, Env w → Calls Tryz.prog 106 #[.string (mk (Sc.lower s.data.toList)), .string ⟨#[60, 47, 115, 116, 121, 108, 101, 62]⟩] w fun e w' => e = .returned (.bool (Lib.contains (Sc.lower s.data.toList) [60, 47, 115, 116, 121, 108, 101, 62])) ∧ w = w' := fun w hE => CT _ _ w hls hE
    have C4 : ∀ w, Env w → Calls Tryz.prog 106 #[.string (mk (Sc.lower s.data.toList)), .string ⟨#[60, 47, 116, 101, 120, 116, 97, 114, 101, 97, 62]⟩] w fun e w' => e = .returned (.bool (Lib.contains (Sc.lower s.data.toList) [60, 47, 116, 101, 120, 116, 97, 114, 101, 97, 62])) ∧ w = w' := fun w hE => CT _ _ w hls hE
    clear CT
    generalize Sc.htmlEnds s.data.toList 1 = X at *
    generalize Lib.contains (Sc.lower s.data.toList) [60, 47, 115, 99, 114, 105, 112, 116, 62] = c1 at *
    generalize Lib.contains (Sc.lower s.data.toList) [60, 47, 112, 114, 101, 62] = c2 at *
    generalize Lib.contains (Sc.lower s.data.toList) [60, 47, 115, 116, 121, 108, 101, 62] = c3 at *
    generalize Lib.contains (Sc.lower s.data.toList) [60, 47, 116, 101, 120, 116, 97, 114, 101, 97, 62] = c4 at *
    generalize mk (Sc.lower s.data.toList) = ls at *
    have HF := Lib.hid F
    clear F
    go_enter Tryz.func76, Tryz.ntmps76
    go_wp2_with (go_at_call 105; (with_reducible refine (LW _).mono ?_); rintro e w1 ⟨rfl, b1⟩)
    have Bw := b1.alloc b1.size (.cells #[.string ⟨#[60, 47, 115, 99, 114, 105, 112, 116, 62]⟩, .string ⟨#[60, 47, 112, 114, 101, 62]⟩, .string ⟨#[60, 47, 115, 116, 121, 108, 101, 62]⟩, .string ⟨#[60, 47, 116, 101, 120, 116, 97, 114, 101, 97, 62]⟩] 9)
    have hE0 := hE.below Bw
    have C : ∀ j v, (#[.string ⟨#[60, 47, 115, 99, 114, 105, 112, 116, 62]⟩, .string ⟨#[60, 47, 112, 114, 101, 62]⟩, .string ⟨#[60, 47, 115, 116, 121, 108, 101, 62]⟩, .string ⟨#[60, 47, 116, 101, 120, 116, 97, 114, 101, 97, 62]⟩] : Array Value)[j]? = some v → (w1.alloc (.cells #[.string ⟨#[60, 47, 115, 99, 114, 105, 112, 116, 62]⟩, .string ⟨#[60, 47, 112, 114, 101, 62]⟩, .string ⟨#[60, 47, 115, 116, 121, 108, 101, 62]⟩, .string ⟨#[60, 47, 116, 101, 120, 116, 97, 114, 101, 97, 62]⟩] 9)).cell? ⟨w1.heap.size, j, none⟩ = some v := by
      intro j v h
      have := World.cell?_alloc_new w1 #[.string ⟨#[60, 47, 115, 99, 114, 105, 112, 116, 62]⟩, .string ⟨#[60, 47, 112, 114, 101, 62]⟩, .string ⟨#[60, 47, 115, 116, 121, 108, 101, 62]⟩, .string ⟨#[60, 47, 116, 101, 120, 116, 97, 114, 101, 97, 62]⟩] 9 j
      rw [this, h]
    have Q0 := C 0 _ rfl
    have Q1 := C 1 _ rfl
    have Q2 := C 2 _ rfl
    have Q3 := C 3 _ rfl
    clear C
    generalize hw0 : w1.alloc (.cells #[.string ⟨#[60, 47, 115, 99, 114, 105, 112, 116, 62]⟩, .string ⟨#[60, 47, 112, 114, 101, 62]⟩, .string ⟨#[60, 47, 115, 116, 121, 108, 101, 62]⟩, .string ⟨#[60, 47, 116, 101, 120, 116, 97, 114, 101, 97, 62]⟩] 9) = w0 at *
    clear hw0
    generalize w1.heap.size = g at *
    refine wp_loop_rounds 5 ?_
    rw [rounds_succ]
    cases c1 with
    | true =>
      go_wp2_with (go_at_call 106; (with_reducible refine (C1 _ hE0).mono ?_); rintro e w2 ⟨rfl, rfl⟩)
      go_ret
      exact ⟨ret_bool (by rw [HF.out] <;> simp), Bw⟩
    | false =>
      go_wp2_with (go_at_call 106; (with_reducible refine (C1 _ hE0).mono ?_); rintro e w2 ⟨rfl, rfl⟩)
      rw [rounds_succ]
      cases c2 with
      | true =>
        go_wp2_with (go_at_call 106; (with_reducible refine (C2 _ hE0).mono ?_); rintro e w2 ⟨rfl, rfl⟩)
        go_ret
        exact ⟨ret_bool (by rw [HF.out] <;> simp), Bw⟩
      | false =>
        go_wp2_with (go_at_call 106; (with_reducible refine (C2 _ hE0).mono ?_); rintro e w2 ⟨rfl, rfl⟩)
        rw [rounds_succ]
        cases c3 with
        | true =>
          go_wp2_with (go_at_call 106; (with_reducible refine (C3 _ hE0).mono ?_); rintro e w2 ⟨rfl, rfl⟩)
          go_ret
          exact ⟨ret_bool (by rw [HF.out] <;> simp), Bw⟩
        | false =>
          go_wp2_with (go_at_call 106; (with_reducible refine (C3 _ hE0).mono ?_); rintro e w2 ⟨rfl, rfl⟩)
          rw [rounds_succ]
          cases c4 with
          | true =>
            go_wp2_with (go_at_call 106; (with_reducible refine (C4 _ hE0).mono ?_); rintro e w2 ⟨rfl, rfl⟩)
            go_ret
            exact ⟨ret_bool (by rw [HF.out] <;> simp), Bw⟩
          | false =>
            go_wp2_with (go_at_call 106; (with_reducible refine (C4 _ hE0).mono ?_); rintro e w2 ⟨rfl, rfl⟩)
            rw [rounds_succ]
            go_wp2
            go_ret
            exact ⟨ret_bool (by rw [HF.out] <;> simp), Bw⟩
  have n1 : (k == 1) = false := by simpa using k1
  by_cases k2 : k = 2
  · subst k2
    have C1 : ∀ w, Env w → Calls Tryz.prog 106 #[.string s, .string ⟨#[45, 45, 62]⟩] w fun e w' => e = .returned (.bool (Lib.contains s.data.toList [45, 45, 62])) ∧ w = w' := fun w hE => CT _ _ w hs hE
    have F : Sc.htmlEnds s.data.toList 2 = Lib.contains s.data.toList [45, 45, 62] := rfl
    clear CT
    generalize Sc.htmlEnds s.data.toList 2 = X at *
    generalize Lib.contains s.data.toList [45, 45, 62] = c1 at *
    have HF := Lib.hid F
    clear F
    go_enter Tryz.func76, Tryz.ntmps76
    go_wp2
    have Bw := (Below.refl w.heap.size w).alloc (Nat.le_refl _) (.cells #[.string ⟨#[45, 45, 62]⟩] 9)
    have hE0 := hE.below Bw
    have C : ∀ j v, (#[.string ⟨#[45, 45, 62]⟩] : Array Value)[j]? = some v → (w.alloc (.cells #[.string ⟨#[45, 45, 62]⟩] 9)).cell? ⟨w.heap.size, j, none⟩ = some v := by
      intro j v h
      have := World.cell?_alloc_new w #[.string ⟨#[45, 45, 62]⟩] 9 j
      rw [this, h]
    have Q0 := C 0 _ rfl
    clear C
    generalize hw0 : w.alloc (.cells #[.string ⟨#[45, 45, 62]⟩] 9) = w0 at *
    clear hw0
    have hww : w.heap.size = w.heap.size := rfl
    refine wp_loop_rounds 2 ?_
    rw [rounds_succ]
    cases c1 with
    | true =>
      go_wp2_with (go_at_call 106; (with_reducible refine (C1 _ hE0).mono ?_); rintro e w2 ⟨rfl, rfl⟩)
      go_ret
      exact ⟨ret_bool (by rw [HF.out] <;> simp), Bw⟩
    | false =>
      go_wp2_with (go_at_call 106; (with_reducible refine (C1 _ hE0).mono ?_); rintro e w2 ⟨rfl, rfl⟩)
      rw [rounds_succ]
      go_wp2
      go_ret
      exact ⟨ret_bool (by rw [HF.out]), Bw⟩
  have n2 : (k == 2) = false := by simpa using k2
  by_cases k3 : k = 3
  · subst k3
    have C1 : ∀ w, Env w → Calls Tryz.prog 106 #[.string s, .string ⟨#[63, 62]⟩] w fun e w' => e = .returned (.bool (Lib.contains s.data.toList [63, 62])) ∧ w = w' := fun w hE => CT _ _ w hs hE
    have F : Sc.htmlEnds s.data.toList 3 = Lib.contains s.data.toList [63, 62] := rfl
    clear CT
    generalize Sc.htmlEnds s.data.toList 3 = X at *
    generalize Lib.contains s.data.toList [63, 62] = c1 at *
    have HF := Lib.hid F
    clear F
    go_enter Tryz.func76, Tryz.ntmps76
    go_wp2
    have Bw := (Below.refl w.heap.size w).alloc (Nat.le_refl _) (.cells #[.string ⟨#[63, 62]⟩] 9)
    have hE0 := hE.below Bw
    have C : ∀ j v, (#[.string ⟨#[63, 62]⟩] : Array Value)[j]? = some v → (w.alloc (.cells #[.string ⟨#[63, 62]⟩] 9)).cell? ⟨w.heap.size, j, none⟩ = some v := by
      intro j v h
      have := World.cell?_alloc_new w #[.string ⟨#[63, 62]⟩] 9 j
      rw [this, h]
    have Q0 := C 0 _ rfl
    clear C
    generalize hw0 : w.alloc (.cells #[.string ⟨#[63, 62]⟩] 9) = w0 at *
    clear hw0
    have hww : w.heap.size = w.heap.size := rfl
    refine wp_loop_rounds 2 ?_
    rw [rounds_succ]
    cases c1 with
    | true =>
      go_wp2_with (go_at_call 106; (with_reducible refine (C1 _ hE0).mono ?_); rintro e w2 ⟨rfl, rfl⟩)
      go_ret
      exact ⟨ret_bool (by rw [HF.out] <;> simp), Bw⟩
    | false =>
      go_wp2_with (go_at_call 106; (with_reducible refine (C1 _ hE0).mono ?_); rintro e w2 ⟨rfl, rfl⟩)
      rw [rounds_succ]
      go_wp2
      go_ret
      exact ⟨ret_bool (by rw [HF.out]), Bw⟩
  have n3 : (k == 3) = false := by simpa using k3
  by_cases k4 : k = 4
  · subst k4
    have C1 : ∀ w, Env w → Calls Tryz.prog 106 #[.string s, .string ⟨#[62]⟩] w fun e w' => e = .returned (.bool (Lib.contains s.data.toList [62])) ∧ w = w' := fun w hE => CT _ _ w hs hE
    have F : Sc.htmlEnds s.data.toList 4 = Lib.contains s.data.toList [62] := rfl
    clear CT
    generalize Sc.htmlEnds s.data.toList 4 = X at *
    generalize Lib.contains s.data.toList [62] = c1 at *
    have HF := Lib.hid F
    clear F
    go_enter Tryz.func76, Tryz.ntmps76
    go_wp2
    have Bw := (Below.refl w.heap.size w).alloc (Nat.le_refl _) (.cells #[.string ⟨#[62]⟩] 9)
    have hE0 := hE.below Bw
    have C : ∀ j v, (#[.string ⟨#[62]⟩] : Array Value)[j]? = some v → (w.alloc (.cells #[.string ⟨#[62]⟩] 9)).cell? ⟨w.heap.size, j, none⟩ = some v := by
      intro j v h
      have := World.cell?_alloc_new w #[.string ⟨#[62]⟩] 9 j
      rw [this, h]
    have Q0 := C 0 _ rfl
    clear C
    generalize hw0 : w.alloc (.cells #[.string ⟨#[62]⟩] 9) = w0 at *
    clear hw0
    have hww : w.heap.size = w.heap.size := rfl
    refine wp_loop_rounds 2 ?_
    rw [rounds_succ]
    cases c1 with
    | true =>
      go_wp2_with (go_at_call 106; (with_reducible refine (C1 _ hE0).mono ?_); rintro e w2 ⟨rfl, rfl⟩)
      go_ret
      exact ⟨ret_bool (by rw [HF.out] <;> simp), Bw⟩
    | false =>
      go_wp2_with (go_at_call 106; (with_reducible refine (C1 _ hE0).mono ?_); rintro e w2 ⟨rfl, rfl⟩)
      rw [rounds_succ]
      go_wp2
      go_ret
      exact ⟨ret_bool (by rw [HF.out]), Bw⟩
  have n4 : (k == 4) = false := by simpa using k4
  by_cases k5 : k = 5
  · subst k5
    have C1 : ∀ w, Env w → Calls Tryz.prog 106 #[.string s, .string ⟨#[93, 93, 62]⟩] w fun e w' => e = .returned (.bool (Lib.contains s.data.toList [93, 93, 62])) ∧ w = w' := fun w hE => CT _ _ w hs hE
    have F : Sc.htmlEnds s.data.toList 5 = Lib.contains s.data.toList [93, 93, 62] := rfl
    clear CT
    generalize Sc.htmlEnds s.data.toList 5 = X at *
    generalize Lib.contains s.data.toList [93, 93, 62] = c1 at *
    have HF := Lib.hid F
    clear F
    go_enter Tryz.func76, Tryz.ntmps76
    go_wp2
    have Bw := (Below.refl w.heap.size w).alloc (Nat.le_refl _) (.cells #[.string ⟨#[93, 93, 62]⟩] 9)
    have hE0 := hE.below Bw
    have C : ∀ j v, (#[.string ⟨#[93, 93, 62]⟩] : Array Value)[j]? = some v → (w.alloc (.cells #[.string ⟨#[93, 93, 62]⟩] 9)).cell? ⟨w.heap.size, j, none⟩ = some v := by
      intro j v h
      have := World.cell?_alloc_new w #[.string ⟨#[93, 93, 62]⟩] 9 j
      rw [this, h]
    have Q0 := C 0 _ rfl
    clear C
    generalize hw0 : w.alloc (.cells #[.string ⟨#[93, 93, 62]⟩] 9) = w0 at *
    clear hw0
    have hww : w.heap.size = w.heap.size := rfl
    refine wp_loop_rounds 2 ?_
    rw [rounds_succ]
    cases c1 with
    | true =>
      go_wp2_with (go_at_call 106; (with_reducible refine (C1 _ hE0).mono ?_); rintro e w2 ⟨rfl, rfl⟩)
      go_ret
      exact ⟨ret_bool (by rw [HF.out] <;> simp), Bw⟩
    | false =>
      go_wp2_with (go_at_call 106; (with_reducible refine (C1 _ hE0).mono ?_); rintro e w2 ⟨rfl, rfl⟩)
      rw [rounds_succ]
      go_wp2
      go_ret
      exact ⟨ret_bool (by rw [HF.out]), Bw⟩
  have n5 : (k == 5) = false := by simpa using k5
  by_cases k6 : k = 6
  · subst k6
    have BL := fun w => blank_any s w hs
    have F := Lib.hid (show Sc.htmlEnds s.data.toList 6 = Sc.blanks s.data.toList from rfl)
    go_enter Tryz.func76, Tryz.ntmps76
    go_wp2_with (go_at_call 104; (with_reducible refine (BL _).mono ?_); rintro e w1 ⟨rfl, b1⟩)
    go_ret
    exact ⟨by rw [F.out]; rfl, b1⟩
  have n6 : (k == 6) = false := by simpa using k6
  by_cases k7 : k = 7
  · subst k7
    have BL := fun w => blank_any s w hs
    have F := Lib.hid (show Sc.htmlEnds s.data.toList 7 = Sc.blanks s.data.toList from rfl)
    go_enter Tryz.func76, Tryz.ntmps76
    go_wp2_with (go_at_call 104; (with_reducible refine (BL _).mono ?_); rintro e w1 ⟨rfl, b1⟩)
    go_ret
    exact ⟨by rw [F.out]; rfl, b1⟩
  have n7 : (k == 7) = false := by simpa using k7
  have F := Lib.hid (show Sc.htmlEnds s.data.toList k = false by unfold Sc.htmlEnds; rw [if_neg k1, if_neg k2, if_neg k3, if_neg k4, if_neg k5, if_neg (by rintro (h | h); exact k6 h; exact k7 h)])
  clear CT k1 k2 k3 k4 k5 k6 k7
  go_enter Tryz.func76, Tryz.ntmps76
  go_wp2
  refine wp_loop_rounds 1 ?_
  rw [rounds_succ]
  go_wp2
  go_ret
  exact ⟨by rw [F.out]; rfl, Below.refl _ _⟩
end Go.Proofs.YtehmcahdjldhbaaGreatDoor
end
section
/- Package block in plain Lean: the machine over an arena of nodes (a node is known by the number under which it was laid), and what its nodes are told as. No program in sight. -/
namespace Go.Proofs.YtehmcahdjldhbaaGreatDoor
namespace Bk
def white : Bs := [32, 9, 10, 11, 12, 13]
def trimLeft (l : Bs) : Bs := Lib.trimLeftS l white
def trimRight (l : Bs) : Bs := Lib.trimRightS l white
/-- strings.Join(lines, "\n"). -/
def joinNl (l : List Bs) : Bs := List.intercalate [10] l
/-- text.Join. -/
def joinEnd (l : List Bs) : Bs := l.flatMap (· ++ [10])
def body (l : List Bs) : Bs := trimRight (joinNl l)

/-! ### Nodes and the machine -/
structure Ref where
  label : Bs
  dest : Bs
  title : Bs
deriving DecidableEq

structure Nd where
  kind : Nat := 0
  S : Bs := []
  T : Bs := []
  N : Nat := 0
  M : Nat := 0
  flag : Bool := false
  first : Nat := 0
  last : Nat := 0
  parent : Option Nat := none
  kids : List Nat := []
  lines : List Bs := []
  fc : UInt8 := 0
  fn : Nat := 0
  fi : Nat := 0
  need : Nat := 0
  setext : Bool := false

structure St where
  s : Bs := []
  col : Nat := 0
  opn : List Nat := []
  leaf : Option Nat := none
  line : Nat := 0
  met : Nat := 0
  began : Bool := false
  n : Nat := 0
  nd : Nat → Nd := fun _ => {}

def upd (A : Nat → Nd) (i : Nat) (f : Nd → Nd) : Nat → Nd := fun j => if j = i then f (A i) else A j
def touchA : Nat → (Nat → Nd) → Option Nat → Nat → (Nat → Nd)
  | 0, A, _, _ => A
  | _ + 1, A, none, _ => A
  | k + 1, A, some i, l => touchA k (upd A i fun d => { d with last := l }) (A i).parent l

namespace St
def blank (σ : St) : Bool := Sc.blanks σ.s
def w (σ : St) : Nat := indW σ.s σ.col
def t (σ : St) : Bs := σ.s.drop (indK σ.s)
def skipped (σ : St) (n : Nat) : St := { σ with s := (skip σ.s σ.col n).1, col := (skip σ.s σ.col n).2 }
def without (σ : St) (n : Nat) : Bs := (skip σ.s σ.col n).1
def past (σ : St) (m : Nat) : St := { σ with s := σ.t.drop m, col := σ.col + σ.w + m }
def all (σ : St) : Bool := σ.met == σ.opn.length
def leafKind (σ : St) : Nat := match σ.leaf with | none => 0 | some i => (σ.nd i).kind
def goes (σ : St) : Bool := σ.leaf.isSome && σ.leafKind == 7 && !σ.began
def last (σ : St) : Nat := σ.opn.getD (σ.met - 1) 0
def touch (σ : St) (i : Nat) : St := { σ with nd := touchA σ.n σ.nd (some i) σ.line }
def put (σ : St) (i : Nat) (f : Nd → Nd) : St := { σ with nd := upd σ.nd i f }

def quotes (σ : St) : Bool := decide (σ.w < 4) && Lib.hasPrefix σ.t [62]
def quoted (σ : St) : St := if σ.quotes then (σ.past 1).skipped 1 else σ
def deepOk (σ : St) (n : Nat) : Bool := decide (n ≤ σ.w) || σ.t.isEmpty
def deep (σ : St) (n : Nat) : St := if σ.deepOk n then σ.skipped (min σ.w n) else σ
/-- meet: what it answers, and the state behind it. -/
def meetOk (σ : St) (i : Nat) : Bool :=
  if (σ.nd i).kind = 2 then σ.quotes
  else if (σ.nd i).kind = 4 then !(σ.blank && (σ.nd i).kids.isEmpty) && σ.deepOk (σ.nd i).need
  else if (σ.nd i).kind = 13 then σ.deepOk 4
  else true
def meet (σ : St) (i : Nat) : St :=
  if (σ.nd i).kind = 2 then (if σ.quotes then σ.quoted.touch i else σ)
  else if (σ.nd i).kind = 4 then (if σ.blank && (σ.nd i).kids.isEmpty then σ else σ.deep (σ.nd i).need)
  else if (σ.nd i).kind = 13 then σ.deep 4
  else σ
/-- lay: the new node's number is σ.n. -/
def lay0 (σ : St) (kind : Nat) : St := if (σ.nd σ.last).kind = 3 ∧ kind ≠ 4 then { σ with met := σ.met - 1 } else σ
def lay1 (σ : St) (d : Nd) : St :=
  { σ with opn := σ.opn.take σ.met, leaf := none, n := σ.n + 1,
           nd := fun j => if j = σ.n then { d with parent := some σ.last, first := σ.line } else if j = σ.last then { σ.nd j with kids := (σ.nd j).kids ++ [σ.n] } else σ.nd j }
def lay (σ : St) (d : Nd) : St := ((σ.lay0 d.kind).lay1 d).touch σ.n
def enter (σ : St) (d : Nd) : St :=
  let τ := σ.lay d
  { τ with opn := τ.opn ++ [σ.n], met := τ.opn.length + 1, began := true }
/-- add: to the leaf. -/
def add (σ : St) (s : Bs) : St :=
  match σ.leaf with
  | none => σ
  | some i =>
    let τ := σ.put i fun d => { d with lines := d.lines ++ [s] }
    if Sc.blanks s then τ else τ.touch i
def close (σ : St) : St := { σ with leaf := none }
def fenced (σ : St) (i : Nat) : St :=
  if σ.w < 4 ∧ Sc.closes σ.t (σ.nd i).fc (σ.nd i).fn = true then (σ.touch i).close else σ.add (σ.without (σ.nd i).fi)
def htmlOk (σ : St) (i : Nat) : Bool := !(decide (5 < (σ.nd i).N) && σ.blank)
def html (σ : St) (i : Nat) : St :=
  if σ.htmlOk i then
    (if (σ.nd i).N ≤ 5 ∧ Sc.htmlEnds σ.s (σ.nd i).N = true then (σ.add σ.s).close else σ.add σ.s)
  else σ.close
def takes (σ : St) : Bool × St :=
  if σ.all then
    match σ.leaf with
    | none => (false, σ)
    | some i => if 0 < (σ.nd i).fn then (true, σ.fenced i) else if (σ.nd i).kind = 6 then (σ.htmlOk i, σ.html i) else (false, σ)
  else (false, σ)
def plain (σ : St) : Bool := σ.all && !σ.began && σ.leaf.isSome && σ.leafKind == 5
/-- lay, the new node the leaf. -/
def layLeaf (σ : St) (d : Nd) : St := { σ.lay d with leaf := some σ.n }
def code (σ : St) : St :=
  let τ := if σ.plain then σ else σ.layLeaf { kind := 5 }
  τ.add (τ.without 4)
section
variable (F : Bs → List Ref × Bs)
def headOk (σ : St) (level : Nat) : Bool :=
  if level = 0 then false else if !(σ.all && σ.goes) then false
  else match σ.leaf with | none => false | some i => !(F (body (σ.nd i).lines)).2.isEmpty
def head (σ : St) (level : Nat) : St :=
  if σ.headOk F level then
    match σ.leaf with
    | none => σ
    | some i => { (σ.touch i).put i fun d => { d with kind := 8, N := level, setext := true } with leaf := none }
  else σ
variable (unesc : Bs → Bs)
def begins (σ : St) (w : Nat) (t : Bs) : Bool × St :=
  if 0 < (Sc.atx t).1 then (true, σ.lay { kind := 8, N := (Sc.atx t).1, lines := [(Sc.atx t).2] })
  else if 0 < (Sc.fence t).2.1 then (true, σ.layLeaf { kind := 5, T := unesc (Sc.fence t).2.2, fc := (Sc.fence t).1, fn := (Sc.fence t).2.1, fi := w })
  else if 0 < Sc.htmlStart t ∧ (Sc.htmlStart t ≠ 7 ∨ σ.goes = false) then
    (true, if Sc.htmlStart t ≤ 5 ∧ Sc.htmlEnds σ.s (Sc.htmlStart t) = true then (σ.layLeaf { kind := 6, N := Sc.htmlStart t, lines := [σ.s] }).close
           else σ.layLeaf { kind := 6, N := Sc.htmlStart t, lines := [σ.s] })
  else if σ.headOk F (Sc.setext t) then (true, σ.head F (Sc.setext t))
  else if Sc.rule t then (true, σ.lay { kind := 9 })
  else (false, σ)
end
end St
def stopsLabel (b : UInt8) : Bool := b == 32 || b == 9 || b == 10 || b == 91 || b == 93
def labelAt (l : Bs) : Bs × Nat :=
  let a := l.takeWhile (fun b => !stopsLabel b)
  let r := l.dropWhile (fun b => !stopsLabel b)
  if a.isEmpty then ([], 0) else
  match r with
  | 93 :: 58 :: _ => (a, 2 + a.length + 2)
  | _ => ([], 0)
def label : Bs → Bs × Nat
  | 91 :: 94 :: l => labelAt l
  | _ => ([], 0)
/-- marker: the number, the sign, how many bytes; is it one of numbers? -/
def marker (t : Bs) : Nat × UInt8 × Nat × Bool :=
  if 0 < Sc.bullet t then (0, t.headD 0, 1, false) else ((Sc.ordered t).1, (Sc.ordered t).2.1, (Sc.ordered t).2.2, decide (0 < (Sc.ordered t).2.2))
namespace St
section
variable (notes : Bool)
def note (σ : St) (t : Bs) : Bool × St :=
  if (label t).2 = 0 ∨ notes = false ∨ σ.goes = true then (false, σ)
  else
    let τ := (σ.past (label t).2).enter { kind := 13, S := (label t).1 }
    (true, τ.skipped τ.w)
def itemGap (σ : St) (w : Nat) (t : Bs) (size : Nat) : Nat :=
  let b := indW (t.drop size) (σ.col + w + size)
  if Sc.blanks (t.drop size) ∨ 5 ≤ b then 1 else b
def item (σ : St) (w : Nat) (t : Bs) : Bool × St :=
  let m := marker t
  let size := m.2.2.1
  if size = 0 then (false, σ)
  else if σ.all = true ∧ σ.goes = true ∧ (Sc.blanks (t.drop size) = true ∨ (m.2.2.2 = true ∧ m.1 ≠ 1)) then (false, σ)
  else
    let b := σ.itemGap w t size
    let τ := (σ.past size).skipped b
    let υ := if (τ.nd τ.last).kind ≠ 3 ∨ (τ.nd τ.last).M ≠ m.2.1.toNat then τ.enter { kind := 3, N := m.1, M := m.2.1.toNat } else τ
    (true, υ.enter { kind := 4, need := w + size + b })
end
section
variable (F : Bs → List Ref × Bs) (unesc : Bs → Bs) (notes : Bool)
def starts : Nat → St → Bool × St
  | 0, σ => (false, σ)
  | k + 1, σ =>
    if σ.blank then (false, σ)
    else if 4 ≤ σ.w then (if σ.goes then (false, σ) else (true, σ.code))
    else if σ.quotes then starts k (σ.quoted.enter { kind := 2 })
    else
      let b := σ.begins F unesc σ.w σ.t
      if b.1 then (true, b.2)
      else
        let c := b.2.note notes σ.t
        if c.1 then starts k c.2
        else
          let e := c.2.item σ.w σ.t
          if e.1 then starts k e.2 else (false, e.2)
def text (σ : St) : St :=
  if σ.blank then
    (if σ.plain then σ.add (σ.without 4)
     else { σ with leaf := if !σ.all || σ.goes then none else σ.leaf, opn := σ.opn.take σ.met })
  else
    let τ := if σ.goes then σ else σ.layLeaf { kind := 7 }
    τ.add (trimLeft τ.s)
/-- The containers that are met. -/
def meets : Nat → St → St
  | 0, σ => σ
  | k + 1, σ =>
    if σ.met < σ.opn.length then
      (if σ.meetOk (σ.opn.getD σ.met 0) then meets k { σ.meet (σ.opn.getD σ.met 0) with met := σ.met + 1 } else σ.meet (σ.opn.getD σ.met 0))
    else σ
def one (σ : St) : St :=
  let τ := meets σ.opn.length { σ with met := 1, began := false }
  let u := τ.takes
  if u.1 then u.2 else
  let v := u.2.starts F unesc notes (u.2.s.length + 1)
  if v.1 then v.2 else v.2.text
def init : St := { opn := [0], n := 1, nd := fun j => if j = 0 then { kind := 1 } else {} }
def run : List Bs → Nat → St → St
  | [], _, σ => σ
  | l :: r, k, σ => run r (k + 1) (one F unesc notes { σ with s := l, col := 0, line := k })
end
end St

/-! ### What the lines are told as -/
inductive Tr where
  | mk (kind : Nat) (S T : Bs) (N M : Nat) (flag : Bool) (first last : Nat) (kids : List Tr)

def apart (A : Nat → Nd) : List Nat → Bool
  | a :: b :: r => decide ((A a).last + 1 < (A b).first) || apart A (b :: r)
  | _ => false
def tight (A : Nat → Nd) (i : Nat) : Bool := !apart A (A i).kids && !(A i).kids.any fun k => apart A (A k).kids
def dropBlank (l : List Bs) : List Bs := (l.reverse.dropWhile Sc.blanks).reverse
/-- refs.Add. -/
def addRefs (l more : List Ref) : List Ref := more.foldl (fun out r => if out.any (fun x => x.label == r.label) then out else out ++ [r]) l
section
variable (F : Bs → List Ref × Bs) (A : Nat → Nd)
/-- content: the node's text and flag, the definitions, does it stay. -/
def content (i : Nat) (defs : List Ref) : Bs × Bool × List Ref × Bool :=
  let d := A i
  if d.kind = 3 then (d.S, tight A i, defs, true)
  else if d.kind = 6 then (joinEnd d.lines, d.flag, defs, true)
  else if d.kind = 5 then (joinEnd (if d.fn = 0 then dropBlank d.lines else d.lines), d.flag, defs, true)
  else if d.kind = 7 ∨ (d.kind = 8 ∧ d.setext = true) then ((F (body d.lines)).2, d.flag, addRefs defs (F (body d.lines)).1, !(F (body d.lines)).2.isEmpty)
  else if d.kind = 8 then (body d.lines, d.flag, defs, true)
  else (d.S, d.flag, defs, true)
/-- One kid of a node more. 'rec' tells a kid's own. -/
def tell (rec : Nat → List Ref → List Tr × List Ref) (acc : List Tr × List Ref) (j : Nat) : List Tr × List Ref :=
  if (content F A j acc.2).2.2.2 then
    (acc.1 ++ [Tr.mk (A j).kind (content F A j acc.2).1 (A j).T (A j).N (A j).M (content F A j acc.2).2.1 (A j).first (A j).last (rec j (content F A j acc.2).2.2.1).1],
     (rec j (content F A j acc.2).2.2.1).2)
  else (acc.1, (content F A j acc.2).2.2.1)
def blocks : Nat → Nat → List Ref → List Tr × List Ref
  | 0, _, defs => ([], defs)
  | k + 1, i, defs => (A i).kids.foldl (tell F A (blocks k)) ([], defs)
end
def parse (F : Bs → List Ref × Bs) (unesc : Bs → Bs) (notes : Bool) (l : List Bs) : List Tr × List Ref :=
  let σ := St.run F unesc notes l 0 St.init
  blocks F σ.nd σ.n 0 []
end Bk
end Go.Proofs.YtehmcahdjldhbaaGreatDoor
end
