/- The walk of the reference's HtmlStart. -/
import Derived.Test.YtokhibghnpcogaaGreatDoorRefL
import Derived.Deep.DeepCutAuto
open Go Go.RowKit
set_option linter.unusedVariables false
set_option linter.unusedSimpArgs false
set_option maxRecDepth 100000
namespace Go.Proofs.YtokhibghnpcogaaGreatDoor
open Wk
theorem among_raws (nm : ByteArray) (g : Nat) (w : World) (h : Strs g Sc.raws w) : Calls Tryz.prog 57 #[.string nm, .slice (some ⟨g, 0, none⟩) 4 4] w fun e w' => e = .returned (.bool (Sc.raws.contains nm.data.toList)) ∧ w = w' :=
  among_r nm g Sc.raws 4 w h (by decide)
theorem among_blocks (nm : ByteArray) (g : Nat) (w : World) (h : Strs g Sc.blocks w) : Calls Tryz.prog 57 #[.string nm, .slice (some ⟨g, 0, none⟩) 62 62] w fun e w' => e = .returned (.bool (Sc.blocks.contains nm.data.toList)) ∧ w = w' :=
  among_r nm g Sc.blocks 62 w h (by decide)
set_option maxHeartbeats 4000000 in
theorem htmlStart_r (s : ByteArray) (w : World) (hs : Small s) :
    Calls Tryz.prog 24 #[.string s] w fun e w' => e = .returned (.int .i64 (Sc.htmlStart s.data.toList)) ∧ Below w.heap.size w w' := by
  have n60 : ∀ b : UInt8, ((b.toNat : Int) != 60) = (b != 60) := fun b => bne_u8 b 60 (by decide)
  have F : Sc.htmlStart s.data.toList = if Lib.hasPrefix s.data.toList [60] = false then 0
    else if (Sc.raws.contains (Sc.lower (Sc.named (s.data.toList.drop 1)).1) && Sc.afterRaw (Sc.named (s.data.toList.drop 1)).2) = true then 1
    else if Lib.hasPrefix s.data.toList [60, 33, 45, 45] = true then 2
    else if Lib.hasPrefix s.data.toList [60, 63] = true then 3
    else Sc.htmlRest s.data.toList (Sc.named (s.data.toList.drop 1)) := rfl
  have G : ∀ q, Sc.htmlRest s.data.toList q = if Sc.decl s.data.toList = true then 4
    else if Lib.hasPrefix s.data.toList [60, 33, 91, 67, 68, 65, 84, 65, 91] = true then 5
    else if Lib.hasPrefix s.data.toList [60, 47] = true then Sc.htmlTail s.data.toList (Sc.named (s.data.toList.drop 2)).1 (Sc.named (s.data.toList.drop 2)).2
    else Sc.htmlTail s.data.toList q.1 q.2 := fun q => rfl
  generalize Sc.htmlStart s.data.toList = X at *
  by_cases h0 : s.data.toList = []
  · have h1 : s.toList = [] := by rw [toList_data, h0]
    have HF := Lib.hid (show X = 0 by rw [F, h0]; rfl)
    clear F G h0
    go_enter Tryz.func24, Tryz.ntmps24
    go_wp2
    go_ret
    exact ⟨by rw [HF.out]; rfl, Below.refl _ _⟩
  have hz := Sc.size_pos h0
  have E := Sc.head_of hz
  have h1 : (s.toList == ([] : List UInt8)) = false := by rw [toList_data, beq_eq_false_iff_ne]; exact h0
  clear h0
  by_cases h60 : s[0] = 60
  case neg =>
    have q : (s[0] != 60) = true := by simp [h60]
    have HF := Lib.hid (show X = 0 by
      rw [F, if_pos]
      generalize s.data.toList.drop 1 = l1 at *
      have e : ((60 : UInt8) == s[0]) = false := by rw [beq_eq_false_iff_ne]; exact fun h => h60 h.symm
      rw [E]; simp [Lib.hasPrefix, List.isPrefixOf, e])
    clear F G E h60
    go_enter Tryz.func24, Tryz.ntmps24
    go_wp2
    go_ret
    exact ⟨by rw [HF.out]; rfl, Below.refl _ _⟩
  have q0 : (s[0] != 60) = false := by simp [h60]
  have hp60 : Lib.hasPrefix s.data.toList [60] = true := by
    generalize s.data.toList.drop 1 = l1 at *
    rw [E, h60]; simp [Lib.hasPrefix]
  rw [if_neg (by rw [hp60]; simp)] at F
  clear hp60 h60 E
  unfold Small at hs
  have hd1 := Sc.drop_data s 1
  have hz1 : Small (s.extract 1 s.size) := by unfold Small; rw [← Sc.len_size, hd1]; simp; omega
  have NM := fun w => name_r (s.extract 1 s.size) w hz1
  rw [hd1] at NM
  have hl1 := Sc.named_len1 (s.data.toList.drop 1)
  have hl2 := Sc.named_len (s.data.toList.drop 1)
  have hl3 : (s.data.toList.drop 1).length ≤ s.size := by simp
  obtain ⟨nm, hnm'⟩ : ∃ nm : ByteArray, mk (Sc.named (s.data.toList.drop 1)).1 = nm := ⟨_, rfl⟩
  obtain ⟨rs, hrs'⟩ : ∃ q : ByteArray, mk (Sc.named (s.data.toList.drop 1)).2 = q := ⟨_, rfl⟩
  have hnm : nm.data.toList = (Sc.named (s.data.toList.drop 1)).1 := by rw [← hnm']; rfl
  have hrs : rs.data.toList = (Sc.named (s.data.toList.drop 1)).2 := by rw [← hrs']; rfl
  rw [hnm', hrs'] at NM
  clear hnm' hrs'
  have hznm : Small nm := by unfold Small; rw [← Sc.len_size, hnm]; omega
  have hzrs : Small rs := by unfold Small; rw [← Sc.len_size, hrs]; omega
  rw [← hnm, ← hrs] at F
  have HNM := Lib.hid hnm
  have HRS := Lib.hid hrs
  clear hl1 hl2 hl3 hd1 hz1 hnm hrs
  have LW := fun w => lower_r nm w hznm
  have HF := Lib.hid F
  clear F
  have HP := fun (p : ByteArray) (hp : Small p) (w : World) => begins_r s p w (by unfold Small; omega) hp
  have e62 : ∀ b : UInt8, ((b.toNat : Int) == 62) = (b == 62) := fun b => beq_u8 b 62 (by decide)
  go_enter Tryz.func24, Tryz.ntmps24
  go_upto_region 5 with (first
    | (go_at_call 32; (with_reducible refine (NM _).mono ?_); rintro e w1 ⟨rfl, b1⟩)
    | (go_at_call 56; (with_reducible refine (LW _).mono ?_); rintro e w2 ⟨rfl, b2⟩))
  have b2 := b1.trans (b2.mono b1.size)
  clear b1 NM LW
  go_cut [21] (fun c wx => c = .bool (Sc.raws.contains (Sc.lower nm.data.toList) && Sc.afterRaw rs.data.toList) ∧ Below w.heap.size w wx)
  case first =>
    have AM : ∀ g w, Strs g Sc.raws w → Calls Tryz.prog 57 #[.string (mk (Sc.lower nm.data.toList)), .slice (some ⟨g, 0, none⟩) 4 4] w fun e w' => e = .returned (.bool (Sc.raws.contains (Sc.lower nm.data.toList))) ∧ w = w' := fun g w h => among_raws _ g w h
    generalize Sc.raws.contains (Sc.lower nm.data.toList) = r1 at *
    have EN := fun w => end_r rs w
    have AF := after_cases rs
    generalize Sc.afterRaw rs.data.toList = a1 at *
    generalize Sc.ends rs.data.toList = e1 at *
    cases r1 with
    | false =>
      go_wp2_with (first
        | (go_at_call 58; (with_reducible refine (raws_r _).mono ?_); rintro e w3 ⟨rfl, st, b3⟩)
        | (go_at_call 57; (with_reducible refine (AM _ _ st).mono ?_); rintro e w4 ⟨rfl, rfl⟩))
      go_meet
      case rel => exact ⟨rfl, b2.trans (b3.mono b2.size)⟩
    | true =>
      rcases AF with ⟨h1, h2⟩ | ⟨h1, hz, h2⟩
      · subst h1 h2
        go_wp2_with (first
          | (go_at_call 58; (with_reducible refine (raws_r _).mono ?_); rintro e w3 ⟨rfl, st, b3⟩)
          | (go_at_call 57; (with_reducible refine (AM _ _ st).mono ?_); rintro e w4 ⟨rfl, rfl⟩)
          | (go_at_call 40; (with_reducible refine (EN _).mono ?_); rintro e w5 ⟨rfl, rfl⟩))
        go_meet
        case rel => exact ⟨rfl, b2.trans (b3.mono b2.size)⟩
      · subst h1
        have H2 := Lib.hid h2
        clear h2
        go_wp2_with (first
          | (go_at_call 58; (with_reducible refine (raws_r _).mono ?_); rintro e w3 ⟨rfl, st, b3⟩)
          | (go_at_call 57; (with_reducible refine (AM _ _ st).mono ?_); rintro e w4 ⟨rfl, rfl⟩)
          | (go_at_call 40; (with_reducible refine (EN _).mono ?_); rintro e w5 ⟨rfl, rfl⟩))
        go_meet
        case rel => exact ⟨by rw [H2.out]; rfl, b2.trans (b3.mono b2.size)⟩
  case rest =>
    obtain ⟨rfl, b2⟩ := hcut
    have F := HF.out
    clear HF
    have H4 : ∀ w, Calls Tryz.prog 59 #[.string s, .string ⟨#[60, 33, 45, 45]⟩] w fun e w' => e = .returned (.bool (Lib.hasPrefix s.data.toList [60, 33, 45, 45])) ∧ w = w' := HP ⟨#[60, 33, 45, 45]⟩ (by unfold Small; decide)
    have H2 : ∀ w, Calls Tryz.prog 59 #[.string s, .string ⟨#[60, 63]⟩] w fun e w' => e = .returned (.bool (Lib.hasPrefix s.data.toList [60, 63])) ∧ w = w' := HP ⟨#[60, 63]⟩ (by unfold Small; decide)
    have H9 : ∀ w, Calls Tryz.prog 59 #[.string s, .string ⟨#[60, 33, 91, 67, 68, 65, 84, 65, 91]⟩] w fun e w' => e = .returned (.bool (Lib.hasPrefix s.data.toList [60, 33, 91, 67, 68, 65, 84, 65, 91])) ∧ w = w' := HP ⟨#[60, 33, 91, 67, 68, 65, 84, 65, 91]⟩ (by unfold Small; decide)
    have CP : ∀ w, Calls Tryz.prog 59 #[.string s, .string ⟨#[60, 47]⟩] w fun e w' => e = .returned (.bool (Lib.hasPrefix s.data.toList [60, 47])) ∧ w = w' := HP ⟨#[60, 47]⟩ (by unfold Small; decide)
    clear HP
    generalize (Sc.raws.contains (Sc.lower nm.data.toList) && Sc.afterRaw rs.data.toList) = p1 at *
    generalize Lib.hasPrefix s.data.toList [60, 33, 45, 45] = p2 at *
    generalize Lib.hasPrefix s.data.toList [60, 63] = p3 at *
    cases p1 with
    | true =>
      rw [if_pos rfl] at F
      have HF := Lib.hid F
      clear F
      go_wp2
      go_ret
      exact ⟨by rw [HF.out]; rfl, b2⟩
    | false =>
      rw [if_neg (by simp)] at F
      cases p2 with
      | true =>
        rw [if_pos rfl] at F
        have HF := Lib.hid F
        clear F
        go_wp2_with (go_at_call 59; (with_reducible refine (H4 _).mono ?_); rintro e w3 ⟨rfl, rfl⟩)
        go_ret
        exact ⟨by rw [HF.out]; rfl, b2⟩
      | false =>
        rw [if_neg (by simp)] at F
        cases p3 with
        | true =>
          rw [if_pos rfl] at F
          have HF := Lib.hid F
          clear F
          go_wp2_with (first
            | (go_at_call 59; (with_reducible refine (H4 _).mono ?_); rintro e w3 ⟨rfl, rfl⟩)
            | (go_at_call 59; (with_reducible refine (H2 _).mono ?_); rintro e w3 ⟨rfl, rfl⟩))
          go_ret
          exact ⟨by rw [HF.out]; rfl, b2⟩
        | false =>
          rw [if_neg (by simp), G] at F
          have HF := Lib.hid F
          clear F G
          go_upto_region 11 with (first
            | (go_at_call 59; (with_reducible refine (H4 _).mono ?_); rintro e w3 ⟨rfl, rfl⟩)
            | (go_at_call 59; (with_reducible refine (H2 _).mono ?_); rintro e w3 ⟨rfl, rfl⟩))
          clear H4 H2
          go_cut [40] (fun c wx => c = .bool (Sc.decl s.data.toList) ∧ Below w.heap.size w wx)
          case first =>
            have e33 : ∀ b : UInt8, ((b.toNat : Int) == 33) = (b == 33) := fun b => beq_u8 b 33 (by decide)
            rcases decl_cases s with ⟨d1, d2⟩ | ⟨d1, d2, d3⟩ | ⟨d1, d2, d3⟩
            · have D := Lib.hid d2
              clear d2
              go_wp2
              go_meet
              case rel => exact ⟨by rw [D.out], b2⟩
            · have D := Lib.hid d3
              have d4 : (s[1] == 33) = false := by simpa using d2
              clear d2 d3
              go_wp2
              go_meet
              case rel => exact ⟨by rw [D.out], b2⟩
            · have D := Lib.hid d3
              have d4 : (s[1] == 33) = true := by simpa using d2
              clear d2 d3
              go_wp2_with (go_at_call 60; (with_reducible refine (letter_r _ _).mono ?_); rintro e w4 ⟨rfl, rfl⟩)
              go_meet
              case rel => exact ⟨by rw [D.out], b2⟩
          case rest =>
            obtain ⟨rfl, b3⟩ := hcut
            have F := HF.out
            clear HF
            generalize Sc.decl s.data.toList = p4 at *
            generalize Lib.hasPrefix s.data.toList [60, 33, 91, 67, 68, 65, 84, 65, 91] = p5 at *
            cases p4 with
            | true =>
              rw [if_pos rfl] at F
              have HF := Lib.hid F
              clear F
              go_wp2
              go_ret
              exact ⟨by rw [HF.out]; rfl, b3⟩
            | false =>
              rw [if_neg (by simp)] at F
              cases p5 with
              | true =>
                rw [if_pos rfl] at F
                have HF := Lib.hid F
                clear F
                go_wp2_with (go_at_call 59; (with_reducible refine (H9 _).mono ?_); rintro e w3 ⟨rfl, rfl⟩)
                go_ret
                exact ⟨by rw [HF.out]; rfl, b3⟩
              | false =>
                rw [if_neg (by simp)] at F
                have hfin : ∃ nm2 rs2 : ByteArray, Small nm2 ∧ Small rs2 ∧ X = Sc.htmlTail s.data.toList nm2.data.toList rs2.data.toList ∧ (Lib.hasPrefix s.data.toList [60, 47] = true → 2 ≤ s.size ∧ ∀ w, Calls Tryz.prog 32 #[.string (s.extract 2 s.size)] w fun e w' => e = .returned (.tuple #[.string nm2, .string rs2]) ∧ Below w.heap.size w w') ∧ (Lib.hasPrefix s.data.toList [60, 47] = false → nm2 = nm ∧ rs2 = rs) := by
                  cases h : Lib.hasPrefix s.data.toList [60, 47] with
                  | true =>
                    rw [h, if_pos rfl] at F
                    have hz : ∀ l : List UInt8, l.length ≤ s.size → Small (mk l) := fun l hl => by unfold Small; rw [mk_size]; omega
                    have hd2 : (s.data.toList.drop 2).length ≤ s.size := by simp
                    have k1 := Sc.named_len1 (s.data.toList.drop 2)
                    have k2 := Sc.named_len (s.data.toList.drop 2)
                    refine ⟨mk (Sc.named (s.data.toList.drop 2)).1, mk (Sc.named (s.data.toList.drop 2)).2, hz _ (by omega), hz _ (by omega), F, (fun _ => ⟨?_, fun w => ?_⟩), (fun h => by cases h)⟩
                    · unfold Lib.hasPrefix at h
                      rw [List.isPrefixOf_iff_prefix] at h
                      have := h.length_le
                      rw [Sc.len_size] at this
                      exact this
                    · have h := name_r (s.extract 2 s.size) w (by unfold Small; rw [← Sc.len_size, Sc.drop_data]; omega)
                      rwa [Sc.drop_data] at h
                  | false =>
                    rw [h, if_neg (by simp)] at F
                    exact ⟨nm, rs, hznm, hzrs, (by rw [HNM.out, HRS.out]; exact F), (fun h => by cases h), fun _ => ⟨rfl, rfl⟩⟩
                obtain ⟨nm2, rs2, hz2, hz3, F, K1, K2⟩ := hfin
                have HF := Lib.hid F
                clear F
                have LW2 := fun w => lower_r nm2 w hz2
                go_upto_if 58 with (first
                  | (go_at_call 59; (with_reducible refine (H9 _).mono ?_); rintro e w3 ⟨rfl, rfl⟩)
                  | (go_at_call 59; (with_reducible refine (CP _).mono ?_); rintro e w3 ⟨rfl, rfl⟩))
                clear H9 CP
                go_cut [3, 4] (fun a b wx => a = .string (mk (Sc.lower nm2.data.toList)) ∧ b = .string rs2 ∧ Below w.heap.size w wx)
                case first =>
                  cases h : Lib.hasPrefix s.data.toList [60, 47] with
                  | true =>
                    obtain ⟨hs2, K1⟩ := K1 h
                    clear K2
                    go_wp2_with (first
                      | (go_at_call 32; (with_reducible refine (K1 _).mono ?_); rintro e w4 ⟨rfl, b4⟩)
                      | (go_at_call 56; (with_reducible refine (LW2 _).mono ?_); rintro e w5 ⟨rfl, b5⟩))
                    go_meet
                    case rel =>
                      have b4 := b3.trans (b4.mono b3.size)
                      exact ⟨rfl, rfl, b4.trans (b5.mono b4.size)⟩
                  | false =>
                    obtain ⟨rfl, rfl⟩ := K2 h
                    clear K1 K2
                    go_wp2
                    go_meet
                    case rel => exact ⟨rfl, rfl, b3⟩
                case rest =>
                  obtain ⟨rfl, rfl, b4⟩ := hcut
                  clear K1 K2 LW2
                  go_upto_region 18 with fail
                  go_cut [82] (fun c wx => c = .bool (Sc.blocks.contains (Sc.lower nm2.data.toList) && Sc.afterBlock rs2.data.toList) ∧ Below w.heap.size w wx)
                  case first =>
                    have AM : ∀ g w, Strs g Sc.blocks w → Calls Tryz.prog 57 #[.string (mk (Sc.lower nm2.data.toList)), .slice (some ⟨g, 0, none⟩) 62 62] w fun e w' => e = .returned (.bool (Sc.blocks.contains (Sc.lower nm2.data.toList))) ∧ w = w' := fun g w h => among_blocks _ g w h
                    have PF : ∀ w, Calls Tryz.prog 59 #[.string rs2, .string ⟨#[47, 62]⟩] w fun e w' => e = .returned (.bool (Lib.hasPrefix rs2.data.toList [47, 62])) ∧ w = w' := fun w => begins_r rs2 ⟨#[47, 62]⟩ w hz3 (by unfold Small; decide)
                    have EN := fun w => end_r rs2 w
                    have AF := after_cases rs2
                    have AB : Sc.afterBlock rs2.data.toList = (Sc.afterRaw rs2.data.toList || Lib.hasPrefix rs2.data.toList [47, 62]) := rfl
                    generalize Sc.blocks.contains (Sc.lower nm2.data.toList) = r1 at *
                    generalize Sc.afterBlock rs2.data.toList = ab at *
                    generalize Sc.afterRaw rs2.data.toList = a1 at *
                    generalize Sc.ends rs2.data.toList = e1 at *
                    generalize Lib.hasPrefix rs2.data.toList [47, 62] = q1 at *
                    have HAB := Lib.hid AB
                    clear AB
                    cases r1 with
                    | false =>
                      go_wp2_with (first
                        | (go_at_call 61; (with_reducible refine (blocks_r _).mono ?_); rintro e w5 ⟨rfl, st, b5⟩)
                        | (go_at_call 57; (with_reducible refine (AM _ _ st).mono ?_); rintro e w6 ⟨rfl, rfl⟩))
                      go_meet
                      case rel => exact ⟨rfl, b4.trans (b5.mono b4.size)⟩
                    | true =>
                      rcases AF with ⟨h1, h2⟩ | ⟨h1, hz, h2⟩
                      · subst h1
                        have H2 := Lib.hid h2
                        clear h2
                        go_wp2_with (first
                          | (go_at_call 61; (with_reducible refine (blocks_r _).mono ?_); rintro e w5 ⟨rfl, st, b5⟩)
                          | (go_at_call 57; (with_reducible refine (AM _ _ st).mono ?_); rintro e w6 ⟨rfl, rfl⟩)
                          | (go_at_call 40; (with_reducible refine (EN _).mono ?_); rintro e w6 ⟨rfl, rfl⟩))
                        go_meet
                        case rel => exact ⟨by rw [HAB.out, H2.out]; rfl, b4.trans (b5.mono b4.size)⟩
                      · subst h1
                        have H2 := Lib.hid h2
                        clear h2
                        cases hq : (rs2[0] == 62) with
                        | true =>
                          go_wp2_with (first
                            | (go_at_call 61; (with_reducible refine (blocks_r _).mono ?_); rintro e w5 ⟨rfl, st, b5⟩)
                            | (go_at_call 57; (with_reducible refine (AM _ _ st).mono ?_); rintro e w6 ⟨rfl, rfl⟩)
                            | (go_at_call 40; (with_reducible refine (EN _).mono ?_); rintro e w6 ⟨rfl, rfl⟩))
                          go_meet
                          case rel => exact ⟨by rw [HAB.out, H2.out, hq]; rfl, b4.trans (b5.mono b4.size)⟩
                        | false =>
                          go_wp2_with (first
                            | (go_at_call 61; (with_reducible refine (blocks_r _).mono ?_); rintro e w5 ⟨rfl, st, b5⟩)
                            | (go_at_call 57; (with_reducible refine (AM _ _ st).mono ?_); rintro e w6 ⟨rfl, rfl⟩)
                            | (go_at_call 40; (with_reducible refine (EN _).mono ?_); rintro e w6 ⟨rfl, rfl⟩)
                            | (go_at_call 59; (with_reducible refine (PF _).mono ?_); rintro e w6 ⟨rfl, rfl⟩))
                          go_meet
                          case rel => exact ⟨by rw [HAB.out, H2.out, hq]; rfl, b4.trans (b5.mono b4.size)⟩
                  case rest =>
                    obtain ⟨rfl, b5⟩ := hcut
                    have F : X = if (Sc.blocks.contains (Sc.lower nm2.data.toList) && Sc.afterBlock rs2.data.toList) = true then 6
                      else if (decide (0 < Sc.tag s.data.toList) && !Sc.raws.contains (Sc.lower nm2.data.toList) && Sc.blanks (s.data.toList.drop (Sc.tag s.data.toList))) = true then 7 else 0 := HF.out
                    clear HF
                    have AM : ∀ g w, Strs g Sc.raws w → Calls Tryz.prog 57 #[.string (mk (Sc.lower nm2.data.toList)), .slice (some ⟨g, 0, none⟩) 4 4] w fun e w' => e = .returned (.bool (Sc.raws.contains (Sc.lower nm2.data.toList))) ∧ w = w' := fun g w h => among_raws _ g w h
                    generalize (Sc.blocks.contains (Sc.lower nm2.data.toList) && Sc.afterBlock rs2.data.toList) = p7 at *
                    generalize Sc.raws.contains (Sc.lower nm2.data.toList) = r2 at *
                    have TG := fun w => tag_r s w (by unfold Small; omega)
                    have tl := Sc.tag_le s.data.toList
                    rw [Sc.len_size] at tl
                    have hd := Sc.drop_data s (Sc.tag s.data.toList)
                    have BL := fun w => trim_r (s.extract (Sc.tag s.data.toList) s.size) w (by unfold Small; rw [← Sc.len_size, hd]; simp; omega)
                    rw [hd] at BL
                    clear hd
                    have TE := Sc.trimE (s.data.toList.drop (Sc.tag s.data.toList))
                    generalize mk (Sc.trim (s.data.toList.drop (Sc.tag s.data.toList))) = tr at *
                    generalize Sc.tag s.data.toList = n at *
                    generalize Sc.blanks (s.data.toList.drop n) = bl at *
                    cases p7 with
                    | true =>
                      rw [if_pos rfl] at F
                      have HF := Lib.hid F
                      clear F
                      go_wp2
                      go_ret
                      exact ⟨by rw [HF.out]; rfl, b5⟩
                    | false =>
                      rw [if_neg (by simp)] at F
                      by_cases hn : 0 < n
                      · cases r2 with
                        | true =>
                          rw [if_neg (by simp)] at F
                          have HF := Lib.hid F
                          clear F
                          go_wp2_with (first
                            | (go_at_call 8; (with_reducible refine (TG _).mono ?_); rintro e w6 ⟨rfl, b6⟩)
                            | (go_at_call 58; (with_reducible refine (raws_r _).mono ?_); rintro e w7 ⟨rfl, st, b7⟩)
                            | (go_at_call 57; (with_reducible refine (AM _ _ st).mono ?_); rintro e w8 ⟨rfl, rfl⟩))
                          go_ret
                          exact ⟨by rw [HF.out]; rfl, b5.trans ((b6.mono b5.size).trans (b7.mono (Nat.le_trans b5.size b6.size)))⟩
                        | false =>
                          have HF := Lib.hid F
                          clear F
                          cases bl with
                          | true =>
                            go_wp2_with (first
                              | (go_at_call 8; (with_reducible refine (TG _).mono ?_); rintro e w6 ⟨rfl, b6⟩)
                              | (go_at_call 58; (with_reducible refine (raws_r _).mono ?_); rintro e w7 ⟨rfl, st, b7⟩)
                              | (go_at_call 57; (with_reducible refine (AM _ _ st).mono ?_); rintro e w8 ⟨rfl, rfl⟩)
                              | (go_at_call 41; (with_reducible refine (BL _).mono ?_); rintro e w8 ⟨rfl, rfl⟩))
                            go_ret
                            exact ⟨by rw [HF.out]; simp [hn], b5.trans ((b6.mono b5.size).trans (b7.mono (Nat.le_trans b5.size b6.size)))⟩
                          | false =>
                            go_wp2_with (first
                              | (go_at_call 8; (with_reducible refine (TG _).mono ?_); rintro e w6 ⟨rfl, b6⟩)
                              | (go_at_call 58; (with_reducible refine (raws_r _).mono ?_); rintro e w7 ⟨rfl, st, b7⟩)
                              | (go_at_call 57; (with_reducible refine (AM _ _ st).mono ?_); rintro e w8 ⟨rfl, rfl⟩)
                              | (go_at_call 41; (with_reducible refine (BL _).mono ?_); rintro e w8 ⟨rfl, rfl⟩))
                            go_ret
                            exact ⟨by rw [HF.out]; simp [hn], b5.trans ((b6.mono b5.size).trans (b7.mono (Nat.le_trans b5.size b6.size)))⟩
                      · have hn0 : n = 0 := by omega
                        subst hn0
                        rw [if_neg (by simp)] at F
                        have HF := Lib.hid F
                        clear F
                        go_wp2_with (go_at_call 8; (with_reducible refine (TG _).mono ?_); rintro e w6 ⟨rfl, b6⟩)
                        go_ret
                        exact ⟨by rw [HF.out]; rfl, b5.trans (b6.mono b5.size)⟩
end Go.Proofs.YtokhibghnpcogaaGreatDoor
