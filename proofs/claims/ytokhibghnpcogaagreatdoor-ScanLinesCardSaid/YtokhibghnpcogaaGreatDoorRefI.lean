/- The walk of the reference's Atx. -/
import Derived.Test.YtokhibghnpcogaaGreatDoorRefH
open Go Go.RowKit
set_option linter.unusedVariables false
set_option linter.unusedSimpArgs false
set_option maxRecDepth 100000
namespace Go.Proofs.YtokhibghnpcogaaGreatDoor
open Wk
namespace Sc
theorem trimR_snoc {cs : List UInt8} {b : UInt8} {t : List UInt8} (h : cs.contains b = true) : trimR (t ++ [b]) cs = trimR t cs := by
  unfold trimR Lib.trimRightS
  rw [List.reverse_append]
  show (List.dropWhile _ (b :: t.reverse)).reverse = _
  rw [List.dropWhile_cons, if_pos h]
theorem trimR_fix {cs : List UInt8} {b : UInt8} {t : List UInt8} (h : cs.contains b = false) : trimR (t ++ [b]) cs = t ++ [b] := by
  have := trimR_last t [] cs b rfl h
  rwa [List.append_nil] at this
/-- A trimmed text begins with no blank. -/
theorem trim_head (l : List UInt8) : NB (trim l) := by
  intro b t e
  unfold trim Lib.trimS Lib.trimLeftS at e
  have := List.head?_dropWhile_not (fun x => ([32, 9] : List UInt8).contains x) (Lib.trimRightS l [32, 9])
  rw [e] at this
  rw [← blank_set]
  simpa using this
theorem trim_of_NB {l : List UInt8} (h : NB l) : trim l = trimR l [32, 9] := by
  unfold trim Lib.trimS trimR
  have hp : NB (Lib.trimRightS l [32, 9]) := by
    intro b t e
    have hpre : Lib.trimRightS l [32, 9] <+: l := by
      unfold Lib.trimRightS
      have := List.dropWhile_suffix (fun x => ([32, 9] : List UInt8).contains x) (l := l.reverse)
      rw [← List.reverse_prefix] at this
      simpa using this
    obtain ⟨r, hr⟩ := hpre
    exact h b (t ++ r) (by rw [← hr, e]; rfl)
  unfold Lib.trimLeftS
  cases e : Lib.trimRightS l [32, 9] with
  | nil => rfl
  | cons b t => rw [List.dropWhile_cons, blank_set, hp b t e]; simp
/-- The last byte of a trimmed text is no blank. -/
theorem trim_last (l : List UInt8) {a : List UInt8} {x : UInt8} (h : trim l = a ++ [x]) : blank x = false := by
  unfold trim Lib.trimS Lib.trimLeftS at h
  have hs : (a ++ [x]) <:+ Lib.trimRightS l [32, 9] := h ▸ List.dropWhile_suffix _
  obtain ⟨r, hr⟩ := hs
  unfold Lib.trimRightS at hr
  have e : (l.reverse.dropWhile fun x => ([32, 9] : List UInt8).contains x) = x :: (a.reverse ++ r.reverse) := by
    have := congrArg List.reverse hr
    rw [List.reverse_reverse] at this
    rw [← this]; simp
  have := List.head?_dropWhile_not (fun x => ([32, 9] : List UInt8).contains x) l.reverse
  rw [e] at this
  rw [← blank_set]
  simpa using this
end Sc
set_option maxHeartbeats 2000000 in
theorem atx_r (s : ByteArray) (w : World) (hs : Small s) :
    Calls Tryz.prog 10 #[.string s] w fun e w' => e = .returned (.tuple #[.int .i64 (Sc.atx s.data.toList).1, .string (mk (Sc.atx s.data.toList).2)]) ∧ Below w.heap.size w w' := by
  have RU : ∀ w, Calls Tryz.prog 39 #[.string s, .int .u8 35] w fun e w' => e = .returned (.int .i64 (Sc.run 35 s.data.toList)) ∧ w = w' := fun w => run_r s 35 w hs
  have hr := Sc.run_le 35 s.data.toList
  rw [Sc.len_size] at hr
  have hX : Sc.atx s.data.toList = if Sc.run 35 s.data.toList < 1 ∨ 6 < Sc.run 35 s.data.toList ∨ Sc.ends (s.data.toList.drop (Sc.run 35 s.data.toList)) = false then (0, []) else
    (Sc.run 35 s.data.toList, if Sc.trimR (Sc.trim (s.data.toList.drop (Sc.run 35 s.data.toList))) [35] = [] ∨ Sc.trimR (Sc.trimR (Sc.trim (s.data.toList.drop (Sc.run 35 s.data.toList))) [35]) [32, 9] ≠ Sc.trimR (Sc.trim (s.data.toList.drop (Sc.run 35 s.data.toList))) [35] then Sc.trimR (Sc.trimR (Sc.trim (s.data.toList.drop (Sc.run 35 s.data.toList))) [35]) [32, 9] else Sc.trim (s.data.toList.drop (Sc.run 35 s.data.toList))) := rfl
  generalize Sc.atx s.data.toList = X at *
  generalize Sc.run 35 s.data.toList = n at *
  have hz : Small (s.extract n s.size) := by unfold Small at *; rw [← Sc.len_size, Sc.drop_data]; simp; omega
  have EN := fun w => end_r (s.extract n s.size) w
  have TR := fun w => trim_r (s.extract n s.size) w hz
  rw [Sc.drop_data] at EN TR
  have TH := Sc.trim_head (s.data.toList.drop n)
  have TL := fun a x => Sc.trim_last (s.data.toList.drop n) (a := a) (x := x)
  have tl := trim_len (s.data.toList.drop n)
  generalize Sc.ends (s.data.toList.drop n) = en at *
  obtain ⟨t, ht⟩ : ∃ t : ByteArray, mk (Sc.trim (s.data.toList.drop n)) = t := ⟨_, rfl⟩
  have htd : Sc.trim (s.data.toList.drop n) = t.data.toList := by rw [← ht]; rfl
  rw [ht] at TR
  rw [htd] at hX TH TL tl
  clear ht htd
  have hts : t.size ≤ s.size := by rw [Sc.len_size] at tl; simp at tl; omega
  clear tl
  by_cases c1 : n < 1
  · have F := Lib.hid (show X = (0, []) by rw [hX, if_pos (.inl c1)])
    clear hX TH TL
    go_enter Tryz.func10, Tryz.ntmps10
    go_wp2_with (go_at_call 39; (with_reducible refine (RU _).mono ?_); rintro e w1 ⟨rfl, rfl⟩)
    go_ret2
    exact ⟨by rw [F.out]; rfl, Below.refl _ _⟩
  by_cases c2 : 6 < n
  · have F := Lib.hid (show X = (0, []) by rw [hX, if_pos (.inr (.inl c2))])
    clear hX TH TL
    go_enter Tryz.func10, Tryz.ntmps10
    go_wp2_with (go_at_call 39; (with_reducible refine (RU _).mono ?_); rintro e w1 ⟨rfl, rfl⟩)
    go_ret2
    exact ⟨by rw [F.out]; rfl, Below.refl _ _⟩
  have hf1 : decide ((n : Int) < 1) = false := by simp; omega
  have hf2 : decide (6 < (n : Int)) = false := by simp; omega
  cases en with
  | false =>
    have F := Lib.hid (show X = (0, []) by rw [hX, if_pos (.inr (.inr rfl))])
    clear hX TH TL
    go_enter Tryz.func10, Tryz.ntmps10
    go_wp2_with (first
      | (go_at_call 39; (with_reducible refine (RU _).mono ?_); rintro e w1 ⟨rfl, rfl⟩)
      | (go_at_call 40; (with_reducible refine (EN _).mono ?_); rintro e w1 ⟨rfl, rfl⟩))
    go_ret2
    exact ⟨by rw [F.out]; rfl, Below.refl _ _⟩
  | true =>
    rw [if_neg (by rintro (h | h | h); exact c1 h; exact c2 h; cases h)] at hX
    have HX := Lib.hid hX
    clear hX
    have HTH := Lib.hid TH
    have HTL := Lib.hid TL
    clear TH TL
    unfold Small at hs
    have e35 : ∀ b : UInt8, ((b.toNat : Int) == 35) = (b == 35) := fun b => beq_u8 b 35 (by decide)
    go_enter Tryz.func10, Tryz.ntmps10
    go_wp2_with (first
      | (go_at_call 39; (with_reducible refine (RU _).mono ?_); rintro e w1 ⟨rfl, rfl⟩)
      | (go_at_call 40; (with_reducible refine (EN _).mono ?_); rintro e w1 ⟨rfl, rfl⟩)
      | (go_at_call 41; (with_reducible refine (TR _).mono ?_); rintro e w1 ⟨rfl, rfl⟩))
    clear RU EN TR
    go_loop [6] (fun i => ∃ k : Nat, i = .int .i64 k ∧ k ≤ t.size ∧ Hid (Sc.trimR t.data.toList [35] = Sc.trimR (t.data.toList.take k) [35])) (fun i => (intOf i).toNat)
    case atStart => exact ⟨t.size, rfl, Nat.le_refl _, Lib.hid (by rw [List.take_of_length_le (by simp)])⟩
    case round =>
      obtain ⟨k, rfl, hk, HK⟩ := hrel
      by_cases hk0 : 0 < k
      · obtain ⟨j, rfl⟩ : ∃ j, k = j + 1 := ⟨k - 1, by omega⟩
        have hj : j < t.size := by omega
        have TS := take_snoc t j hj
        by_cases hb : t[j] = 35
        · have q : (t[j] == 35) = true := by simp [hb]
          have HK2 := Lib.hid (show Sc.trimR t.data.toList [35] = Sc.trimR (t.data.toList.take j) [35] by rw [HK.out, TS, hb, Sc.trimR_snoc (by decide)])
          clear hb TS
          go_wp2
          go_round
          case rel => exact ⟨j, by go_num, by omega, HK2⟩
          case measure => simp [intOf]; try omega
        · have q : (t[j] == 35) = false := by simp [hb]
          have hbare : Sc.trimR t.data.toList [35] = t.data.toList.take (j + 1) := by rw [HK.out, TS, Sc.trimR_fix (by simp [hb])]
          have hne : t.data.toList.take (j + 1) ≠ [] := by rw [TS]; simp
          have BL := fun w => blank_r t[j] w
          have tr0 : ∀ w, Calls Tryz.prog 41 #[.string (t.extract 0 (j + 1))] w fun e w' => e = .returned (.string (mk (Sc.trim (t.data.toList.take (j + 1))))) ∧ w = w' := fun w => by
            have h := trim_r (t.extract 0 (j + 1)) w (by unfold Small; rw [← Sc.len_size, Sc.take_data]; simp; omega)
            rwa [Sc.take_data] at h
          have hnb : Sc.NB (t.data.toList.take (j + 1)) := by
            intro b l e
            have := HTH.out b (l ++ t.data.toList.drop (j + 1)) (by rw [← List.cons_append, ← e, List.take_append_drop])
            exact this
          have ms : mk t.data.toList = t := (mk_of rfl).symm
          by_cases hlast : j + 1 < t.size
          · cases hbl : Sc.blank t[j] with
            | true =>
              have F := Lib.hid (show X = (n, Sc.trim (t.data.toList.take (j + 1))) by
                have hcond : Sc.trimR (t.data.toList.take (j + 1)) [32, 9] ≠ t.data.toList.take (j + 1) := by
                  rw [TS, Sc.trimR_snoc (by rw [Sc.blank_set]; exact hbl)]
                  intro h
                  have h1 := congrArg List.length h
                  have h2 := trimR_len (t.data.toList.take j) [32, 9]
                  rw [List.length_append] at h1
                  simp only [List.length_singleton] at h1
                  omega
                rw [HX.out, hbare, if_pos (.inr hcond), Sc.trim_of_NB hnb])
              rw [hbl] at BL
              clear hbl hbare hne hb TS hnb ms
              go_wp2_with (first
                | (go_at_call 42; (with_reducible refine (BL _).mono ?_); rintro e w' ⟨rfl, rfl⟩)
                | (go_at_call 41; (with_reducible refine (tr0 _).mono ?_); rintro e w' ⟨rfl, rfl⟩))
              try (go_quiet (fail); go_wp2)
              go_ret2
              exact ⟨by rw [F.out]; rfl, by first | exact Below.refl _ _ | exact drewN_below _ _⟩
            | false =>
              have F := Lib.hid (show X = (n, t.data.toList) by
                rw [HX.out, hbare, if_neg]
                rintro (h | h)
                · exact hne h
                · exact h (by rw [TS, Sc.trimR_fix (by rw [Sc.blank_set]; exact hbl)]))
              have MS := Lib.hid ms
              rw [hbl] at BL
              clear hbl hbare hne hb TS hnb ms tr0
              go_wp2_with (go_at_call 42; (with_reducible refine (BL _).mono ?_); rintro e w' ⟨rfl, rfl⟩)
              try (go_quiet (fail); go_wp2)
              go_ret2
              exact ⟨by rw [F.out, MS.out]; rfl, by first | exact Below.refl _ _ | exact drewN_below _ _⟩
          · have hall : t.data.toList.take (j + 1) = t.data.toList := List.take_of_length_le (by simp; omega)
            have hbl : Sc.blank t[j] = false := HTL.out (t.data.toList.take j) t[j] (by rw [← TS, hall])
            have F := Lib.hid (show X = (n, t.data.toList) by
              rw [HX.out, hbare, if_neg]
              rintro (h | h)
              · exact hne h
              · exact h (by rw [TS, Sc.trimR_fix (by rw [Sc.blank_set]; exact hbl)]))
            have MS := Lib.hid ms
            clear hbl hbare hne hb TS hnb ms tr0 BL hall
            go_wp2
            try (go_quiet (fail); go_wp2)
            go_ret2
            exact ⟨by rw [F.out, MS.out]; rfl, by first | exact Below.refl _ _ | exact drewN_below _ _⟩
      · have k0 : k = 0 := by omega
        subst k0
        have F := Lib.hid (show X = (n, []) by
          have hb : Sc.trimR t.data.toList [35] = [] := by rw [HK.out]; rfl
          rw [HX.out, hb, if_pos (.inl rfl)]; rfl)
        have tr0 : ∀ w, Calls Tryz.prog 41 #[.string ByteArray.empty] w fun e w' => e = .returned (.string (mk [])) ∧ w = w' := fun w => by
          exact trim_r ByteArray.empty w (by unfold Small; decide)
        go_wp2_with (go_at_call 41; (with_reducible refine (tr0 _).mono ?_); rintro e w' ⟨rfl, rfl⟩)
        try (go_quiet (fail); go_wp2)
        go_ret2
        exact ⟨by rw [F.out]; rfl, by first | exact Below.refl _ _ | exact drewN_below _ _⟩
end Go.Proofs.YtokhibghnpcogaaGreatDoor
