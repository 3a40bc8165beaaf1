/- The walk of scan.Atx. -/
import Derived.Test.YtokhibghnpcogaaGreatDoorLine1
import Derived.Lib.QuietBelow
open Go Go.RowKit
set_option linter.unusedVariables false
set_option maxRecDepth 100000
namespace Go.Proofs.YtokhibghnpcogaaGreatDoor
open Wk
/-- A text of these bytes. -/
def mk (l : List UInt8) : ByteArray := ⟨l.toArray⟩
theorem mk_data (l : List UInt8) : (mk l).data.toList = l := rfl
theorem mk_of {r : ByteArray} {l : List UInt8} (h : r.data.toList = l) : r = mk l := same_text (by rw [h, mk_data])
theorem mk_size (l : List UInt8) : (mk l).size = l.length := by rw [← Sc.len_size, mk_data]
theorem mk_toList (l : List UInt8) : (mk l).toList = l := by rw [toList_data, mk_data]
theorem mk_self (s : ByteArray) : mk s.data.toList = s := (mk_of rfl).symm
namespace Sc
def fence (l : List UInt8) : UInt8 × Nat × List UInt8 :=
  match l with
  | [] => (0, 0, [])
  | b :: _ =>
    if b ≠ 96 ∧ b ≠ 126 then (0, 0, [])
    else if run b l < 3 ∨ (b = 96 ∧ (l.drop (run b l)).contains 96) then (0, 0, [])
    else (b, run b l, trim (l.drop (run b l)))
def trimR (l : List UInt8) (cs : List UInt8) : List UInt8 := Lib.trimRightS l cs
def atx (l : List UInt8) : Nat × List UInt8 :=
  if run 35 l < 1 ∨ 6 < run 35 l ∨ ends (l.drop (run 35 l)) = false then (0, [])
  else
    let t := trim (l.drop (run 35 l))
    let bare := trimR t [35]
    (run 35 l, if bare = [] ∨ trimR bare [32, 9] ≠ bare then trimR bare [32, 9] else t)
end Sc
theorem trim_v (s : ByteArray) (w : World) (hs : Small s) :
    Calls Tryz.prog 37 #[.string s, .string ⟨#[32, 9]⟩] w fun e w' => e = .returned (.string (mk (Sc.trim s.data.toList))) ∧ Below w.heap.size w w' :=
  (trim_any s w hs).mono fun e w' ⟨r, he, hr, hb⟩ => ⟨by rw [he, mk_of hr], hb⟩
theorem trimR_v (s : ByteArray) (w : World) (hs : Small s) :
    Calls Tryz.prog 38 #[.string s, .string ⟨#[32, 9]⟩] w fun e w' => e = .returned (.string (mk (Sc.trimR s.data.toList [32, 9]))) ∧ Below w.heap.size w w' :=
  Tryz.strings_TrimRight_set s ⟨#[32, 9]⟩ w (by unfold Small at hs; omega) (by decide) (ascii_of_all (by decide))
theorem trimR_35 (s : ByteArray) (w : World) (hs : Small s) :
    Calls Tryz.prog 38 #[.string s, .string ⟨#[35]⟩] w fun e w' => e = .returned (.string (mk (Sc.trimR s.data.toList [35]))) ∧ Below w.heap.size w w' :=
  Tryz.strings_TrimRight_set s ⟨#[35]⟩ w (by unfold Small at hs; omega) (by decide) (ascii_of_all (by decide))
theorem trimR_len (l cs : List UInt8) : (Sc.trimR l cs).length ≤ l.length := by
  unfold Sc.trimR Lib.trimRightS
  rw [List.length_reverse]
  have := Sc.len_dropWhile (p := fun x => cs.contains x) l.reverse
  simpa using this
theorem trim_len (l : List UInt8) : (Sc.trim l).length ≤ l.length := by
  unfold Sc.trim Lib.trimS Lib.trimLeftS
  have h1 := Sc.len_dropWhile (p := fun x => ([32, 9] : List UInt8).contains x) (Lib.trimRightS l [32, 9])
  have h2 := trimR_len l [32, 9]
  unfold Sc.trimR at h2
  omega
theorem behind_contains (c : UInt8) : ∀ l : List UInt8, (Sc.behind c l).isSome = l.contains c
  | [] => rfl
  | b :: t => by
    rw [List.contains_cons, ← behind_contains c t, Sc.behind]
    by_cases h : b = c
    · subst h; simp
    · have h' : (c == b) = false := by rw [beq_eq_false_iff_ne]; exact fun e => h e.symm
      rw [if_neg h, h', Bool.false_or]
theorem index_nonneg (c : UInt8) (l : List UInt8) : decide (0 ≤ Lib.indexByte l c) = l.contains c := by
  rw [← behind_contains]
  rcases Sc.index_behind c l with ⟨h1, h2⟩ | ⟨i, h1, _, h2⟩
  · rw [h2, decide_eq_false (by omega)]; rfl
  · rw [h2, decide_eq_true (by omega)]; rfl

theorem atx_any (s : ByteArray) (w : World) (hs : Small s) :
    Calls Tryz.prog 9 #[.string s] w fun e w' => e = .returned (.tuple #[.int .i64 (Sc.atx s.data.toList).1, .string (mk (Sc.atx s.data.toList).2)]) ∧ Below w.heap.size w w' := by
  have hr := Sc.run_le 35 s.data.toList
  rw [Sc.len_size] at hr
  have hd := Lib.hid (Sc.drop_data s (Sc.run 35 s.data.toList))
  have hz : Small (s.extract (Sc.run 35 s.data.toList) s.size) := by unfold Small at *; rw [← Sc.len_size, hd.out]; simp; omega
  have R : ∀ w, Calls Tryz.prog 35 #[.string s, .int .u8 35] w fun e w' => e = .returned (.int .i64 (Sc.run 35 s.data.toList)) ∧ w = w' := fun w => run_any s 35 w hs
  have E := ends_any (s.extract (Sc.run 35 s.data.toList) s.size)
  have TR := fun w => trim_v (s.extract (Sc.run 35 s.data.toList) s.size) w hz
  rw [hd.out] at E TR
  have hzt : Small (mk (Sc.trim (s.data.toList.drop (Sc.run 35 s.data.toList)))) := by
    have := trim_len (s.data.toList.drop (Sc.run 35 s.data.toList))
    unfold Small at *; rw [mk_size]; simp at this; omega
  have T2 := fun w => trimR_35 _ w hzt
  rw [mk_data] at T2
  have hzb : Small (mk (Sc.trimR (Sc.trim (s.data.toList.drop (Sc.run 35 s.data.toList))) [35])) := by
    have := trimR_len (Sc.trim (s.data.toList.drop (Sc.run 35 s.data.toList))) [35]
    unfold Small at *; rw [mk_size] at *; omega
  have T3 := fun w => trimR_v _ w hzb
  rw [mk_data] at T3
  have F : Sc.atx s.data.toList = if Sc.run 35 s.data.toList < 1 ∨ 6 < Sc.run 35 s.data.toList ∨ Sc.ends (s.data.toList.drop (Sc.run 35 s.data.toList)) = false then (0, []) else (Sc.run 35 s.data.toList, if Sc.trimR (Sc.trim (s.data.toList.drop (Sc.run 35 s.data.toList))) [35] = [] ∨ Sc.trimR (Sc.trimR (Sc.trim (s.data.toList.drop (Sc.run 35 s.data.toList))) [35]) [32, 9] ≠ Sc.trimR (Sc.trim (s.data.toList.drop (Sc.run 35 s.data.toList))) [35] then Sc.trimR (Sc.trimR (Sc.trim (s.data.toList.drop (Sc.run 35 s.data.toList))) [35]) [32, 9] else Sc.trim (s.data.toList.drop (Sc.run 35 s.data.toList))) := rfl
  generalize Sc.atx s.data.toList = X at *
  generalize Sc.run 35 s.data.toList = k at *
  generalize Sc.ends (s.data.toList.drop k) = en at *
  generalize Sc.trim (s.data.toList.drop k) = t at *
  generalize Sc.trimR t [35] = bare at *
  generalize Sc.trimR bare [32, 9] = cut at *
  unfold Small at hs
  by_cases h1 : k < 1 ∨ 6 < k ∨ en = false
  · rw [if_pos h1] at F
    subst F
    by_cases h2 : k < 1
    · clear h1
      go_enter Tryz.func9, Tryz.ntmps9
      go_wp2_with (go_at_call 35; (with_reducible refine (R _).mono ?_); rintro e w1 ⟨rfl, rfl⟩)
      go_ret2
      exact ⟨rfl, Below.refl _ _⟩
    · by_cases h3 : 6 < k
      · clear h1
        go_enter Tryz.func9, Tryz.ntmps9
        go_wp2_with (go_at_call 35; (with_reducible refine (R _).mono ?_); rintro e w1 ⟨rfl, rfl⟩)
        go_ret2
        exact ⟨rfl, Below.refl _ _⟩
      · have h4 : en = false := by rcases h1 with h | h | h; exact absurd h h2; exact absurd h h3; exact h
        subst h4
        clear h1
        go_enter Tryz.func9, Tryz.ntmps9
        go_wp2_with (first
          | (go_at_call 35; (with_reducible refine (R _).mono ?_); rintro e w1 ⟨rfl, rfl⟩)
          | (go_at_call 36; (with_reducible refine (E _).mono ?_); rintro e w1 ⟨rfl, rfl⟩))
        go_ret2
        exact ⟨rfl, Below.refl _ _⟩
  · rw [if_neg h1] at F
    have h2 : 1 ≤ k := by omega
    have h3 : k ≤ 6 := by omega
    have h4 : en = true := by cases en; exact absurd (.inr (.inr rfl)) h1; rfl
    subst h4
    clear h1
    have mt := mk_toList
    have fin : ∀ W : World, Below w.heap.size w W → (∀ c, (if bare = [] ∨ cut ≠ bare then cut else t) = c → (Ending.returned (.tuple #[.int .i64 k, .string (mk c)]) = .returned (.tuple #[.int .i64 X.1, .string (mk X.2)]) ∧ Below w.heap.size w W)) := by
      intro W hb c hc
      rw [F, hc]; exact ⟨rfl, hb⟩
    have FIN := Lib.hid fin
    clear fin F
    by_cases hb : bare = []
    · have HP : Hid ((if bare = [] ∨ cut ≠ bare then cut else t) = cut) := if_pos (.inl hb)
      have hb1 : (bare == ([] : List UInt8)) = true := by simpa using hb
      clear hb
      go_enter Tryz.func9, Tryz.ntmps9
      go_wp2_with (first
        | (go_at_call 35; (with_reducible refine (R _).mono ?_); rintro e w1 ⟨rfl, rfl⟩)
        | (go_at_call 36; (with_reducible refine (E _).mono ?_); rintro e w1 ⟨rfl, rfl⟩)
        | (go_at_call 37; (with_reducible refine (TR _).mono ?_); rintro e w1 ⟨rfl, b1⟩)
        | (go_at_call 38; (with_reducible refine (T2 _).mono ?_); rintro e w2 ⟨rfl, b2⟩)
        | (go_at_call 38; (with_reducible refine (T3 _).mono ?_); rintro e w3 ⟨rfl, b3⟩))
      go_ret2
      exact FIN.out _ (b1.trans ((b2.mono b1.size).trans (b3.mono (Nat.le_trans b1.size b2.size)))) _ HP.out
    · have hb1 : (bare == ([] : List UInt8)) = false := by simpa using hb
      by_cases hc : cut = bare
      · have HP : Hid ((if bare = [] ∨ cut ≠ bare then cut else t) = t) := if_neg (by rintro (h | h); exact hb h; exact h hc)
        have hc1 : (cut == bare) = true := by simpa using hc
        have hc2 : (cut != bare) = false := by simpa using hc
        clear hb hc
        go_enter Tryz.func9, Tryz.ntmps9
        go_wp2_with (first
          | (go_at_call 35; (with_reducible refine (R _).mono ?_); rintro e w1 ⟨rfl, rfl⟩)
          | (go_at_call 36; (with_reducible refine (E _).mono ?_); rintro e w1 ⟨rfl, rfl⟩)
          | (go_at_call 37; (with_reducible refine (TR _).mono ?_); rintro e w1 ⟨rfl, b1⟩)
          | (go_at_call 38; (with_reducible refine (T2 _).mono ?_); rintro e w2 ⟨rfl, b2⟩)
          | (go_at_call 38; (with_reducible refine (T3 _).mono ?_); rintro e w3 ⟨rfl, b3⟩))
        go_ret2
        exact FIN.out _ (b1.trans ((b2.mono b1.size).trans (b3.mono (Nat.le_trans b1.size b2.size)))) _ HP.out
      · have HP : Hid ((if bare = [] ∨ cut ≠ bare then cut else t) = cut) := if_pos (.inr hc)
        have hc1 : (cut == bare) = false := by simpa using hc
        have hc2 : (cut != bare) = true := by simpa using hc
        clear hb hc
        go_enter Tryz.func9, Tryz.ntmps9
        go_wp2_with (first
          | (go_at_call 35; (with_reducible refine (R _).mono ?_); rintro e w1 ⟨rfl, rfl⟩)
          | (go_at_call 36; (with_reducible refine (E _).mono ?_); rintro e w1 ⟨rfl, rfl⟩)
          | (go_at_call 37; (with_reducible refine (TR _).mono ?_); rintro e w1 ⟨rfl, b1⟩)
          | (go_at_call 38; (with_reducible refine (T2 _).mono ?_); rintro e w2 ⟨rfl, b2⟩)
          | (go_at_call 38; (with_reducible refine (T3 _).mono ?_); rintro e w3 ⟨rfl, b3⟩))
        go_ret2
        exact FIN.out _ (b1.trans ((b2.mono b1.size).trans (b3.mono (Nat.le_trans b1.size b2.size)))) _ HP.out
end Go.Proofs.YtokhibghnpcogaaGreatDoor
