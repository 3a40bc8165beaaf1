/- The walk of scan.Ordered. -/
import Derived.Test.YtokhibghnpcogaaGreatDoorLine3
open Go Go.RowKit
set_option linter.unusedVariables false
set_option maxRecDepth 100000
namespace Go.Proofs.YtokhibghnpcogaaGreatDoor
open Wk
namespace Sc
def num (l : List UInt8) : Nat := l.foldl (fun a c => a * 10 + (c.toNat - 48)) 0
def orderedAt (d r : List UInt8) : Nat × UInt8 × Nat :=
  if d.length < 1 ∨ 9 < d.length then (0, 0, 0)
  else match r with
    | [] => (0, 0, 0)
    | b :: t => if (b = 46 ∨ b = 41) ∧ ends t = true then (num d, b, d.length + 1) else (0, 0, 0)
def ordered (l : List UInt8) : Nat × UInt8 × Nat := orderedAt (l.takeWhile digit) (l.dropWhile digit)
theorem digit_bd {b : UInt8} (h : digit b = true) : 48 ≤ b.toNat ∧ b.toNat ≤ 57 := by unfold digit at h; simpa using h
theorem parse_digits : ∀ (l : List UInt8) (acc n : Nat), (∀ b ∈ l, digit b = true) → l.length + n ≤ 9 → acc < 10 ^ n → Lib.parseUint10 acc l = .ok (l.foldl (fun a c => a * 10 + (c.toNat - 48)) acc) ∧ l.foldl (fun a c => a * 10 + (c.toNat - 48)) acc < 10 ^ (n + l.length)
  | [], acc, n, _, _, ha => ⟨rfl, by simpa using ha⟩
  | c :: r, acc, n, h, hl, ha => by
    have hd := digit_bd (h c (by simp))
    simp only [List.length_cons] at hl
    have h9 : 10 ^ n ≤ 10 ^ 8 := Nat.pow_le_pow_right (by omega) (by omega)
    have hp : 10 ^ (n + 1) = 10 * 10 ^ n := by rw [Nat.pow_succ]; omega
    have ih := parse_digits r (acc * 10 + (c.toNat - 48)) (n + 1) (fun b hb => h b (by simp [hb])) (by omega) (by omega)
    have h8 : (10 : Nat) ^ 8 = 100000000 := by decide
    simp only [Lib.parseUint10]
    rw [if_pos hd, if_neg (by omega), if_neg (by omega)]
    refine ⟨ih.1, ?_⟩
    have e : n + (c :: r).length = n + 1 + r.length := by simp; omega
    rw [e]; exact ih.2
theorem num_lt (l : List UInt8) (h : ∀ b ∈ l, digit b = true) (hl : l.length ≤ 9) : num l < 1000000000 := by
  have := (parse_digits l 0 0 h (by omega) (by decide)).2
  have h9 : 10 ^ (0 + l.length) ≤ 10 ^ 9 := Nat.pow_le_pow_right (by omega) (by omega)
  have h8 : (10 : Nat) ^ 9 = 1000000000 := by decide
  unfold num; omega
theorem atoi_digits (l : List UInt8) (h : ∀ b ∈ l, digit b = true) (h1 : 1 ≤ l.length) (hl : l.length ≤ 9) : Lib.atoiAll l = .ok (num l : Int) := by
  cases l with
  | nil => simp at h1
  | cons c r =>
    have hd := digit_bd (h c (by simp))
    have hp := (parse_digits (c :: r) 0 0 h (by omega) (by decide)).1
    have hn := num_lt (c :: r) h hl
    unfold Lib.atoiAll
    simp only
    rw [if_neg (by omega)]
    unfold Lib.parseMag
    rw [if_neg (by simp), hp]
    simp only
    have e : List.foldl (fun a c => a * 10 + (c.toNat - 48)) 0 (c :: r) = num (c :: r) := rfl
    rw [e, if_neg (by omega), if_neg (by omega), if_neg (by omega)]
theorem all_takeWhile {p : UInt8 → Bool} : ∀ l : List UInt8, ∀ b ∈ l.takeWhile p, p b = true
  | [], b, h => by simp at h
  | a :: t, b, h => by
    rw [List.takeWhile_cons] at h
    split at h
    · rename_i hp
      rcases List.mem_cons.1 h with rfl | h
      · exact hp
      · exact all_takeWhile t b h
    · simp at h
theorem take_takeWhile {p : UInt8 → Bool} (l : List UInt8) : l.take (l.takeWhile p).length = l.takeWhile p := by
  have h := List.takeWhile_append_dropWhile (p := p) (l := l)
  have e := congrArg (List.take (l.takeWhile p).length) h
  rw [List.take_left] at e
  exact e.symm
theorem len_takeDrop {p : UInt8 → Bool} (l : List UInt8) : (l.takeWhile p).length + (l.dropWhile p).length = l.length := by
  rw [← List.length_append, List.takeWhile_append_dropWhile]
end Sc
theorem trimL_digits (s : ByteArray) (w : World) :
    Calls Tryz.prog 44 #[.string s, .string ⟨#[48, 49, 50, 51, 52, 53, 54, 55, 56, 57]⟩] w fun e w' => e = .returned (.string (mk (s.data.toList.dropWhile Sc.digit))) ∧ Below w.heap.size w w' := by
  have h := Tryz.strings_TrimLeft_set s ⟨#[48, 49, 50, 51, 52, 53, 54, 55, 56, 57]⟩ w (by decide) (ascii_of_all (by decide))
  have e : Lib.trimLeftS s.data.toList [48, 49, 50, 51, 52, 53, 54, 55, 56, 57] = s.data.toList.dropWhile Sc.digit := by
    unfold Lib.trimLeftS
    congr 1
    funext b
    have key : ∀ n : Fin 256, ([48, 49, 50, 51, 52, 53, 54, 55, 56, 57] : List UInt8).contains n.val.toUInt8 = Sc.digit n.val.toUInt8 := by decide +kernel
    have := key ⟨b.toNat, b.toNat_lt⟩
    simpa using this
  rw [← e]
  exact h
theorem atoi_below {s : ByteArray} {v : Int} {w : World} (h : Calls Tryz.prog 45 #[.string s] w fun e w' => e = .returned (.tuple #[.int .i64 v, .nilIface]) ∧ (w' = w ∨ ∃ t, w' = Lib.bytesWorld w 5 t)) :
    Calls Tryz.prog 45 #[.string s] w fun e w' => e = .returned (.tuple #[.int .i64 v, .nilIface]) ∧ Below w.heap.size w w' :=
  h.mono fun e w' ⟨he, hw⟩ => ⟨he, by
    rcases hw with rfl | ⟨t, rfl⟩
    · exact Below.refl _ _
    · exact Lib.bytesWorld_below _ _ _⟩
set_option maxHeartbeats 1000000 in
theorem ordered_any (s : ByteArray) (w : World) (hs : Small s) :
    Calls Tryz.prog 13 #[.string s] w fun e w' => e = .returned (.tuple #[.int .i64 (Sc.ordered s.data.toList).1, .int .u8 (Sc.ordered s.data.toList).2.1.toNat, .int .i64 (Sc.ordered s.data.toList).2.2]) ∧ Below w.heap.size w w' := by
  have TL := fun w => trimL_digits s w
  have hsum := Sc.len_takeDrop (p := Sc.digit) s.data.toList
  have hall := Sc.all_takeWhile (p := Sc.digit) s.data.toList
  have htk := Sc.take_takeWhile (p := Sc.digit) s.data.toList
  rw [Sc.len_size] at hsum
  unfold Sc.ordered
  generalize s.data.toList.takeWhile Sc.digit = d at *
  generalize s.data.toList.dropWhile Sc.digit = r at *
  have hR : (mk r).data.toList = r := rfl
  have hRz : (mk r).size = r.length := mk_size r
  have hex : (s.extract 0 d.length).data.toList = d := by rw [Sc.take_data]; exact htk
  have hexz : (s.extract 0 d.length).size = d.length := by rw [← Sc.len_size, hex]
  have AT := fun (h1 : 1 ≤ d.length) (h9 : d.length ≤ 9) (w : World) => Tryz.strconv_Atoi_ok (s.extract 0 d.length) (by omega) (Sc.num d) (by rw [hex]; exact Sc.atoi_digits d hall h1 h9) w
  have hnum := fun (h9 : d.length ≤ 9) => Sc.num_lt d hall h9
  clear htk hex hexz hall
  have F1 : d.length < 1 ∨ 9 < d.length → Sc.orderedAt d r = (0, 0, 0) := fun h => if_pos h
  have F2 : ¬ (d.length < 1 ∨ 9 < d.length) → r = [] → Sc.orderedAt d r = (0, 0, 0) := fun h hr => by subst hr; exact if_neg h
  have F3 : ¬ (d.length < 1 ∨ 9 < d.length) → ∀ b t, r = b :: t → Sc.orderedAt d r = if (b = 46 ∨ b = 41) ∧ Sc.ends t = true then (Sc.num d, b, d.length + 1) else (0, 0, 0) := fun h b t hr => by subst hr; exact if_neg h
  generalize mk r = R at *
  have hk : (s.size : Int) - (R.size : Int) = (d.length : Int) := by omega
  have hle : R.size ≤ s.size := by omega
  have hKle : d.length ≤ s.size := by omega
  clear hRz hsum
  generalize Sc.orderedAt d r = X at *
  generalize Sc.num d = N at *
  generalize d.length = K at *
  unfold Small at hs
  by_cases h1 : K < 1
  · have F := F1 (.inl h1)
    subst F
    clear F1 F2 F3 AT hnum hR
    go_enter Tryz.func13, Tryz.ntmps13
    go_wp2_with (go_at_call 44; (with_reducible refine (TL _).mono ?_); rintro e w1 ⟨rfl, b1⟩)
    go_ret3
    exact ⟨rfl, b1⟩
  · by_cases h9 : 9 < K
    · have F := F1 (.inr h9)
      subst F
      clear F1 F2 F3 AT hnum hR
      go_enter Tryz.func13, Tryz.ntmps13
      go_wp2_with (go_at_call 44; (with_reducible refine (TL _).mono ?_); rintro e w1 ⟨rfl, b1⟩)
      go_ret3
      exact ⟨rfl, b1⟩
    · have hn : ¬ (K < 1 ∨ 9 < K) := by omega
      have k1 : 1 ≤ K := by omega
      have k9 : K ≤ 9 := by omega
      have AT := fun w => atoi_below (AT k1 k9 w)
      have hnum := hnum k9
      have F2 := F2 hn
      have F3 := F3 hn
      clear F1 hn h1 h9
      by_cases hr : r = []
      · have F := F2 hr
        subst F
        have h1 : (R.toList == ([] : List UInt8)) = true := by rw [toList_data, hR, hr]; rfl
        clear F2 F3 AT hnum hR hr
        go_enter Tryz.func13, Tryz.ntmps13
        go_wp2_with (go_at_call 44; (with_reducible refine (TL _).mono ?_); rintro e w1 ⟨rfl, b1⟩)
        go_ret3
        exact ⟨rfl, b1⟩
      · have hz : 0 < R.size := Sc.size_pos (by rw [hR]; exact hr)
        have h1 : (R.toList == ([] : List UInt8)) = false := by rw [toList_data, hR, beq_eq_false_iff_ne]; exact hr
        have hh := Sc.head_of hz
        rw [hR] at hh
        have F := F3 _ _ hh
        have hd := Sc.drop_data R 1
        rw [hR] at hd
        have E := fun w => ends_any (R.extract 1 R.size) w
        rw [hd] at E
        have n46 : ∀ b : UInt8, ((b.toNat : Int) != 46) = (b != 46) := fun b => bne_u8 b 46 (by decide)
        have n41 : ∀ b : UInt8, ((b.toNat : Int) != 41) = (b != 41) := fun b => bne_u8 b 41 (by decide)
        generalize Sc.ends (r.drop 1) = en at *
        clear F2 F3 hr hh hd hR
        by_cases h46 : R[0] = 46
        · have a1 : (R[0] != 46) = false := by simpa using h46
          cases en with
          | false =>
            rw [if_neg (by simp)] at F
            subst F
            clear h46
            go_enter Tryz.func13, Tryz.ntmps13
            go_wp2_with (first
              | (go_at_call 44; (with_reducible refine (TL _).mono ?_); rintro e w1 ⟨rfl, b1⟩)
              | (go_at_call 36; (with_reducible refine (E _).mono ?_); rintro e w2 ⟨rfl, rfl⟩))
            go_ret3
            exact ⟨rfl, b1⟩
          | true =>
            rw [if_pos ⟨.inl h46, rfl⟩] at F
            have HF := Lib.hid F
            clear h46 F
            go_enter Tryz.func13, Tryz.ntmps13
            go_wp2_with (first
              | (go_at_call 44; (with_reducible refine (TL _).mono ?_); rintro e w1 ⟨rfl, b1⟩)
              | (go_at_call 36; (with_reducible refine (E _).mono ?_); rintro e w2 ⟨rfl, rfl⟩)
              | (go_at_call 45; (with_reducible refine (AT _).mono ?_); rintro e w3 ⟨rfl, b3⟩))
            go_quiet (fail)
            go_wp2
            go_ret3
            exact ⟨by rw [HF.out]; rfl, (b1.trans (b3.mono b1.size)).trans ((drewN_below _ _).mono (Nat.le_trans b1.size b3.size))⟩
        · have a1 : (R[0] != 46) = true := by simpa using h46
          by_cases h41 : R[0] = 41
          · have a2 : (R[0] != 41) = false := by simpa using h41
            cases en with
            | false =>
              rw [if_neg (by simp)] at F
              subst F
              clear h46 h41
              go_enter Tryz.func13, Tryz.ntmps13
              go_wp2_with (first
                | (go_at_call 44; (with_reducible refine (TL _).mono ?_); rintro e w1 ⟨rfl, b1⟩)
                | (go_at_call 36; (with_reducible refine (E _).mono ?_); rintro e w2 ⟨rfl, rfl⟩))
              go_ret3
              exact ⟨rfl, b1⟩
            | true =>
              rw [if_pos ⟨.inr h41, rfl⟩] at F
              have HF := Lib.hid F
              clear h46 h41 F
              go_enter Tryz.func13, Tryz.ntmps13
              go_wp2_with (first
                | (go_at_call 44; (with_reducible refine (TL _).mono ?_); rintro e w1 ⟨rfl, b1⟩)
                | (go_at_call 36; (with_reducible refine (E _).mono ?_); rintro e w2 ⟨rfl, rfl⟩)
                | (go_at_call 45; (with_reducible refine (AT _).mono ?_); rintro e w3 ⟨rfl, b3⟩))
              go_quiet (fail)
              go_wp2
              go_ret3
              exact ⟨by rw [HF.out]; rfl, (b1.trans (b3.mono b1.size)).trans ((drewN_below _ _).mono (Nat.le_trans b1.size b3.size))⟩
          · have a2 : (R[0] != 41) = true := by simpa using h41
            rw [if_neg (by rintro ⟨h | h, _⟩; exact h46 h; exact h41 h)] at F
            subst F
            clear h46 h41
            go_enter Tryz.func13, Tryz.ntmps13
            go_wp2_with (go_at_call 44; (with_reducible refine (TL _).mono ?_); rintro e w1 ⟨rfl, b1⟩)
            go_ret3
            exact ⟨rfl, b1⟩
end Go.Proofs.YtokhibghnpcogaaGreatDoor
