/- Parts of this session's proof, one behind the other: E11 E12 E13 E14 E15 E16 E17. -/
import Derived.Test.YtehmcahdjldhbaaGreatDoorZ18
import Derived.Lib.IndexBytes
import Derived.Laws.Cover4
import Derived.Shelf.Spec.DecodeRune
import Derived.Shelf.Spec.BuilderWrite
section
/- Package entity: what digits are; all. -/
open Go Go.RowKit
set_option linter.unusedVariables false
set_option linter.unusedSimpArgs false
set_option maxRecDepth 100000
namespace Go.Proofs.YtehmcahdjldhbaaGreatDoor
open Wk
namespace Tx
theorem or32 (b : UInt8) : bits .or .u8 (b.toNat : Int) 32 = ((b ||| 32).toNat : Int) := by
  have key : ∀ n : Fin 256, bits .or .u8 (n.val : Int) 32 = ((n.val.toUInt8 ||| 32).toNat : Int) := by decide +kernel
  have := key ⟨b.toNat, b.toNat_lt⟩
  simpa only [Nat.toUInt8, UInt8.ofNat_toNat] using this
def hexd (b : UInt8) : Bool := Sc.digit b || (decide (97 ≤ (b ||| 32).toNat) && decide ((b ||| 32).toNat ≤ 102))
theorem digit_c (b : UInt8) (w : World) : Calls Tryz.prog 143 #[.int .u8 b.toNat] w fun e w' => e = .returned (.bool (Sc.digit b)) ∧ w' = w := (digit_b b w).mono fun e w' ⟨h1, h2⟩ => ⟨h1, h2.symm⟩
theorem hex_any (b : UInt8) (w : World) : Calls Tryz.prog 169 #[.int .u8 b.toNat] w fun e w' => e = .returned (.bool (hexd b)) ∧ w' = w := by
  have ho := or32 b
  have hF : Hid (hexd b = (Sc.digit b || (decide (97 ≤ (b ||| 32).toNat) && decide ((b ||| 32).toNat ≤ 102)))) := Lib.hid rfl
  generalize hexd b = r at *
  generalize (b ||| 32).toNat = n at *
  have DG := fun w => digit_c b w
  generalize Sc.digit b = d at *
  go_enter Tryz.func169, Tryz.ntmps169
  go_wp2_with (go_at_call 143; (with_reducible refine (DG _).mono ?_); rintro e w2 ⟨rfl, rfl⟩)
  all_goals go_ret
  all_goals refine ⟨ret_bool ?_, rfl⟩
  all_goals rw [hF.out]
  all_goals clear hF DG
  · simp_all
  · rename_i q1 q2
    have h1 : 97 ≤ n := by omega
    have h2 : d = false := by simpa using q1
    rw [h2, decide_eq_true h1]
    by_cases h3 : n ≤ 102
    · rw [decide_eq_true h3, decide_eq_true (show (n : Int) ≤ 102 by omega)]; rfl
    · rw [decide_eq_false h3, decide_eq_false (show ¬ (n : Int) ≤ 102 by omega)]; rfl
  · rename_i q1 q2
    have h1 : ¬ 97 ≤ n := by omega
    have h2 : d = false := by simpa using q1
    rw [h2, decide_eq_false h1]; rfl
def allD (l : Bs) : Bool := l.all Sc.digit
set_option maxHeartbeats 4000000 in
theorem allD_any (s : ByteArray) (w : World) (hs : s.size ≤ 4000000000) :
    Calls Tryz.prog 196 #[.string s, .func (.func 143) #[] #[]] w fun e w' => e = .returned (.bool (allD s.data.toList)) ∧ w' = w := by
  have hlen := Sc.len_size s
  generalize hR : allD s.data.toList = R
  go_enter Tryz.func196, Tryz.ntmps196
  go_wp2
  go_loopw [5, 8] (fun _ kk wr => ∃ k : Nat, kk = .int .i64 k ∧ k ≤ s.size ∧ Hid ((s.data.toList.drop k).all Sc.digit = R) ∧ wr = w) (fun _ kk _ => s.size - (Lib.intOf kk).toNat)
  case atStart => exact ⟨0, rfl, Nat.zero_le _, Lib.hid hR, rfl⟩
  case round =>
    obtain ⟨k, rfl, hk, hA, rfl⟩ := hrel
    by_cases hlt : k < s.size
    · have hd := Sc.drop_at s k hlt
      have hA := Lib.hid (hd ▸ hA.out)
      clear hd hR
      have CL := fun w => digit_c s[k] w
      cases hq : Sc.digit s[k] with
      | true =>
        have H1 : Hid ((s.data.toList.drop (k + 1)).all Sc.digit = R) := by
          apply Lib.hid; have := hA.out; rw [List.all_cons, hq, Bool.true_and] at this; exact this
        rw [hq] at CL
        clear hA hq
        go_wp2_with (go_at_call 143; (with_reducible refine (CL _).mono ?_); rintro e w2 ⟨rfl, rfl⟩)
        go_roundw
        case rel => exact ⟨k + 1, by go_num, by omega, H1, by first | rfl | trivial⟩
        case measure => simp [Lib.intOf]; omega
      | false =>
        have H1 : R = false := by have := hA.out; rw [List.all_cons, hq, Bool.false_and] at this; exact this.symm
        rw [hq] at CL
        have H1 := Lib.hid H1
        clear hA hq
        go_wp2_with (go_at_call 143; (with_reducible refine (CL _).mono ?_); rintro e w2 ⟨rfl, rfl⟩)
        go_ret
        exact ⟨ret_bool (by rw [H1.out]), rfl⟩
    · have H1 : R = true := by have := hA.out; rw [List.drop_eq_nil_of_le (by omega)] at this; exact this.symm
      have H1 := Lib.hid H1
      clear hA hR
      go_wp2
      go_ret
      exact ⟨ret_bool (by rw [H1.out]), rfl⟩
def allH (l : Bs) : Bool := l.all hexd
set_option maxHeartbeats 4000000 in
theorem allH_any (s : ByteArray) (w : World) (hs : s.size ≤ 4000000000) :
    Calls Tryz.prog 196 #[.string s, .func (.func 169) #[] #[]] w fun e w' => e = .returned (.bool (allH s.data.toList)) ∧ w' = w := by
  have hlen := Sc.len_size s
  generalize hR : allH s.data.toList = R
  go_enter Tryz.func196, Tryz.ntmps196
  go_wp2
  go_loopw [5, 8] (fun _ kk wr => ∃ k : Nat, kk = .int .i64 k ∧ k ≤ s.size ∧ Hid ((s.data.toList.drop k).all hexd = R) ∧ wr = w) (fun _ kk _ => s.size - (Lib.intOf kk).toNat)
  case atStart => exact ⟨0, rfl, Nat.zero_le _, Lib.hid hR, rfl⟩
  case round =>
    obtain ⟨k, rfl, hk, hA, rfl⟩ := hrel
    by_cases hlt : k < s.size
    · have hd := Sc.drop_at s k hlt
      have hA := Lib.hid (hd ▸ hA.out)
      clear hd hR
      have CL := fun w => hex_any s[k] w
      cases hq : hexd s[k] with
      | true =>
        have H1 : Hid ((s.data.toList.drop (k + 1)).all hexd = R) := by
          apply Lib.hid; have := hA.out; rw [List.all_cons, hq, Bool.true_and] at this; exact this
        rw [hq] at CL
        clear hA hq
        go_wp2_with (go_at_call 169; (with_reducible refine (CL _).mono ?_); rintro e w2 ⟨rfl, rfl⟩)
        go_roundw
        case rel => exact ⟨k + 1, by go_num, by omega, H1, by first | rfl | trivial⟩
        case measure => simp [Lib.intOf]; omega
      | false =>
        have H1 : R = false := by have := hA.out; rw [List.all_cons, hq, Bool.false_and] at this; exact this.symm
        rw [hq] at CL
        have H1 := Lib.hid H1
        clear hA hq
        go_wp2_with (go_at_call 169; (with_reducible refine (CL _).mono ?_); rintro e w2 ⟨rfl, rfl⟩)
        go_ret
        exact ⟨ret_bool (by rw [H1.out]), rfl⟩
    · have H1 : R = true := by have := hA.out; rw [List.drop_eq_nil_of_le (by omega)] at this; exact this.symm
      have H1 := Lib.hid H1
      clear hA hR
      go_wp2
      go_ret
      exact ⟨ret_bool (by rw [H1.out]), rfl⟩
end Tx
end Go.Proofs.YtehmcahdjldhbaaGreatDoor
end
section
/- Package strconv: ParseInt of few digits, at the bases 10. -/
open Go Go.RowKit
set_option linter.unusedVariables false
set_option linter.unusedSimpArgs false
set_option maxRecDepth 100000
namespace Go.Proofs.YtehmcahdjldhbaaGreatDoor
open Wk
namespace Tx
/-- What a digit is worth. -/
def dval (b : UInt8) : Nat := if Sc.digit b = true then b.toNat - 48 else (b ||| 32).toNat - 87
def pval (base : Nat) (acc : Nat) (l : Bs) : Nat := l.foldl (fun a c => a * base + dval c) acc
theorem lower_c (b : UInt8) (w : World) : Calls Tryz.prog 222 #[.int .u8 b.toNat] w fun e w' => e = .returned (.int .u8 (b ||| 32).toNat) ∧ w' = w := by
  have ho := or32 b
  go_enter Tryz.func222, Tryz.ntmps222
  go_wp2
  go_ret
  exact ⟨rfl, rfl⟩
theorem dval_digit {b : UInt8} (h : Sc.digit b = true) : dval b = b.toNat - 48 ∧ 48 ≤ b.toNat ∧ b.toNat ≤ 57 := by
  have := digit_bd' h
  unfold dval; rw [if_pos h]; exact ⟨rfl, this⟩
where
  digit_bd' {b : UInt8} (h : Sc.digit b = true) : 48 ≤ b.toNat ∧ b.toNat ≤ 57 := by unfold Sc.digit at h; simpa using h
theorem dval_hex {b : UInt8} (h : hexd b = true) (hd : Sc.digit b = false) : dval b = (b ||| 32).toNat - 87 ∧ 97 ≤ (b ||| 32).toNat ∧ (b ||| 32).toNat ≤ 102 := by
  unfold hexd at h
  rw [hd, Bool.false_or, Bool.and_eq_true, decide_eq_true_iff, decide_eq_true_iff] at h
  unfold dval; rw [if_neg (by rw [hd]; decide)]; exact ⟨rfl, h.1, h.2⟩
set_option maxHeartbeats 16000000 in
theorem puint10_any (s : ByteArray) (w : World) (hz : 0 < s.size) (hs : s.size ≤ 7) (hv : s.data.toList.all Sc.digit = true) :
    Calls Tryz.prog 215 #[.string s, .int .i64 10, .int .i64 32] w fun e w' => e = .returned (.tuple #[.int .u64 (pval 10 0 s.data.toList), .nilIface]) ∧ Below w.heap.size w w' ∧ pval 10 0 s.data.toList < 10 ^ 7 := by
  have kc := Lib.run_convert_string_bytes (P := Tryz.prog) w 9 118 5 s Tryz.underlying9 Tryz.underlying118 Tryz.underlying5
  have hB := Bytes.conv w s
  have hb := Lib.bytesWorld_below w 5 s
  have hzz := Lib.bytesWorld_size w 5 s
  generalize Lib.bytesWorld w 5 s = w1 at *
  generalize grownCap w s.size 0 5 = cap at *
  have hl := Sc.len_size s
  have hne : s.toList.isEmpty = false := by rw [empty_iff, decide_eq_false_iff_not]; intro e; rw [e] at hl; simp at hl; omega
  have hall : ∀ k, (h : k < s.data.toList.length) → Sc.digit s.data.toList[k] = true := fun k h => List.all_eq_true.1 hv _ (List.getElem_mem h)
  have hR : Hid (pval 10 0 s.data.toList = pval 10 0 s.data.toList) := Lib.hid rfl
  generalize hR2 : pval 10 0 s.data.toList = R at *
  have LO := fun (b : UInt8) w => lower_c b w
  clear hv hR
  go_enter Tryz.func215, Tryz.ntmps215
  go_wp2
  go_loopw [12, 13, 101] (fun uv nv kv wr => ∃ k acc : Nat, uv = .bool false ∧ nv = .int .u64 acc ∧ kv = .int .i64 k ∧ k ≤ s.size ∧ Hid (pval 10 acc (s.data.toList.drop k) = R) ∧ Hid (acc < 10 ^ k) ∧ Below w1.heap.size w1 wr) (fun _ _ kv _ => s.size - (Lib.intOf kv).toNat)
  case atStart => exact ⟨0, 0, rfl, rfl, rfl, Nat.zero_le _, Lib.hid hR2, Lib.hid (by decide), Below.refl _ _⟩
  case round =>
    obtain ⟨k, acc, rfl, rfl, rfl, hk, hA, hac, hbr⟩ := hrel
    have hacc : acc < 10000000 := by
      have h1 : 10 ^ k ≤ 10 ^ 7 := Nat.pow_le_pow_right (by omega) (by omega)
      have h2 : 10 ^ 7 = 10000000 := by decide
      have := hac.out; omega
    by_cases hlt : k < s.size
    · have hkl : k < s.data.toList.length := by omega
      have hd := List.drop_eq_getElem_cons hkl
      have hA := Lib.hid (hd ▸ hA.out)
      clear hd
      have hc := (hB.cell k hkl)
      have hcw : wr.cell? ⟨w.heap.size, k, none⟩ = some (.int .u8 s.data.toList[k].toNat) := by rw [cell_far hbr (by show w.heap.size < _; omega)]; exact hc
      have hva := hall k hkl
      generalize s.data.toList[k] = b at *
      have hb256 := b.toNat_lt
      have hcut : ¬ ((1844674407370955162 : Int) ≤ (acc : Int)) := by omega
      have hcut2 : decide ((1844674407370955162 : Int) ≤ (acc : Int)) = false := decide_eq_false hcut
      have hn95 : ((b.toNat : Int) == 95) = false := by
        rw [beq_eq_false_iff_ne]; intro e
        have : b = 95 := by apply UInt8.toNat_inj.1; show b.toNat = 95; omega
        rw [this] at hva
        revert hva; decide
      cases hdg : Sc.digit b with
      | true =>
        obtain ⟨v1, v2, v3⟩ := dval_digit hdg
        have hS : Hid (pval 10 (acc * 10 + (b.toNat - 48)) (s.data.toList.drop (k + 1)) = R) := by apply Lib.hid; rw [← v1]; exact hA.out
        have hP : Hid (acc * 10 + (b.toNat - 48) < 10 ^ (k + 1)) := by
          apply Lib.hid
          have h2 : 10 ^ (k + 1) = 10 ^ k * 10 := Nat.pow_succ ..
          have := hac.out
          omega
        have hval : Hid ((acc : Int) * 10 + ((b.toNat : Int) - 48) = ((acc * 10 + (b.toNat - 48) : Nat) : Int)) := by apply Lib.hid; omega
        clear hA hac hc hva hdg hall v1
        go_wp2
        refine ⟨⟨k + 1, acc * 10 + (b.toNat - 48), rfl, by rw [hval.out], by go_num, by omega, hS, hP, hbr⟩, ?_⟩
        simp [Lib.intOf]; omega
      | false => rw [hdg] at hva; cases hva
    · have hE : acc = R := by
        have := hA.out
        rw [List.drop_eq_nil_of_le (by omega)] at this
        exact this
      have hEh := Lib.hid hE
      have hlt2 : Hid (R < 10 ^ 7) := by
        apply Lib.hid; rw [← hE]
        have h1 : 10 ^ k ≤ 10 ^ 7 := Nat.pow_le_pow_right (by omega) (by omega)
        have := hac.out; omega
      clear hA hac hall hE
      go_wp2
      go_ret2
      exact ⟨by rw [← hEh.out]; rfl, hb.trans (hbr.mono hb.size), hlt2.out⟩
end Tx
end Go.Proofs.YtehmcahdjldhbaaGreatDoor
end
section
/- Package strconv: ParseInt of few digits, at the bases 16. -/
open Go Go.RowKit
set_option linter.unusedVariables false
set_option linter.unusedSimpArgs false
set_option maxRecDepth 100000
namespace Go.Proofs.YtehmcahdjldhbaaGreatDoor
open Wk
namespace Tx
set_option maxHeartbeats 16000000 in
theorem puint16_any (s : ByteArray) (w : World) (hz : 0 < s.size) (hs : s.size ≤ 6) (hv : s.data.toList.all hexd = true) :
    Calls Tryz.prog 215 #[.string s, .int .i64 16, .int .i64 32] w fun e w' => e = .returned (.tuple #[.int .u64 (pval 16 0 s.data.toList), .nilIface]) ∧ Below w.heap.size w w' ∧ pval 16 0 s.data.toList < 16 ^ 6 := by
  have kc := Lib.run_convert_string_bytes (P := Tryz.prog) w 9 118 5 s Tryz.underlying9 Tryz.underlying118 Tryz.underlying5
  have hB := Bytes.conv w s
  have hb := Lib.bytesWorld_below w 5 s
  have hzz := Lib.bytesWorld_size w 5 s
  generalize Lib.bytesWorld w 5 s = w1 at *
  generalize grownCap w s.size 0 5 = cap at *
  have hl := Sc.len_size s
  have hne : s.toList.isEmpty = false := by rw [empty_iff, decide_eq_false_iff_not]; intro e; rw [e] at hl; simp at hl; omega
  have hall : ∀ k, (h : k < s.data.toList.length) → hexd s.data.toList[k] = true := fun k h => List.all_eq_true.1 hv _ (List.getElem_mem h)
  have hR : Hid (pval 16 0 s.data.toList = pval 16 0 s.data.toList) := Lib.hid rfl
  generalize hR2 : pval 16 0 s.data.toList = R at *
  have LO := fun (b : UInt8) w => lower_c b w
  clear hv hR
  go_enter Tryz.func215, Tryz.ntmps215
  go_wp2
  go_loopw [12, 13, 101] (fun uv nv kv wr => ∃ k acc : Nat, uv = .bool false ∧ nv = .int .u64 acc ∧ kv = .int .i64 k ∧ k ≤ s.size ∧ Hid (pval 16 acc (s.data.toList.drop k) = R) ∧ Hid (acc < 16 ^ k) ∧ Below w1.heap.size w1 wr) (fun _ _ kv _ => s.size - (Lib.intOf kv).toNat)
  case atStart => exact ⟨0, 0, rfl, rfl, rfl, Nat.zero_le _, Lib.hid hR2, Lib.hid (by decide), Below.refl _ _⟩
  case round =>
    obtain ⟨k, acc, rfl, rfl, rfl, hk, hA, hac, hbr⟩ := hrel
    have hacc : acc < 16777216 := by
      have h1 : 16 ^ k ≤ 16 ^ 6 := Nat.pow_le_pow_right (by omega) (by omega)
      have h2 : 16 ^ 6 = 16777216 := by decide
      have := hac.out; omega
    by_cases hlt : k < s.size
    · have hkl : k < s.data.toList.length := by omega
      have hd := List.drop_eq_getElem_cons hkl
      have hA := Lib.hid (hd ▸ hA.out)
      clear hd
      have hc := (hB.cell k hkl)
      have hcw : wr.cell? ⟨w.heap.size, k, none⟩ = some (.int .u8 s.data.toList[k].toNat) := by rw [cell_far hbr (by show w.heap.size < _; omega)]; exact hc
      have hva := hall k hkl
      generalize s.data.toList[k] = b at *
      have hb256 := b.toNat_lt
      have hcut : ¬ ((1152921504606846976 : Int) ≤ (acc : Int)) := by omega
      have hcut2 : decide ((1152921504606846976 : Int) ≤ (acc : Int)) = false := decide_eq_false hcut
      have hn95 : ((b.toNat : Int) == 95) = false := by
        rw [beq_eq_false_iff_ne]; intro e
        have : b = 95 := by apply UInt8.toNat_inj.1; show b.toNat = 95; omega
        rw [this] at hva
        revert hva; decide
      cases hdg : Sc.digit b with
      | true =>
        obtain ⟨v1, v2, v3⟩ := dval_digit hdg
        have hS : Hid (pval 16 (acc * 16 + (b.toNat - 48)) (s.data.toList.drop (k + 1)) = R) := by apply Lib.hid; rw [← v1]; exact hA.out
        have hP : Hid (acc * 16 + (b.toNat - 48) < 16 ^ (k + 1)) := by
          apply Lib.hid
          have h2 : 16 ^ (k + 1) = 16 ^ k * 16 := Nat.pow_succ ..
          have := hac.out
          omega
        have hval : Hid ((acc : Int) * 16 + ((b.toNat : Int) - 48) = ((acc * 16 + (b.toNat - 48) : Nat) : Int)) := by apply Lib.hid; omega
        clear hA hac hc hva hdg hall v1
        go_wp2
        refine ⟨⟨k + 1, acc * 16 + (b.toNat - 48), rfl, by rw [hval.out], by go_num, by omega, hS, hP, hbr⟩, ?_⟩
        simp [Lib.intOf]; omega
      | false =>
        obtain ⟨v1, v2, v3⟩ := dval_hex hva hdg
        have LB := fun w => LO b w
        have hS : Hid (pval 16 (acc * 16 + ((b ||| 32).toNat - 87)) (s.data.toList.drop (k + 1)) = R) := by apply Lib.hid; rw [← v1]; exact hA.out
        generalize (b ||| 32).toNat = lb at *
        have hP : Hid (acc * 16 + (lb - 87) < 16 ^ (k + 1)) := by
          apply Lib.hid
          have h2 : 16 ^ (k + 1) = 16 ^ k * 16 := Nat.pow_succ ..
          have := hac.out
          omega
        have hval : Hid ((acc : Int) * 16 + ((lb : Int) - 97 + 10) = ((acc * 16 + (lb - 87) : Nat) : Int)) := by apply Lib.hid; omega
        have hnd : ¬ ((48 : Int) ≤ (b.toNat : Int) ∧ (b.toNat : Int) ≤ 57) := by
          rintro ⟨x, y⟩
          have : Sc.digit b = true := by unfold Sc.digit; simp; omega
          rw [hdg] at this; cases this
        clear hA hac hc hva hdg hall v1 LO
        by_cases h48 : 48 ≤ b.toNat
        · have h57 : decide ((b.toNat : Int) ≤ 57) = false := decide_eq_false fun x => hnd ⟨by omega, x⟩
          have h48' : decide ((48 : Int) ≤ (b.toNat : Int)) = true := decide_eq_true (by omega)
          iterate 150 (first | (go_at_call 222; (with_reducible refine (LB _).mono ?_); rintro e w2 ⟨rfl, rfl⟩; dsimp only) | go_step | skip)
          go_wp2
          refine ⟨⟨k + 1, acc * 16 + (lb - 87), rfl, by rw [← hval.out], by go_num, by omega, hS, hP, hbr⟩, ?_⟩
          simp [Lib.intOf]; omega
        · have h48' : decide ((48 : Int) ≤ (b.toNat : Int)) = false := decide_eq_false (by omega)
          iterate 150 (first | (go_at_call 222; (with_reducible refine (LB _).mono ?_); rintro e w2 ⟨rfl, rfl⟩; dsimp only) | go_step | skip)
          go_wp2
          refine ⟨⟨k + 1, acc * 16 + (lb - 87), rfl, by rw [← hval.out], by go_num, by omega, hS, hP, hbr⟩, ?_⟩
          simp [Lib.intOf]; omega
    · have hE : acc = R := by
        have := hA.out
        rw [List.drop_eq_nil_of_le (by omega)] at this
        exact this
      have hEh := Lib.hid hE
      have hlt2 : Hid (R < 16 ^ 6) := by
        apply Lib.hid; rw [← hE]
        have h1 : 16 ^ k ≤ 16 ^ 6 := Nat.pow_le_pow_right (by omega) (by omega)
        have := hac.out; omega
      clear hA hac hall hE
      go_wp2
      go_ret2
      exact ⟨by rw [← hEh.out]; rfl, hb.trans (hbr.mono hb.size), hlt2.out⟩
end Tx
end Go.Proofs.YtehmcahdjldhbaaGreatDoor
end
section
/- Package entity: character: that of a number in digits. -/
open Go Go.RowKit
set_option linter.unusedVariables false
set_option linter.unusedSimpArgs false
set_option maxRecDepth 100000
namespace Go.Proofs.YtehmcahdjldhbaaGreatDoor
open Wk
namespace Tx
theorem mk_encR (n : Int) : mk (encR n) = Utf8.encode n := rfl
theorem pval10_lt : ∀ (l : Bs) (acc k : Nat), acc < 10 ^ k → l.all Sc.digit = true → pval 10 acc l < 10 ^ (k + l.length)
  | [], acc, k, h, _ => by simpa [pval] using h
  | b :: r, acc, k, h, hv => by
    rw [List.all_cons, Bool.and_eq_true] at hv
    have hd : dval b < 10 := by
      have := dval_digit hv.1; omega
    have h2 : 10 ^ (k + 1) = 10 ^ k * 10 := Nat.pow_succ ..
    have := pval10_lt r (acc * 10 + dval b) (k + 1) (by omega) hv.2
    rw [show k + (b :: r).length = k + 1 + r.length by simp; omega]
    exact this
theorem pval10_few (s : ByteArray) (hs : s.size ≤ 7) (hv : s.data.toList.all Sc.digit = true) : pval 10 0 s.data.toList < 10000000 := by
  have h := pval10_lt s.data.toList 0 0 (by decide) hv
  have hl := Sc.len_size s
  have h1 : 10 ^ (0 + s.data.toList.length) ≤ 10 ^ 7 := Nat.pow_le_pow_right (by omega) (by omega)
  have h2 : 10 ^ 7 = 10000000 := by decide
  omega
set_option maxHeartbeats 8000000 in
theorem pint10_any (s : ByteArray) (w : World) (hz : 0 < s.size) (hs : s.size ≤ 7) (hv : s.data.toList.all Sc.digit = true) :
    Calls Tryz.prog 200 #[.string s, .int .i64 10, .int .i64 32] w fun e w' => e = .returned (.tuple #[.int .i64 (pval 10 0 s.data.toList), .nilIface]) ∧ Below w.heap.size w w' := by
  have PU := fun w => puint10_any s w hz hs hv
  have hR := pval10_few s hs hv
  have hl := Sc.len_size s
  have hne : s.toList.isEmpty = false := by rw [empty_iff, decide_eq_false_iff_not]; intro e; rw [e] at hl; simp at hl; omega
  have hva : Sc.digit s[0] = true := by
    have := List.all_eq_true.1 hv (s.data.toList[0]'(by rw [hl]; exact hz)) (List.getElem_mem _)
    exact this
  generalize pval 10 0 s.data.toList = R at *
  have q43 : ((s[0].toNat : Int) == 43) = false := by
    rw [beq_eq_false_iff_ne]; intro e
    have : s[0] = 43 := by apply UInt8.toNat_inj.1; show s[0].toNat = 43; omega
    rw [this] at hva; revert hva; decide
  have q45 : ((s[0].toNat : Int) == 45) = false := by
    rw [beq_eq_false_iff_ne]; intro e
    have : s[0] = 45 := by apply UInt8.toNat_inj.1; show s[0].toNat = 45; omega
    rw [this] at hva; revert hva; decide
  have d31 : decide ((2147483648 : Int) ≤ (R : Int)) = false := decide_eq_false (by omega)
  have n31 : ¬ ((2147483648 : Int) ≤ (R : Int)) := by omega
  clear hva hv hl
  go_enter Tryz.func200, Tryz.ntmps200
  go_wp2_with (go_at_call 215; (with_reducible refine (PU _).mono ?_); rintro e w2 ⟨rfl, b2, _⟩)
  go_ret2
  exact ⟨rfl, b2⟩
set_option maxHeartbeats 4000000 in
theorem spint10_any (s : ByteArray) (w : World) (hz : 0 < s.size) (hs : s.size ≤ 7) (hv : s.data.toList.all Sc.digit = true) :
    Calls Tryz.prog 197 #[.string s, .int .i64 10, .int .i64 32] w fun e w' => e = .returned (.tuple #[.int .i64 (pval 10 0 s.data.toList), .nilIface]) ∧ Below w.heap.size w w' := by
  have PI := fun w => pint10_any s w hz hs hv
  generalize pval 10 0 s.data.toList = R at *
  go_enter Tryz.func197, Tryz.ntmps197
  go_wp2_with (go_at_call 200; (with_reducible refine (PI _).mono ?_); rintro e w2 ⟨rfl, b2⟩)
  go_ret2
  exact ⟨rfl, b2⟩
theorem pval16_lt : ∀ (l : Bs) (acc k : Nat), acc < 16 ^ k → l.all hexd = true → pval 16 acc l < 16 ^ (k + l.length)
  | [], acc, k, h, _ => by simpa [pval] using h
  | b :: r, acc, k, h, hv => by
    rw [List.all_cons, Bool.and_eq_true] at hv
    have hd : dval b < 16 := by
      cases hq : Sc.digit b with
      | true => have := dval_digit hq; omega
      | false => have := dval_hex hv.1 hq; omega
    have h2 : 16 ^ (k + 1) = 16 ^ k * 16 := Nat.pow_succ ..
    have := pval16_lt r (acc * 16 + dval b) (k + 1) (by omega) hv.2
    rw [show k + (b :: r).length = k + 1 + r.length by simp; omega]
    exact this
theorem pval16_few (s : ByteArray) (hs : s.size ≤ 6) (hv : s.data.toList.all hexd = true) : pval 16 0 s.data.toList < 16777216 := by
  have h := pval16_lt s.data.toList 0 0 (by decide) hv
  have hl := Sc.len_size s
  have h1 : 16 ^ (0 + s.data.toList.length) ≤ 16 ^ 6 := Nat.pow_le_pow_right (by omega) (by omega)
  have h2 : 16 ^ 6 = 16777216 := by decide
  omega
set_option maxHeartbeats 8000000 in
theorem pint16_any (s : ByteArray) (w : World) (hz : 0 < s.size) (hs : s.size ≤ 6) (hv : s.data.toList.all hexd = true) :
    Calls Tryz.prog 200 #[.string s, .int .i64 16, .int .i64 32] w fun e w' => e = .returned (.tuple #[.int .i64 (pval 16 0 s.data.toList), .nilIface]) ∧ Below w.heap.size w w' := by
  have PU := fun w => puint16_any s w hz hs hv
  have hR := pval16_few s hs hv
  have hl := Sc.len_size s
  have hne : s.toList.isEmpty = false := by rw [empty_iff, decide_eq_false_iff_not]; intro e; rw [e] at hl; simp at hl; omega
  have hva : hexd s[0] = true := by
    have := List.all_eq_true.1 hv (s.data.toList[0]'(by rw [hl]; exact hz)) (List.getElem_mem _)
    exact this
  generalize pval 16 0 s.data.toList = R at *
  have q43 : ((s[0].toNat : Int) == 43) = false := by
    rw [beq_eq_false_iff_ne]; intro e
    have : s[0] = 43 := by apply UInt8.toNat_inj.1; show s[0].toNat = 43; omega
    rw [this] at hva; revert hva; decide
  have q45 : ((s[0].toNat : Int) == 45) = false := by
    rw [beq_eq_false_iff_ne]; intro e
    have : s[0] = 45 := by apply UInt8.toNat_inj.1; show s[0].toNat = 45; omega
    rw [this] at hva; revert hva; decide
  have d31 : decide ((2147483648 : Int) ≤ (R : Int)) = false := decide_eq_false (by omega)
  have n31 : ¬ ((2147483648 : Int) ≤ (R : Int)) := by omega
  clear hva hv hl
  go_enter Tryz.func200, Tryz.ntmps200
  go_wp2_with (go_at_call 215; (with_reducible refine (PU _).mono ?_); rintro e w2 ⟨rfl, b2, _⟩)
  go_ret2
  exact ⟨rfl, b2⟩
set_option maxHeartbeats 4000000 in
theorem spint16_any (s : ByteArray) (w : World) (hz : 0 < s.size) (hs : s.size ≤ 6) (hv : s.data.toList.all hexd = true) :
    Calls Tryz.prog 197 #[.string s, .int .i64 16, .int .i64 32] w fun e w' => e = .returned (.tuple #[.int .i64 (pval 16 0 s.data.toList), .nilIface]) ∧ Below w.heap.size w w' := by
  have PI := fun w => pint16_any s w hz hs hv
  generalize pval 16 0 s.data.toList = R at *
  go_enter Tryz.func197, Tryz.ntmps197
  go_wp2_with (go_at_call 200; (with_reducible refine (PI _).mono ?_); rintro e w2 ⟨rfl, b2⟩)
  go_ret2
  exact ⟨rfl, b2⟩
/-- entity.character at the base 10. -/
def char10 (l : Bs) : Bs × Bool :=
  if l = [] ∨ 7 < l.length ∨ allD l = false then ([], false)
  else (encR (if pval 10 0 l = 0 ∨ Lib.validRune (pval 10 0 l) = false then 65533 else pval 10 0 l), true)
set_option maxHeartbeats 8000000 in
theorem char10_any (s : ByteArray) (w : World) (hs : s.size ≤ 4000000000) :
    Calls Tryz.prog 168 #[.string s, .int .i64 10, .int .i64 7, .func (.func 143) #[] #[]] w fun e w' => e = .returned (.tuple #[.string (mk (char10 s.data.toList).1), .bool (char10 s.data.toList).2]) ∧ Below w.heap.size w w' := by
  have F : Hid (char10 s.data.toList = if s.data.toList = [] ∨ 7 < s.data.toList.length ∨ allD s.data.toList = false then ([], false)
    else (encR (if pval 10 0 s.data.toList = 0 ∨ Lib.validRune (pval 10 0 s.data.toList) = false then 65533 else pval 10 0 s.data.toList), true)) := Lib.hid rfl
  generalize char10 s.data.toList = r at *
  have hl := Sc.len_size s
  have AL := fun w => allD_any s w hs
  by_cases h0 : s.data.toList = []
  · have hne : s.toList.isEmpty = true := by rw [empty_iff, decide_eq_true_iff]; exact h0
    have F2 := Lib.hid (F.out.trans (if_pos (.inl h0)))
    clear F h0 hl AL
    go_enter Tryz.func168, Tryz.ntmps168
    go_wp2
    go_ret2
    exact ⟨by rw [F2.out]; rfl, Below.refl _ _⟩
  have hne : s.toList.isEmpty = false := by rw [empty_iff, decide_eq_false_iff_not]; exact h0
  have hz : 0 < s.size := Sc.size_pos h0
  by_cases h1 : 7 < s.size
  · have F2 := Lib.hid (F.out.trans (if_pos (.inr (.inl (by omega)))))
    have d1 : decide ((7 : Int) < (s.size : Int)) = true := decide_eq_true (by omega)
    clear F h0 hl AL
    go_enter Tryz.func168, Tryz.ntmps168
    go_wp2
    go_ret2
    exact ⟨by rw [F2.out]; rfl, Below.refl _ _⟩
  have d1 : decide ((7 : Int) < (s.size : Int)) = false := decide_eq_false (by omega)
  cases ha : allD s.data.toList with
  | false =>
    have F2 := Lib.hid (F.out.trans (if_pos (.inr (.inr ha))))
    rw [ha] at AL
    clear F h0 hl ha
    go_enter Tryz.func168, Tryz.ntmps168
    go_wp2_with (go_at_call 196; (with_reducible refine (AL _).mono ?_); rintro e w2 ⟨rfl, rfl⟩)
    go_ret2
    exact ⟨by rw [F2.out]; rfl, Below.refl _ _⟩
  | true =>
    have F2 := Lib.hid (F.out.trans (if_neg (by rintro (x | x | x); exact h0 x; omega; rw [ha] at x; cases x)))
    have PI := fun w => spint10_any s w hz (by omega) ha
    have hR := pval10_few s (by omega) ha
    have VR := fun (n : Int) w => Tryz.utf8_ValidRune n w
    rw [ha] at AL
    clear F h0 hl ha
    generalize pval 10 0 s.data.toList = R at *
    by_cases q0 : R = 0
    · subst q0
      rw [if_pos (.inl rfl)] at F2
      have PI : ∀ w, Calls Tryz.prog 197 #[.string s, .int .i64 10, .int .i64 32] w fun e w' => e = .returned (.tuple #[.int .i64 0, .nilIface]) ∧ Below w.heap.size w w' := PI
      go_enter Tryz.func168, Tryz.ntmps168
      go_wp2_with (first
        | (go_at_call 196; (with_reducible refine (AL _).mono ?_); rintro e w2 ⟨rfl, rfl⟩)
        | (go_at_call 197; (with_reducible refine (PI _).mono ?_); rintro e w2 ⟨rfl, b2⟩)
        | (go_at_call 70; (with_reducible refine (VR _ _).mono ?_); rintro e w3 ⟨rfl, rfl⟩))
      go_ret2
      exact ⟨by rw [F2.out]; rfl, b2⟩
    · have r0 : ((R : Int) == 0) = false := by rw [beq_eq_false_iff_ne]; omega
      cases hvr : Lib.validRune (R : Int) with
      | false =>
        rw [if_pos (.inr hvr)] at F2
        have VR := fun w => VR R w
        rw [hvr] at VR
        clear hvr q0
        go_enter Tryz.func168, Tryz.ntmps168
        go_wp2_with (first
          | (go_at_call 196; (with_reducible refine (AL _).mono ?_); rintro e w2 ⟨rfl, rfl⟩)
          | (go_at_call 197; (with_reducible refine (PI _).mono ?_); rintro e w2 ⟨rfl, b2⟩)
          | (go_at_call 70; (with_reducible refine (VR _).mono ?_); rintro e w3 ⟨rfl, rfl⟩))
        go_ret2
        exact ⟨by rw [F2.out]; rfl, b2⟩
      | true =>
        rw [if_neg (by rintro (x | x); exact q0 x; rw [hvr] at x; cases x)] at F2
        have VR := fun w => VR R w
        rw [hvr] at VR
        clear hvr q0
        go_enter Tryz.func168, Tryz.ntmps168
        go_wp2_with (first
          | (go_at_call 196; (with_reducible refine (AL _).mono ?_); rintro e w2 ⟨rfl, rfl⟩)
          | (go_at_call 197; (with_reducible refine (PI _).mono ?_); rintro e w2 ⟨rfl, b2⟩)
          | (go_at_call 70; (with_reducible refine (VR _).mono ?_); rintro e w3 ⟨rfl, rfl⟩))
        go_ret2
        refine ⟨?_, b2⟩
        have hx := mk_encR (R : Int)
        generalize Utf8.encode (R : Int) = E at *
        generalize encR (R : Int) = E2 at *
        rw [F2.out, ← hx]
        rfl
/-- entity.character at the base 16. -/
def char16 (l : Bs) : Bs × Bool :=
  if l = [] ∨ 6 < l.length ∨ allH l = false then ([], false)
  else (encR (if pval 16 0 l = 0 ∨ Lib.validRune (pval 16 0 l) = false then 65533 else pval 16 0 l), true)
set_option maxHeartbeats 8000000 in
theorem char16_any (s : ByteArray) (w : World) (hs : s.size ≤ 4000000000) :
    Calls Tryz.prog 168 #[.string s, .int .i64 16, .int .i64 6, .func (.func 169) #[] #[]] w fun e w' => e = .returned (.tuple #[.string (mk (char16 s.data.toList).1), .bool (char16 s.data.toList).2]) ∧ Below w.heap.size w w' := by
  have F : Hid (char16 s.data.toList = if s.data.toList = [] ∨ 6 < s.data.toList.length ∨ allH s.data.toList = false then ([], false)
    else (encR (if pval 16 0 s.data.toList = 0 ∨ Lib.validRune (pval 16 0 s.data.toList) = false then 65533 else pval 16 0 s.data.toList), true)) := Lib.hid rfl
  generalize char16 s.data.toList = r at *
  have hl := Sc.len_size s
  have AL := fun w => allH_any s w hs
  by_cases h0 : s.data.toList = []
  · have hne : s.toList.isEmpty = true := by rw [empty_iff, decide_eq_true_iff]; exact h0
    have F2 := Lib.hid (F.out.trans (if_pos (.inl h0)))
    clear F h0 hl AL
    go_enter Tryz.func168, Tryz.ntmps168
    go_wp2
    go_ret2
    exact ⟨by rw [F2.out]; rfl, Below.refl _ _⟩
  have hne : s.toList.isEmpty = false := by rw [empty_iff, decide_eq_false_iff_not]; exact h0
  have hz : 0 < s.size := Sc.size_pos h0
  by_cases h1 : 6 < s.size
  · have F2 := Lib.hid (F.out.trans (if_pos (.inr (.inl (by omega)))))
    have d1 : decide ((6 : Int) < (s.size : Int)) = true := decide_eq_true (by omega)
    clear F h0 hl AL
    go_enter Tryz.func168, Tryz.ntmps168
    go_wp2
    go_ret2
    exact ⟨by rw [F2.out]; rfl, Below.refl _ _⟩
  have d1 : decide ((6 : Int) < (s.size : Int)) = false := decide_eq_false (by omega)
  cases ha : allH s.data.toList with
  | false =>
    have F2 := Lib.hid (F.out.trans (if_pos (.inr (.inr ha))))
    rw [ha] at AL
    clear F h0 hl ha
    go_enter Tryz.func168, Tryz.ntmps168
    go_wp2_with (go_at_call 196; (with_reducible refine (AL _).mono ?_); rintro e w2 ⟨rfl, rfl⟩)
    go_ret2
    exact ⟨by rw [F2.out]; rfl, Below.refl _ _⟩
  | true =>
    have F2 := Lib.hid (F.out.trans (if_neg (by rintro (x | x | x); exact h0 x; omega; rw [ha] at x; cases x)))
    have PI := fun w => spint16_any s w hz (by omega) ha
    have hR := pval16_few s (by omega) ha
    have VR := fun (n : Int) w => Tryz.utf8_ValidRune n w
    rw [ha] at AL
    clear F h0 hl ha
    generalize pval 16 0 s.data.toList = R at *
    by_cases q0 : R = 0
    · subst q0
      rw [if_pos (.inl rfl)] at F2
      have PI : ∀ w, Calls Tryz.prog 197 #[.string s, .int .i64 16, .int .i64 32] w fun e w' => e = .returned (.tuple #[.int .i64 0, .nilIface]) ∧ Below w.heap.size w w' := PI
      go_enter Tryz.func168, Tryz.ntmps168
      go_wp2_with (first
        | (go_at_call 196; (with_reducible refine (AL _).mono ?_); rintro e w2 ⟨rfl, rfl⟩)
        | (go_at_call 197; (with_reducible refine (PI _).mono ?_); rintro e w2 ⟨rfl, b2⟩)
        | (go_at_call 70; (with_reducible refine (VR _ _).mono ?_); rintro e w3 ⟨rfl, rfl⟩))
      go_ret2
      exact ⟨by rw [F2.out]; rfl, b2⟩
    · have r0 : ((R : Int) == 0) = false := by rw [beq_eq_false_iff_ne]; omega
      cases hvr : Lib.validRune (R : Int) with
      | false =>
        rw [if_pos (.inr hvr)] at F2
        have VR := fun w => VR R w
        rw [hvr] at VR
        clear hvr q0
        go_enter Tryz.func168, Tryz.ntmps168
        go_wp2_with (first
          | (go_at_call 196; (with_reducible refine (AL _).mono ?_); rintro e w2 ⟨rfl, rfl⟩)
          | (go_at_call 197; (with_reducible refine (PI _).mono ?_); rintro e w2 ⟨rfl, b2⟩)
          | (go_at_call 70; (with_reducible refine (VR _).mono ?_); rintro e w3 ⟨rfl, rfl⟩))
        go_ret2
        exact ⟨by rw [F2.out]; rfl, b2⟩
      | true =>
        rw [if_neg (by rintro (x | x); exact q0 x; rw [hvr] at x; cases x)] at F2
        have VR := fun w => VR R w
        rw [hvr] at VR
        clear hvr q0
        go_enter Tryz.func168, Tryz.ntmps168
        go_wp2_with (first
          | (go_at_call 196; (with_reducible refine (AL _).mono ?_); rintro e w2 ⟨rfl, rfl⟩)
          | (go_at_call 197; (with_reducible refine (PI _).mono ?_); rintro e w2 ⟨rfl, b2⟩)
          | (go_at_call 70; (with_reducible refine (VR _).mono ?_); rintro e w3 ⟨rfl, rfl⟩))
        go_ret2
        refine ⟨?_, b2⟩
        have hx := mk_encR (R : Int)
        generalize Utf8.encode (R : Int) = E at *
        generalize encR (R : Int) = E2 at *
        rw [F2.out, ← hx]
        rfl
end Tx
end Go.Proofs.YtehmcahdjldhbaaGreatDoor
end
section
/- Package entity: body, Read. -/
open Go Go.RowKit
set_option linter.unusedVariables false
set_option linter.unusedSimpArgs false
set_option maxRecDepth 100000
namespace Go.Proofs.YtehmcahdjldhbaaGreatDoor
open Wk
namespace Tx
def isX (b : UInt8) : Bool := (b ||| 32).toNat == 120
/-- What stands between "&" and ";". -/
def bodyF (s : Bs) : Bs × Bool :=
  match s with
  | 35 :: b :: t => if isX b then char16 t else char10 (b :: t)
  | [35] => char10 []
  | s => nm s
theorem bodyF_not (s : Bs) (h : Lib.hasPrefix s [35] = false) : bodyF s = nm s := by
  rw [hasPrefix_one] at h
  unfold bodyF
  split
  · simp at h
  · simp at h
  · rfl
theorem bodyF_of (t : Bs) : bodyF (35 :: t) = match t with | [] => char10 [] | b :: r => if isX b then char16 r else char10 (b :: r) := by
  cases t <;> rfl
set_option maxHeartbeats 4000000 in
theorem body_any (s : Bs) (w : World) (hs : s.length ≤ 4000000000) : Calls Tryz.prog 142 #[.string (mk s)] w fun e w' => e = .returned (.tuple #[.string (mk (bodyF s).1), .bool (bodyF s).2]) ∧ Below w.heap.size w w' := by
  have CP := fun w => Tryz.strings_CutPrefix (mk s) ⟨#[35]⟩ w
  simp only [mk_data] at CP
  cases hp : Lib.hasPrefix s [35] with
  | false =>
    have F := Lib.hid (bodyF_not s hp)
    have NM := fun w => named_any s w
    rw [hp] at CP
    generalize bodyF s = r at *
    generalize nm s = r2 at *
    clear hp
    go_enter Tryz.func142, Tryz.ntmps142
    go_wp2_with (first
      | (go_at_call 28; (with_reducible refine (CP _).mono ?_); rintro e w1 ⟨rfl, rfl⟩)
      | (go_at_call 167; (with_reducible refine (NM _).mono ?_); rintro e w2 ⟨rfl, b2⟩))
    go_ret2
    exact ⟨by rw [F.out]; rfl, b2⟩
  | true =>
    obtain ⟨t, rfl⟩ : ∃ t, s = 35 :: t := by
      rw [hasPrefix_one] at hp
      cases s with
      | nil => cases hp
      | cons b t => exact ⟨t, by rw [show b = 35 by simpa using hp]⟩
    have F := Lib.hid (bodyF_of t)
    generalize bodyF (35 :: t) = r at *
    have e1 : Lib.trimPrefix (35 :: t) [35] = t := by unfold Lib.trimPrefix; rw [hp]; rfl
    rw [hp, e1] at CP
    have CP : ∀ w, Calls Tryz.prog 28 #[.string (mk (35 :: t)), .string ⟨#[35]⟩] w fun e w' => e = .returned (.tuple #[.string (mk t), .bool true]) ∧ w' = w := CP
    clear hp e1
    cases t with
    | nil =>
      have CH := fun w => char10_any (mk []) w (by decide)
      rw [mk_data] at CH
      have hne : (mk []).toList.isEmpty = true := by rw [empty_iff]; rfl
      generalize char10 [] = r2 at *
      go_enter Tryz.func142, Tryz.ntmps142
      go_wp2_with (first
        | (go_at_call 28; (with_reducible refine (CP _).mono ?_); rintro e w1 ⟨rfl, rfl⟩)
        | (go_at_call 168; (with_reducible refine (CH _).mono ?_); rintro e w2 ⟨rfl, b2⟩))
      go_ret2
      exact ⟨by rw [F.out]; rfl, b2⟩
    | cons b t =>
      have hsz : (mk (b :: t)).size = t.length + 1 := by rw [mk_size]; rfl
      have hne : (mk (b :: t)).toList.isEmpty = false := by rw [empty_iff]; rfl
      have hb0 : ∀ h, (mk (b :: t))[0]'h = b := fun _ => rfl
      have hlt : 0 < (mk (b :: t)).size := by omega
      have hx1 : Hid ((mk (b :: t)).extract 1 (mk (b :: t)).size = mk t) := by apply Lib.hid; apply mk_of; rw [Sc.drop_data]; rfl
      have ho := or32 b
      have F : Hid (r = if ((b ||| 32).toNat == 120) then char16 t else char10 (b :: t)) := F
      have C16 := fun w => char16_any ((mk (b :: t)).extract 1 (mk (b :: t)).size) w (by rw [ByteArray.size_extract]; simp only [List.length_cons] at hs; omega)
      have C10 := fun w => char10_any (mk (b :: t)) w (by rw [mk_size]; simp only [List.length_cons] at hs ⊢; omega)
      rw [show ((mk (b :: t)).extract 1 (mk (b :: t)).size).data.toList = t by rw [hx1.out, mk_data]] at C16
      rw [mk_data] at C10
      clear hx1 hsz
      generalize hM : mk (b :: t) = m at *
      generalize char16 t = r16 at *
      generalize char10 (b :: t) = r10 at *
      have hb0 := hb0 hlt
      have hM := Lib.hid hM
      cases hq : ((b ||| 32).toNat == 120) with
      | true =>
        have q : ((((b ||| 32).toNat : Nat) : Int) == 120) = true := by rw [beq_iff_eq] at hq ⊢; omega
        rw [hq] at F
        generalize (b ||| 32).toNat = lb at *
        clear hq hM C10
        go_enter Tryz.func142, Tryz.ntmps142
        go_wp2_with (first
          | (go_at_call 28; (with_reducible refine (CP _).mono ?_); rintro e w1 ⟨rfl, rfl⟩)
          | (go_at_call 168; (with_reducible refine (C16 _).mono ?_); rintro e w2 ⟨rfl, b2⟩))
        go_ret2
        exact ⟨by rw [F.out]; rfl, b2⟩
      | false =>
        have q : ((((b ||| 32).toNat : Nat) : Int) == 120) = false := by rw [beq_eq_false_iff_ne] at hq ⊢; omega
        rw [hq] at F
        generalize (b ||| 32).toNat = lb at *
        clear hq hM C16
        go_enter Tryz.func142, Tryz.ntmps142
        go_wp2_with (first
          | (go_at_call 28; (with_reducible refine (CP _).mono ?_); rintro e w1 ⟨rfl, rfl⟩)
          | (go_at_call 168; (with_reducible refine (C10 _).mono ?_); rintro e w2 ⟨rfl, b2⟩))
        go_ret2
        exact ⟨by rw [F.out]; rfl, b2⟩
end Tx
end Go.Proofs.YtehmcahdjldhbaaGreatDoor
end
section
/- Package entity: Read; package escape: Unescape, at any text. -/
open Go Go.RowKit
set_option linter.unusedVariables false
set_option linter.unusedSimpArgs false
set_option maxRecDepth 100000
namespace Go.Proofs.YtehmcahdjldhbaaGreatDoor
open Wk
namespace Tx
/-- entity.Read. -/
def readF (s : Bs) : Bs × Nat :=
  match s with
  | [] => ([], 0)
  | b :: t =>
    if b ≠ 38 ∨ (Lib.cut t [59]).2.2 = false ∨ (bodyF (Lib.cut t [59]).1).2 = false then ([], 0)
    else ((bodyF (Lib.cut t [59]).1).1, (Lib.cut t [59]).1.length + 2)
theorem indexByte_lt : ∀ (l : Bs) (c : UInt8), 0 ≤ Lib.indexByte l c → (Lib.indexByte l c).toNat < l.length
  | [], c, h => by unfold Lib.indexByte at h; omega
  | b :: l, c, h => by
    unfold Lib.indexByte at h ⊢
    split
    · simp
    · rename_i h1
      rw [if_neg h1] at h
      split
      · rename_i h2; rw [if_pos h2] at h; omega
      · rename_i h2
        rw [if_neg h2] at h
        have hg := Lib.indexByte_ge l c
        have hne : Lib.indexByte l c ≠ -1 := by simpa using h2
        have := indexByte_lt l c (by omega)
        simp only [List.length_cons]; omega
theorem cut_le (t : Bs) (c : UInt8) (h : (Lib.cut t [c]).2.2 = true) : (Lib.cut t [c]).1.length + 1 ≤ t.length := by
  unfold Lib.cut at h ⊢
  split at h
  · rename_i h1
    rw [if_pos h1]
    rw [Lib.index_one] at h1 ⊢
    have := indexByte_lt t c h1
    show (t.take _).length + 1 ≤ _
    rw [List.length_take]; omega
  · cases h
theorem encR_le (n : Int) : (encR n).length ≤ 4 := by
  have h := encode_size_le n
  unfold encR
  rw [Sc.len_size]; exact h
theorem body_few (s : Bs) : (bodyF s).1.length ≤ 4 := by
  have h10 : ∀ l, (char10 l).1.length ≤ 4 := fun l => by unfold char10; split; exact Nat.zero_le _; exact encR_le _
  have h16 : ∀ l, (char16 l).1.length ≤ 4 := fun l => by unfold char16; split; exact Nat.zero_le _; exact encR_le _
  have hn : ∀ l, (nm l).1.length ≤ 4 := fun l => by unfold nm; split; exact encR_le _; exact Nat.zero_le _
  unfold bodyF
  split
  · split
    · exact h16 _
    · exact h10 _
  · exact h10 _
  · exact hn _
theorem readOk : RdOk readF :=
  { le := fun s => by
      unfold readF
      split
      · exact Nat.le_refl _
      · rename_i b t
        split
        · exact Nat.zero_le _
        · rename_i h
          have hc : (Lib.cut t [59]).2.2 = true := by
            cases e : (Lib.cut t [59]).2.2 with
            | true => rfl
            | false => exact absurd (.inr (.inl e)) h
          have := cut_le t 59 hc
          simp only [List.length_cons]; omega
    few := fun s => by
      unfold readF
      split
      · exact Nat.le_refl _
      · split
        · exact Nat.le_refl _
        · rename_i b t _
          refine Nat.le_trans (body_few (Lib.cut t [59]).1) ?_
          show 4 ≤ 4 * ((Lib.cut t [59]).1.length + 2); omega }
set_option maxHeartbeats 4000000 in
theorem read_any (s : Bs) (w : World) (hE : Env w) (hs : s.length ≤ 4000000000) : Calls Tryz.prog 113 #[.string (mk s)] w fun e w' => e = .returned (.tuple #[.string (mk (readF s).1), .int .i64 (readF s).2]) ∧ Below w.heap.size w w' := by
  have HP := fun w => HasPrefix1 s 38 w
  rw [hasPrefix_one] at HP
  obtain ⟨m, hm⟩ := hE.ml
  by_cases hp : ∃ t, s = 38 :: t
  · obtain ⟨t, rfl⟩ := hp
    have HP : ∀ w, Calls Tryz.prog 30 #[.string (mk (38 :: t)), .string ⟨#[38]⟩] w fun e w' => e = .returned (.bool true) ∧ w' = w := HP
    have hsz : (mk (38 :: t)).size = t.length + 1 := by rw [mk_size]; rfl
    have hx1 : Hid ((mk (38 :: t)).extract 1 (mk (38 :: t)).size = mk t) := by apply Lib.hid; apply mk_of; rw [Sc.drop_data]; rfl
    have CU := fun w (h : w.cell? ⟨0, 0, none⟩ = some (.int .i64 m)) => Tryz.strings_Cut ((mk (38 :: t)).extract 1 (mk (38 :: t)).size) ⟨#[59]⟩ m w (by rw [ByteArray.size_extract, hsz]; simp only [List.length_cons] at hs; omega) h
    rw [show ((mk (38 :: t)).extract 1 (mk (38 :: t)).size).data.toList = t by rw [hx1.out, mk_data]] at CU
    have F : Hid (readF (38 :: t) = if (38 : UInt8) ≠ 38 ∨ (Lib.cut t [59]).2.2 = false ∨ (bodyF (Lib.cut t [59]).1).2 = false then ([], 0) else ((bodyF (Lib.cut t [59]).1).1, (Lib.cut t [59]).1.length + 2)) := Lib.hid rfl
    have hlc : (Lib.cut t [59]).1.length ≤ t.length := by
      unfold Lib.cut; split
      · show (t.take _).length ≤ _; rw [List.length_take]; omega
      · exact Nat.le_refl _
    have CU : ∀ w, w.cell? ⟨0, 0, none⟩ = some (.int .i64 m) → Calls Tryz.prog 141 #[.string ((mk (38 :: t)).extract 1 (mk (38 :: t)).size), .string ⟨#[59]⟩] w fun e w' => e = .returned (.tuple #[.string (mk (Lib.cut t [59]).1), .string (mk (Lib.cut t [59]).2.1), .bool (Lib.cut t [59]).2.2]) ∧ Below w.heap.size w w' := fun w h =>
      (CU w h).mono fun e w' ⟨h1, n, h2⟩ => ⟨h1, by rw [h2]; exact drewN_below _ _⟩
    have BO := fun w => body_any (Lib.cut t [59]).1 w (by simp only [List.length_cons] at hs; omega)
    generalize Lib.cut t [59] = C at *
    obtain ⟨c1, c2, c3⟩ := C
    generalize bodyF c1 = D at *
    obtain ⟨d1, d2⟩ := D
    generalize readF (38 :: t) = r at *
    generalize hM : mk (38 :: t) = M at *
    have hM := Lib.hid hM
    dsimp only at CU BO F
    clear hx1 hsz
    have hsz1 : 1 ≤ M.size := by rw [← hM.out, mk_size]; simp
    have hcb : c1.length ≤ 4000000000 := by
      have h1 : c1.length ≤ t.length := hlc
      simp only [List.length_cons] at hs; omega
    have hc1 : (mk c1).size = c1.length := mk_size c1
    clear hlc
    cases c3 with
    | false =>
      have F2 := Lib.hid (F.out.trans (if_pos (.inr (.inl rfl))))
      clear F hM BO
      go_enter Tryz.func113, Tryz.ntmps113
      go_wp2_with (first
        | (go_at_call 30; (with_reducible refine (HP _).mono ?_); rintro e w1 ⟨rfl, rfl⟩)
        | (go_at_call 141; (with_reducible refine (CU _ hm).mono ?_); rintro e w2 ⟨rfl, b2⟩))
      go_ret2
      exact ⟨by rw [F2.out]; rfl, b2⟩
    | true =>
      cases d2 with
      | false =>
        have F2 := Lib.hid (F.out.trans (if_pos (.inr (.inr rfl))))
        clear F hM
        go_enter Tryz.func113, Tryz.ntmps113
        go_wp2_with (first
          | (go_at_call 30; (with_reducible refine (HP _).mono ?_); rintro e w1 ⟨rfl, rfl⟩)
          | (go_at_call 141; (with_reducible refine (CU _ hm).mono ?_); rintro e w2 ⟨rfl, b2⟩)
          | (go_at_call 142; (with_reducible refine (BO _).mono ?_); rintro e w3 ⟨rfl, b3⟩))
        go_ret2
        exact ⟨by rw [F2.out]; rfl, below_tr b2 b3⟩
      | true =>
        have F2 := Lib.hid (F.out.trans (if_neg (by rintro (x | x | x); exact x rfl; cases x; cases x)))
        clear F hM
        go_enter Tryz.func113, Tryz.ntmps113
        go_wp2_with (first
          | (go_at_call 30; (with_reducible refine (HP _).mono ?_); rintro e w1 ⟨rfl, rfl⟩)
          | (go_at_call 141; (with_reducible refine (CU _ hm).mono ?_); rintro e w2 ⟨rfl, b2⟩)
          | (go_at_call 142; (with_reducible refine (BO _).mono ?_); rintro e w3 ⟨rfl, b3⟩))
        go_ret2
        refine ⟨?_, below_tr b2 b3⟩
        rw [F2.out, show (((d1, c1.length + 2) : Bs × Nat).2 : Int) = (c1.length : Int) + 2 from rfl]
        rfl
  · have h0 : readF s = ([], 0) := by
      cases s with
      | nil => rfl
      | cons b t => exact if_pos (.inl fun e => hp ⟨t, by rw [e]⟩)
    have HP : ∀ w, Calls Tryz.prog 30 #[.string (mk s), .string ⟨#[38]⟩] w fun e w' => e = .returned (.bool false) ∧ w' = w := by
      cases s with
      | nil => exact HP
      | cons b t =>
        have : (b == 38) = false := by rw [beq_eq_false_iff_ne]; intro e; exact hp ⟨t, by rw [e]⟩
        dsimp only at HP
        rw [this] at HP; exact HP
    rw [h0]
    clear hp h0
    go_enter Tryz.func113, Tryz.ntmps113
    go_wp2_with (go_at_call 30; (with_reducible refine (HP _).mono ?_); rintro e w1 ⟨rfl, rfl⟩)
    go_ret2
    exact ⟨rfl, Below.refl _ _⟩
/-- Unescape. -/
def unescF (s : Bs) : Bs := unesc readF s
theorem unescC (s : Bs) (hs : s.length ≤ 1000000000) : UnC unescF s := fun w hE => by
  have := Unescape_any readF readOk (mk s) w hE (by rw [mk_size]; exact hs) (fun k w hE => by
    rw [mk_data]
    exact read_any _ w hE (by rw [List.length_drop]; omega))
  rw [mk_data] at this
  exact this
end Tx
end Go.Proofs.YtehmcahdjldhbaaGreatDoor
end
section
/- Package unicode/utf8: DecodeRune of bytes; strings.Builder's Write: laid at this seat by hand. -/
open Go Go.RowKit
set_option linter.unusedVariables false
set_option linter.unusedSimpArgs false
set_option maxRecDepth 100000
namespace Go.Proofs.YtehmcahdjldhbaaGreatDoor
open Wk
namespace Tx
def dren : Go.Shelf.Ren := ⟨fun | 32 => 208 | 49 => 220 | n => n, fun | 25 => 99 | 30 => 118 | 33 => 155 | 66 => 198 | 68 => 200 | 69 => 201 | n => n, fun | 2 => 1 | 3 => 2 | n => n⟩
theorem dlays : Go.Proofs.Lays7.n32 Tryz.prog dren := by
  constructor
  all_goals first
    | kernel_rfl
    | (intro w; kernel_rfl)
    | exact Tryz.func208.trans (congrArg some (by kernel_rfl))
    | exact Tryz.func220.trans (congrArg some (by kernel_rfl))
theorem decodeRune_any (s : ByteArray) (b off cap : Nat) (w : World) (hE : Env w) (hp : ∀ j, j < s.size → w.cell? ⟨b, off + j, none⟩ = some (.int .u8 (s.get! j).toNat)) :
    Calls Tryz.prog 208 #[.slice (some ⟨b, off, none⟩) s.size cap] w fun e w' => e = .returned (.tuple #[.int .i32 (Lib.decodeGo s).1, .int .i64 (Lib.decodeGo s).2]) ∧ Below w.heap.size w w' :=
  Any7.utf8_DecodeRune dlays s b off cap w hE.u8 hp
def wren : Go.Shelf.Ren := ⟨fun | 35 => 209 | 52 => 130 | 59 => 156 | n => n, fun | 30 => 118 | 36 => 117 | 38 => 122 | 59 => 120 | 73 => 161 | 89 => 92 | 20 => 20 | n => n, fun | n => n⟩
theorem wlays : Go.Proofs.Lays7.n35 Tryz.prog wren := by
  constructor
  all_goals first
    | kernel_rfl
    | (intro w; kernel_rfl)
    | exact Tryz.func209.trans (congrArg some (by kernel_rfl))
    | exact Tryz.func130.trans (congrArg some (by kernel_rfl))
    | exact Tryz.func156.trans (congrArg some (by kernel_rfl))
    | trace_state
end Tx
end Go.Proofs.YtehmcahdjldhbaaGreatDoor
end
