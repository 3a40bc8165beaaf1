/- The walk of ScanHeads. -/
import Derived.Test.YtokhibghnpcogaaDoorPHeads
import Derived.Deep.DeepCutAuto
open Go Go.RowKit
set_option linter.unusedVariables false
set_option linter.unusedSimpArgs false
set_option maxRecDepth 100000
namespace Go.Proofs.YtokhibghnpcogaaDoor
open Wk
theorem and_mask (n : Int) (m : Nat) (hm : m < 4294967296) : ∃ r : Nat, bits .and .i64 n (m : Int) = r ∧ r ≤ m := by
  have h2 : (BitVec.ofInt 64 (m : Int)).toNat = m := by
    rw [BitVec.ofInt_natCast, BitVec.toNat_ofNat]; exact Nat.mod_eq_of_lt (by omega)
  refine ⟨(BitVec.ofInt 64 n).toNat &&& m, ?_, Nat.and_le_right⟩
  have hx : (BitVec.ofInt 64 n).toNat &&& m ≤ m := Nat.and_le_right
  show IntKind.i64.wrap ((BitVec.ofInt 64 n &&& BitVec.ofInt 64 (m : Int)).toNat : Int) = _
  rw [BitVec.toNat_and, h2, IntKind.wrap_i64]
  omega
theorem heads_k (n : Int) : ∃ m : Nat, wrap64 (1 + (bits .and .i64 n 65535).tmod 6) = m ∧ 1 ≤ m ∧ m ≤ 6 := by
  obtain ⟨r, h, hr⟩ := and_mask n 65535 (by decide)
  have h : bits .and .i64 n 65535 = (r : Int) := h
  rw [h]
  refine ⟨1 + r % 6, ?_, by omega, by omega⟩
  have e : ((r : Int)).tmod 6 = ((r % 6 : Nat) : Int) := rfl
  rw [e]
  unfold wrap64
  omega
theorem upto_all {p : UInt8 → Bool} {s : ByteArray} {k : Nat} (u : Sc.Upto p s 0 k) (h : ¬ k < s.size) : ∀ b ∈ s.data.toList, p b = true := by
  have e := (u.stop (fun h' => absurd h' h)).1
  have hk : k = s.size := by have := u.le; omega
  subst hk
  have e2 : s.data.toList.take (s.size - 0) = s.data.toList := List.take_of_length_le (by simp)
  simp only [List.drop_zero] at e
  rw [e2] at e
  intro b hb
  rw [← e] at hb
  exact List.all_eq_true.1 List.all_takeWhile b hb
set_option maxHeartbeats 4000000 in
theorem scanHeads_any (n : Int) (s : ByteArray) (w : World) (hE : Env w) (hn0 : -9223372036854775808 ≤ n) (hn1 : n ≤ 9223372036854775807) (hz : s.size ≤ 9223372036854775807) :
    Calls Tryd.prog 4 #[.int .i64 n, .string s] w fun e w' => e = .returned (.bool true) ∧ Below w.heap.size w w' := by
  have AW := awake_any w hE
  by_cases hne : s.data.toList = []
  · have h1 : s.toList = [] := by rw [toList_data, hne]
    clear hne
    go_enter Tryd.func4, Tryd.ntmps4
    go_wp2_with (first
      | (go_at_call 7; (with_reducible refine AW.mono ?_); rintro e w1 ⟨rfl, b1⟩))
    go_ret
    exact ⟨rfl, b1⟩
  have h0' : s.toList.isEmpty = false := by rw [toList_data]; cases e : s.data.toList with | nil => exact absurd e hne | cons _ _ => rfl
  have h0'' : (s.toList == ([] : List UInt8)) = false := by rw [toList_data, beq_eq_false_iff_ne]; exact hne
  by_cases h1 : 300 < s.size
  · go_enter Tryd.func4, Tryd.ntmps4
    go_wp2_with (first
      | (go_at_call 7; (with_reducible refine AW.mono ?_); rintro e w1 ⟨rfl, b1⟩))
    go_ret
    exact ⟨rfl, b1⟩
  go_enter Tryd.func4, Tryd.ntmps4
  go_wp2_with (first
    | (go_at_call 7; (with_reducible refine AW.mono ?_); rintro e w1 ⟨rfl, b1⟩))
  go_loop [6] (fun i => ∃ k : Nat, i = .int .i64 k ∧ Sc.Upto Sc.low_ s 0 k) (fun i => s.size - (intOf i).toNat)
  case atStart => exact ⟨0, rfl, Sc.Upto.start (Nat.zero_le _)⟩
  case round =>
    obtain ⟨k, rfl, U⟩ := hrel
    have hk := U.le
    by_cases hp : k < s.size
    · by_cases h97 : s[k].toNat < 97
      · clear U
        go_wp2
        go_ret
        exact ⟨rfl, b1⟩
      by_cases h122 : 122 < s[k].toNat
      · clear U
        go_wp2
        go_ret
        exact ⟨rfl, b1⟩
      have HU := Lib.hid (U.step hp (by unfold Sc.low_; simp; omega))
      clear U
      go_wp2
      go_round
      case rel => exact ⟨k + 1, by go_num, HU.out⟩
      case measure => simp [intOf]; omega
    · have hall := upto_all U hp
      clear U
      obtain ⟨m, hm, m1, m6⟩ := heads_k n
      have LW := Sc.heads_law m s.data.toList m1 m6 hne hall
      clear hall hne
      have hmk : ∀ {r : ByteArray}, r.data.toList = s.data.toList → r = s := fun h => same_text h
      have tk : ∀ c : UInt8, ((⟨#[c, c, c, c, c, c]⟩ : ByteArray).extract 0 m).data.toList = List.replicate m c := by
        intro c
        rw [Sc.take_data]
        show ([c, c, c, c, c, c] : List UInt8).take m = _
        rcases (by omega : m = 1 ∨ m = 2 ∨ m = 3 ∨ m = 4 ∨ m = 5 ∨ m = 6) with rfl | rfl | rfl | rfl | rfl | rfl <;> rfl
      have dap : ∀ a b : ByteArray, (a ++ b).data.toList = a.data.toList ++ b.data.toList := fun a b => by
        rw [show (a ++ b).data = a.data ++ b.data from ByteArray.data_append .., Array.toList_append]
      have ms : mk s.data.toList = s := (mk_of rfl).symm
      have A1 : ∀ w, Calls Tryd.prog 9 #[.string ((⟨#[35, 35, 35, 35, 35, 35]⟩ : ByteArray).extract 0 m ++ ⟨#[32]⟩ ++ s)] w fun e w' => e = .returned (.tuple #[.int .i64 m, .string s]) ∧ Below w.heap.size w w' := by
        intro w
        have hd : ((⟨#[35, 35, 35, 35, 35, 35]⟩ : ByteArray).extract 0 m ++ ⟨#[32]⟩ ++ s).data.toList = List.replicate m 35 ++ (32 :: s.data.toList) := by
          rw [dap, dap, tk, List.append_assoc]; rfl
        have h := atx_any ((⟨#[35, 35, 35, 35, 35, 35]⟩ : ByteArray).extract 0 m ++ ⟨#[32]⟩ ++ s) w (by unfold Small; rw [← Sc.len_size, hd]; simp; omega)
        rw [hd, LW.a, ms] at h
        exact h
      have A2 : ∀ w, Calls Tryd.prog 9 #[.string ((⟨#[35, 35, 35, 35, 35, 35]⟩ : ByteArray).extract 0 m ++ ⟨#[32, 9]⟩ ++ s ++ ⟨#[32, 35, 35, 32]⟩)] w fun e w' => e = .returned (.tuple #[.int .i64 m, .string s]) ∧ Below w.heap.size w w' := by
        intro w
        have hd : ((⟨#[35, 35, 35, 35, 35, 35]⟩ : ByteArray).extract 0 m ++ ⟨#[32, 9]⟩ ++ s ++ ⟨#[32, 35, 35, 32]⟩).data.toList = List.replicate m 35 ++ ([32, 9] ++ s.data.toList ++ [32, 35, 35, 32]) := by
          rw [dap, dap, dap, tk]
          show List.replicate m 35 ++ [32, 9] ++ s.data.toList ++ [32, 35, 35, 32] = _
          simp
        have h := atx_any ((⟨#[35, 35, 35, 35, 35, 35]⟩ : ByteArray).extract 0 m ++ ⟨#[32, 9]⟩ ++ s ++ ⟨#[32, 35, 35, 32]⟩) w (by unfold Small; rw [← Sc.len_size, hd]; simp; omega)
        rw [hd, LW.b, ms] at h
        exact h
      have hd3 : ((⟨#[126, 126, 126, 126, 126, 126]⟩ : ByteArray).extract 0 m ++ s).data.toList = List.replicate m 126 ++ s.data.toList := by rw [dap, tk]
      have hz3 : Small ((⟨#[126, 126, 126, 126, 126, 126]⟩ : ByteArray).extract 0 m ++ s) := by unfold Small; rw [← Sc.len_size, hd3]; simp; omega
      have hz4 : Small ((⟨#[126, 126, 126, 126, 126, 126]⟩ : ByteArray).extract 0 m) := by unfold Small; rw [← Sc.len_size, tk]; simp; omega
      have C1 : ∀ w, Calls Tryd.prog 11 #[.string ((⟨#[126, 126, 126, 126, 126, 126]⟩ : ByteArray).extract 0 m), .int .u8 126, .int .i64 m] w fun e w' => e = .returned (.bool true) ∧ Below w.heap.size w w' := by
        intro w
        have h := closes_any ((⟨#[126, 126, 126, 126, 126, 126]⟩ : ByteArray).extract 0 m) 126 m w hz4 (by omega) (by omega)
        rw [tk, LW.e] at h
        exact h
      have C2 : ∀ w, Calls Tryd.prog 11 #[.string ((⟨#[126, 126, 126, 126, 126, 126]⟩ : ByteArray).extract 0 m), .int .u8 126, .int .i64 (m + 1)] w fun e w' => e = .returned (.bool false) ∧ Below w.heap.size w w' := by
        intro w
        have h := closes_any ((⟨#[126, 126, 126, 126, 126, 126]⟩ : ByteArray).extract 0 m) 126 (m + 1) w hz4 (by omega) (by omega)
        rw [tk, LW.f] at h
        exact h
      by_cases h3 : m < 3
      · have F : ∀ w, Calls Tryd.prog 10 #[.string ((⟨#[126, 126, 126, 126, 126, 126]⟩ : ByteArray).extract 0 m ++ s)] w fun e w' => e = .returned (.tuple #[.int .u8 0, .int .i64 0, .string ⟨#[]⟩]) ∧ Below w.heap.size w w' := by
          intro w
          have h := fence_any _ w hz3
          rw [hd3, LW.d h3] at h
          exact h
        clear LW tk dap ms hmk hd3 hz3 hz4 AW
        go_wp2_with (first
          | (go_at_call 9; (with_reducible refine (A1 _).mono ?_); rintro e w2 ⟨rfl, b2⟩; have b1 := b1.trans (b2.mono b1.size); clear b2)
          | (go_at_call 9; (with_reducible refine (A2 _).mono ?_); rintro e w2 ⟨rfl, b2⟩; have b1 := b1.trans (b2.mono b1.size); clear b2)
          | (go_at_call 10; (with_reducible refine (F _).mono ?_); rintro e w2 ⟨rfl, b2⟩; have b1 := b1.trans (b2.mono b1.size); clear b2)
          | (go_at_call 11; (with_reducible refine (C1 _).mono ?_); rintro e w2 ⟨rfl, b2⟩; have b1 := b1.trans (b2.mono b1.size); clear b2)
          | (go_at_call 11; (with_reducible refine (C2 _).mono ?_); rintro e w2 ⟨rfl, b2⟩; have b1 := b1.trans (b2.mono b1.size); clear b2))
        go_ret
        exact ⟨ret_bool (by simp; omega), b1⟩
      · have F : ∀ w, Calls Tryd.prog 10 #[.string ((⟨#[126, 126, 126, 126, 126, 126]⟩ : ByteArray).extract 0 m ++ s)] w fun e w' => e = .returned (.tuple #[.int .u8 126, .int .i64 m, .string s]) ∧ Below w.heap.size w w' := by
          intro w
          have h := fence_any _ w hz3
          rw [hd3, LW.c (by omega), ms] at h
          exact h
        clear LW tk dap ms hmk hd3 hz3 hz4 AW
        go_wp2_with (first
          | (go_at_call 9; (with_reducible refine (A1 _).mono ?_); rintro e w2 ⟨rfl, b2⟩; have b1 := b1.trans (b2.mono b1.size); clear b2)
          | (go_at_call 9; (with_reducible refine (A2 _).mono ?_); rintro e w2 ⟨rfl, b2⟩; have b1 := b1.trans (b2.mono b1.size); clear b2)
          | (go_at_call 10; (with_reducible refine (F _).mono ?_); rintro e w2 ⟨rfl, b2⟩; have b1 := b1.trans (b2.mono b1.size); clear b2)
          | (go_at_call 11; (with_reducible refine (C1 _).mono ?_); rintro e w2 ⟨rfl, b2⟩; have b1 := b1.trans (b2.mono b1.size); clear b2)
          | (go_at_call 11; (with_reducible refine (C2 _).mono ?_); rintro e w2 ⟨rfl, b2⟩; have b1 := b1.trans (b2.mono b1.size); clear b2))
        go_ret
        exact ⟨rfl, b1⟩
end Go.Proofs.YtokhibghnpcogaaDoor
