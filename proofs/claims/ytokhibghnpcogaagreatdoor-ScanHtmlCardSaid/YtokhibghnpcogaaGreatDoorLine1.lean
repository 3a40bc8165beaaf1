/- Walks of what lines begin with: a run of a byte, an end, blanks, the end of a fence, a bullet, a line below a heading. -/
import Derived.Test.YtokhibghnpcogaaGreatDoorTag8
open Go Go.RowKit
set_option linter.unusedVariables false
set_option maxRecDepth 100000
namespace Go.Proofs.YtokhibghnpcogaaGreatDoor
open Wk
namespace Sc
theorem run_le (c : UInt8) : ∀ l : List UInt8, run c l ≤ l.length
  | [] => Nat.le_refl _
  | b :: t => by unfold run; split
                 · have := run_le c t; simp; omega
                 · simp
/-- From the beginning on up to k all bytes are c. -/
structure Runs (c : UInt8) (s : ByteArray) (k : Nat) : Prop where
  le : k ≤ s.size
  eq : run c s.data.toList = k + run c (s.data.toList.drop k)
theorem Runs.start {c : UInt8} {s : ByteArray} : Runs c s 0 := ⟨Nat.zero_le _, by simp⟩
theorem Runs.step {c : UInt8} {s : ByteArray} {k : Nat} (u : Runs c s k) (h : k < s.size) (hp : s[k] = c) : Runs c s (k + 1) :=
  ⟨h, by rw [u.eq, drop_at s k h, run, if_pos hp]; omega⟩
theorem Runs.stop {c : UInt8} {s : ByteArray} {k : Nat} (u : Runs c s k) (h : ∀ h : k < s.size, s[k] ≠ c) : run c s.data.toList = k := by
  rw [u.eq]
  by_cases hk : k < s.size
  · rw [drop_at s k hk, run, if_neg (h hk)]; rfl
  · rw [List.drop_eq_nil_of_le (by simp; omega)]; rfl
def trim (l : List UInt8) : List UInt8 := Lib.trimS l [32, 9]
def blanks (l : List UInt8) : Bool := l.all blank
theorem dropWhile_nil {p : UInt8 → Bool} : ∀ l : List UInt8, (l.dropWhile p = [] ↔ l.all p = true)
  | [] => by simp
  | b :: t => by
    rw [List.dropWhile_cons, List.all_cons]
    split
    · rename_i h; rw [h, dropWhile_nil t]; simp
    · rename_i h; simp [h]
theorem blank_set (b : UInt8) : ([32, 9] : List UInt8).contains b = blank b := by simp only [List.contains_cons, List.contains_nil, Bool.or_false, blank]
theorem trim_nil (l : List UInt8) : (trim l = [] ↔ blanks l = true) := by
  unfold trim Lib.trimS Lib.trimLeftS Lib.trimRightS blanks
  rw [dropWhile_nil]
  have e : ∀ l : List UInt8, (l.all fun x => ([32, 9] : List UInt8).contains x) = l.all blank := fun l => by congr 1; funext b; exact blank_set b
  rw [e, List.all_reverse]
  have e2 : (l.reverse.dropWhile fun x => ([32, 9] : List UInt8).contains x) = l.reverse.dropWhile blank := by congr 1; funext b; exact blank_set b
  rw [e2, ← List.all_reverse (l := l)]
  generalize l.reverse = m
  have : (m.dropWhile blank).all blank = m.all blank := by
    induction m with
    | nil => rfl
    | cons b t ih =>
      rw [List.dropWhile_cons]
      split
      · rename_i h; rw [ih]; simp [h]
      · rfl
  rw [this]
def setext (l : List UInt8) : Nat :=
  if 0 < run 61 l && blanks (l.drop (run 61 l)) then 1 else if 0 < run 45 l && blanks (l.drop (run 45 l)) then 2 else 0
def closes (l : List UInt8) (c : UInt8) (n : Int) : Bool := decide (n ≤ run c l) && decide (1 ≤ run c l) && blanks (l.drop (run c l))
def bullet : List UInt8 → Nat
  | [] => 0
  | b :: t => if (b == 45 || b == 43 || b == 42) && ends t then 1 else 0
end Sc

theorem run_any (s : ByteArray) (c : UInt8) (w : World) (hs : Small s) :
    Calls Tryz.prog 35 #[.string s, .int .u8 c.toNat] w fun e w' => e = .returned (.int .i64 (Sc.run c s.data.toList)) ∧ w = w' := by
  have eb : ∀ b : UInt8, ((b.toNat : Int) == (c.toNat : Int)) = (b == c) := fun b => beq_uu b c
  unfold Small at hs
  go_enter Tryz.func35, Tryz.ntmps35
  go_wp2
  go_loop [5] (fun i => ∃ k : Nat, i = .int .i64 k ∧ Sc.Runs c s k) (fun i => s.size - (intOf i).toNat)
  case atStart => exact ⟨0, rfl, Sc.Runs.start⟩
  case round =>
    obtain ⟨k, rfl, U⟩ := hrel
    have hk := U.le
    by_cases hp : k < s.size
    · by_cases hq : s[k] = c
      · have hq1 : (s[k] == c) = true := by simpa using hq
        have HU := Lib.hid (U.step hp hq)
        clear hq
        go_wp2
        go_round
        case rel => exact ⟨k + 1, by go_num, HU.out⟩
        case measure => simp [intOf]; omega
      · have hq1 : (s[k] == c) = false := by simpa using hq
        have F := Lib.hid (U.stop (fun _ => hq))
        clear hq
        go_wp2
        go_ret
        exact ⟨by rw [F.out]; rfl, rfl⟩
    · have F := Lib.hid (U.stop (fun h => absurd h hp))
      go_wp2
      go_ret
      exact ⟨by rw [F.out]; rfl, rfl⟩

theorem ends_any (s : ByteArray) (w : World) :
    Calls Tryz.prog 36 #[.string s] w fun e w' => e = .returned (.bool (Sc.ends s.data.toList)) ∧ w = w' := by
  by_cases h0 : s.data.toList = []
  · have h1 : s.toList = [] := by rw [toList_data, h0]
    rw [h0]
    clear h0
    go_enter Tryz.func36, Tryz.ntmps36
    go_wp2
    go_ret
    exact ⟨rfl, rfl⟩
  · have hsz := Sc.size_pos h0
    have h1 : (s.toList == ([] : List UInt8)) = false := by rw [toList_data, beq_eq_false_iff_ne]; exact h0
    have F := Lib.hid (congrArg Sc.ends (Sc.head_of hsz))
    have e32 : ∀ b : UInt8, ((b.toNat : Int) == 32) = (b == 32) := fun b => beq_u8 b 32 (by decide)
    have e9 : ∀ b : UInt8, ((b.toNat : Int) == 9) = (b == 9) := fun b => beq_u8 b 9 (by decide)
    clear h0
    cases h2 : (s[0] == 32) with
    | true =>
      go_enter Tryz.func36, Tryz.ntmps36
      go_wp2
      go_ret
      exact ⟨by rw [F.out, Sc.ends, Sc.blank, h2]; rfl, rfl⟩
    | false =>
      go_enter Tryz.func36, Tryz.ntmps36
      go_wp2
      go_ret
      exact ⟨by rw [F.out, Sc.ends, Sc.blank, h2]; rfl, rfl⟩

theorem trim_any (s : ByteArray) (w : World) (hs : Small s) :
    Calls Tryz.prog 37 #[.string s, .string ⟨#[32, 9]⟩] w fun e w' => ∃ r : ByteArray, e = .returned (.string r) ∧ r.data.toList = Sc.trim s.data.toList ∧ Below w.heap.size w w' := by
  refine (Tryz.strings_Trim_set s ⟨#[32, 9]⟩ w (by unfold Small at hs; omega) (by decide) (ascii_of_all (by decide))).mono ?_
  rintro e w1 ⟨rfl, hb⟩
  exact ⟨_, rfl, rfl, hb⟩
theorem blank_any (s : ByteArray) (w : World) (hs : Small s) :
    Calls Tryz.prog 50 #[.string s] w fun e w' => e = .returned (.bool (Sc.blanks s.data.toList)) ∧ Below w.heap.size w w' := by
  go_enter Tryz.func50, Tryz.ntmps50
  go_wp2_with (go_at_call 37; (with_reducible refine (trim_any s _ hs).mono ?_); rintro e w1 ⟨r, rfl, hr, hb⟩; have HR := Lib.hid hr; clear hr)
  go_ret
  refine ⟨ret_bool ?_, hb⟩
  rw [empty_iff, HR.out, Bool.eq_iff_iff, decide_eq_true_iff, Sc.trim_nil]

theorem closes_any (s : ByteArray) (c : UInt8) (n : Int) (w : World) (hs : Small s) (h0 : -9223372036854775808 ≤ n) (h1 : n ≤ 9223372036854775807) :
    Calls Tryz.prog 19 #[.string s, .int .u8 c.toNat, .int .i64 n] w fun e w' => e = .returned (.bool (Sc.closes s.data.toList c n)) ∧ Below w.heap.size w w' := by
  have hr := Sc.run_le c s.data.toList
  rw [Sc.len_size] at hr
  have hd := Lib.hid (Sc.drop_data s (Sc.run c s.data.toList))
  have hz : Small (s.extract (Sc.run c s.data.toList) s.size) := by unfold Small at *; rw [← Sc.len_size, hd.out]; simp; omega
  have F : Sc.closes s.data.toList c n = (decide (n ≤ Sc.run c s.data.toList) && decide (1 ≤ Sc.run c s.data.toList) && Sc.blanks (s.data.toList.drop (Sc.run c s.data.toList))) := rfl
  have R := run_any s c w hs
  rw [F]
  clear F
  generalize Sc.run c s.data.toList = k at *
  have hk : (k : Int) ≤ 4000000000 := by unfold Small at hs; omega
  have B := blank_any _ w hz
  rw [hd.out] at B
  generalize Sc.blanks (s.data.toList.drop k) = bl at *
  by_cases hn : n ≤ k
  · by_cases hk1 : 1 ≤ k
    · have E : (decide (n ≤ (k : Int)) && decide (1 ≤ k) && bl) = bl := by simp [hn, hk1]
      rw [E]
      clear E
      have hm : max n 1 ≤ (k : Int) := by omega
      have hm2 : decide ((k : Int) < max n 1) = false := by rw [decide_eq_false_iff_not]; omega
      go_enter Tryz.func19, Tryz.ntmps19
      go_wp2_with (first
        | (go_at_call 35; refine R.mono ?_; rintro e w1 ⟨rfl, rfl⟩)
        | (go_at_call 50; refine B.mono ?_; rintro e w1 ⟨rfl, hb⟩))
      go_ret
      exact ⟨rfl, hb⟩
    · have E : (decide (n ≤ (k : Int)) && decide (1 ≤ k) && bl) = false := by simp [hk1]
      rw [E]
      clear E
      have hm : ¬ max n 1 ≤ (k : Int) := by omega
      have hm2 : decide ((k : Int) < max n 1) = true := by rw [decide_eq_true_iff]; omega
      go_enter Tryz.func19, Tryz.ntmps19
      go_wp2_with (go_at_call 35; refine R.mono ?_; rintro e w1 ⟨rfl, rfl⟩)
      go_ret
      exact ⟨rfl, Below.refl _ _⟩
  · have E : (decide (n ≤ (k : Int)) && decide (1 ≤ k) && bl) = false := by simp [hn]
    rw [E]
    clear E
    have hm : ¬ max n 1 ≤ (k : Int) := by omega
    have hm2 : decide ((k : Int) < max n 1) = true := by rw [decide_eq_true_iff]; omega
    go_enter Tryz.func19, Tryz.ntmps19
    go_wp2_with (go_at_call 35; refine R.mono ?_; rintro e w1 ⟨rfl, rfl⟩)
    go_ret
    exact ⟨rfl, Below.refl _ _⟩
theorem bullet_any (s : ByteArray) (w : World) :
    Calls Tryz.prog 21 #[.string s] w fun e w' => e = .returned (.int .i64 (Sc.bullet s.data.toList)) ∧ Below w.heap.size w w' := by
  by_cases h0 : s.data.toList = []
  · have h1 : s.toList = [] := by rw [toList_data, h0]
    rw [h0]
    clear h0
    go_enter Tryz.func21, Tryz.ntmps21
    go_wp2
    go_ret
    exact ⟨rfl, Below.refl _ _⟩
  · have hsz := Sc.size_pos h0
    have h1 : (s.toList == ([] : List UInt8)) = false := by rw [toList_data, beq_eq_false_iff_ne]; exact h0
    have F := congrArg Sc.bullet (Sc.head_of hsz)
    have hd := Lib.hid (Sc.drop_data s 1)
    have key : ∀ b : UInt8, decide (Lib.indexByte [45, 43, 42] b < 0) = !(b == 45 || b == 43 || b == 42) := fun b => by
      simp only [Lib.indexByte]
      by_cases h1 : b = 45
      · subst h1; rfl
      · by_cases h2 : b = 43
        · subst h2; rfl
        · by_cases h3 : b = 42
          · subst h3; rfl
          · have n1 : ¬ (45 : UInt8) = b := fun e => h1 e.symm
            have n2 : ¬ (43 : UInt8) = b := fun e => h2 e.symm
            have n3 : ¬ (42 : UInt8) = b := fun e => h3 e.symm
            simp [h1, h2, h3, n1, n2, n3]
    rw [F, Sc.bullet]
    clear h0 F
    have K := key s[0]
    cases hb : (s[0] == 45 || s[0] == 43 || s[0] == 42) with
    | false =>
      rw [hb] at K
      clear hb key
      go_enter Tryz.func21, Tryz.ntmps21
      go_wp2_with (go_at_call 43; (with_reducible refine (Tryz.strings_IndexByte _ _ _).mono ?_); rintro e w1 ⟨rfl, rfl⟩; rw [byte_back])
      go_ret
      exact ⟨rfl, Below.refl _ _⟩
    | true =>
      rw [hb] at K
      clear hb key
      cases he : Sc.ends (s.data.toList.drop 1) with
      | true =>
        have E := ends_any (s.extract 1 s.size)
        rw [hd.out, he] at E
        clear he
        go_enter Tryz.func21, Tryz.ntmps21
        go_wp2_with (first
          | (go_at_call 43; (with_reducible refine (Tryz.strings_IndexByte _ _ _).mono ?_); rintro e w1 ⟨rfl, rfl⟩; rw [byte_back])
          | (go_at_call 36; refine (E _).mono ?_; rintro e w1 ⟨rfl, rfl⟩))
        go_ret
        exact ⟨rfl, Below.refl _ _⟩
      | false =>
        have E := ends_any (s.extract 1 s.size)
        rw [hd.out, he] at E
        clear he
        go_enter Tryz.func21, Tryz.ntmps21
        go_wp2_with (first
          | (go_at_call 43; (with_reducible refine (Tryz.strings_IndexByte _ _ _).mono ?_); rintro e w1 ⟨rfl, rfl⟩; rw [byte_back])
          | (go_at_call 36; refine (E _).mono ?_; rintro e w1 ⟨rfl, rfl⟩))
        go_ret
        exact ⟨rfl, Below.refl _ _⟩

theorem setext_any (s : ByteArray) (w : World) (hs : Small s) :
    Calls Tryz.prog 17 #[.string s] w fun e w' => e = .returned (.int .i64 (Sc.setext s.data.toList)) ∧ Below w.heap.size w w' := by
  have kc := fun (w : World) (C : Array Value) (n c : Nat) => Lib.run_convert_bytes_const (P := Tryz.prog) w 51 5 C n c Tryz.underlying51 Tryz.underlying5
  have hB : Below w.heap.size w (w.alloc (.cells #[.int .u8 61, .int .u8 45] 5 (2, 3))) := (Below.refl _ _).alloc (Nat.le_refl _) _
  have hq : (w.alloc (.cells #[.int .u8 61, .int .u8 45] 5 (2, 3))).heap[w.heap.size]? = some (.cells #[.int .u8 61, .int .u8 45] 5 (2, 3)) := by show (w.heap.push _)[w.heap.size]? = _; simp
  have Q1 : (w.alloc (.cells #[.int .u8 61, .int .u8 45] 5 (2, 3))).cell? ⟨w.heap.size, 0, none⟩ = some (.int .u8 61) := (cell_blk hq 0).trans rfl
  have Q2 : (w.alloc (.cells #[.int .u8 61, .int .u8 45] 5 (2, 3))).cell? ⟨w.heap.size, 1, none⟩ = some (.int .u8 45) := (cell_blk hq 1).trans rfl
  have q3 : ∀ W : World, Below (w.heap.size + 1) (w.alloc (.cells #[.int .u8 61, .int .u8 45] 5 (2, 3))) W → W.cell? ⟨w.heap.size, 1, none⟩ = some (.int .u8 45) := fun W b => (b.cell (p := ⟨w.heap.size, 1, none⟩) (Nat.lt_succ_self _)).trans Q2
  have Q3 := Lib.hid q3
  clear q3 hq
  have R := fun (c : UInt8) (w : World) => run_any s c w hs
  have R61 : ∀ w, Calls Tryz.prog 35 #[.string s, .int .u8 61] w fun e w' => e = .returned (.int .i64 (Sc.run 61 s.data.toList)) ∧ w = w' := R 61
  have R45 : ∀ w, Calls Tryz.prog 35 #[.string s, .int .u8 45] w fun e w' => e = .returned (.int .i64 (Sc.run 45 s.data.toList)) ∧ w = w' := R 45
  have bnd : ∀ c, Sc.run c s.data.toList ≤ s.size := fun c => by have := Sc.run_le c s.data.toList; rwa [Sc.len_size] at this
  have L1 := bnd 61
  have L2 := bnd 45
  have bl : ∀ k, k ≤ s.size → ∀ w, Calls Tryz.prog 50 #[.string (s.extract k s.size)] w fun e w' => e = .returned (.bool (Sc.blanks (s.data.toList.drop k))) ∧ Below w.heap.size w w' := fun k hk w => by
    have hd := Sc.drop_data s k
    have := blank_any (s.extract k s.size) w (by unfold Small at *; rw [← Sc.len_size, hd]; simp; omega)
    rwa [hd] at this
  have B1 := bl _ L1
  have B2 := bl _ L2
  have F : Sc.setext s.data.toList = if (0 < Sc.run 61 s.data.toList && Sc.blanks (s.data.toList.drop (Sc.run 61 s.data.toList))) = true then 1 else if (0 < Sc.run 45 s.data.toList && Sc.blanks (s.data.toList.drop (Sc.run 45 s.data.toList))) = true then 2 else 0 := rfl
  clear R bnd bl
  generalize Sc.setext s.data.toList = T at *
  generalize Sc.run 61 s.data.toList = k1 at *
  generalize Sc.run 45 s.data.toList = k2 at *
  generalize Sc.blanks (s.data.toList.drop k1) = b1 at *
  generalize Sc.blanks (s.data.toList.drop k2) = b2 at *
  have HF := Lib.hid F
  clear F
  unfold Small at hs
  go_enter Tryz.func17, Tryz.ntmps17
  go_wp2
  refine wp_loop_rounds 3 ?_
  rw [rounds_succ]
  go_wp2_with (first
    | (go_at_call 35; (with_reducible refine (R61 _).mono ?_); rintro e w1 ⟨rfl, rfl⟩)
    | (go_at_call 50; (with_reducible refine (B1 _).mono ?_); rintro e w1 ⟨rfl, hb1⟩; have q39 := Q3.out _ (hb1.mono (by simp))))
  · have c1 : 0 < k1 := by assumption
    have c2 : b1 = true := by assumption
    go_ret
    exact ⟨ret_int (by rw [HF.out, if_pos (by simp [c1, c2])]; rfl), hB.trans (hb1.mono (by simp))⟩
  · have c2 : b1 = false := by assumption
    have HF2 := Lib.hid (HF.out.trans (if_neg (by simp [c2])))
    have hB1 := hB.trans (hb1.mono (by simp))
    clear HF Q3
    rw [rounds_succ]
    go_wp2_with (first
      | (go_at_call 35; (with_reducible refine (R45 _).mono ?_); rintro e w2 ⟨rfl, rfl⟩)
      | (go_at_call 50; (with_reducible refine (B2 _).mono ?_); rintro e w2 ⟨rfl, hb2⟩))
    · have d1 : 0 < k2 := by assumption
      have d2 : b2 = true := by assumption
      go_ret
      exact ⟨ret_int (by rw [HF2.out, if_pos (by simp [d1, d2])]; rfl), hB1.trans (hb2.mono hB1.size)⟩
    · have d2 : b2 = false := by assumption
      rw [rounds_succ]
      go_wp2
      go_ret
      exact ⟨ret_int (by rw [HF2.out, if_neg (by simp [d2])]; rfl), hB1.trans (hb2.mono hB1.size)⟩
    · have d1 : ¬ 0 < k2 := by assumption
      rw [rounds_succ]
      go_wp2
      go_ret
      exact ⟨ret_int (by rw [HF2.out, if_neg (by simp [d1])]; rfl), hB1⟩
  · have c1 : ¬ 0 < k1 := by assumption
    have HF2 := Lib.hid (HF.out.trans (if_neg (by simp [c1])))
    clear HF Q3
    rw [rounds_succ]
    go_wp2_with (first
      | (go_at_call 35; (with_reducible refine (R45 _).mono ?_); rintro e w2 ⟨rfl, rfl⟩)
      | (go_at_call 50; (with_reducible refine (B2 _).mono ?_); rintro e w2 ⟨rfl, hb2⟩))
    · have d1 : 0 < k2 := by assumption
      have d2 : b2 = true := by assumption
      go_ret
      exact ⟨ret_int (by rw [HF2.out, if_pos (by simp [d1, d2])]; rfl), hB.trans (hb2.mono hB.size)⟩
    · have d2 : b2 = false := by assumption
      rw [rounds_succ]
      go_wp2
      go_ret
      exact ⟨ret_int (by rw [HF2.out, if_neg (by simp [d2])]; rfl), hB.trans (hb2.mono hB.size)⟩
    · have d1 : ¬ 0 < k2 := by assumption
      rw [rounds_succ]
      go_wp2
      go_ret
      exact ⟨ret_int (by rw [HF2.out, if_neg (by simp [d1])]; rfl), hB⟩
end Go.Proofs.YtokhibghnpcogaaGreatDoor
