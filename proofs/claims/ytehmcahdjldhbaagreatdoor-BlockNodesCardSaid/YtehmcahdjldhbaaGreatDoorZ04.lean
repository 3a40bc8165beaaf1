/- Parts of this session's proof, one behind the other: Line1 Line2 Col1 Line3 Line4. -/
import Derived.Test.YtehmcahdjldhbaaGreatDoorZ03
import Derived.Lib.QuietBelow
import Derived.Test.YtehmcahdjldhbaaGreatDoorZ01
import Derived.Test.YtehmcahdjldhbaaGreatDoorZ02
section
/- Walks of what lines begin with: a run of a byte, an end, blanks, the end of a fence, a bullet, a line below a heading. -/
open Go Go.RowKit
set_option linter.unusedVariables false
set_option maxRecDepth 100000
namespace Go.Proofs.YtehmcahdjldhbaaGreatDoor
open Wk
namespace Sc
theorem run_le (c : UInt8) : ∀ l : List UInt8, run c l ≤ l.length
  | [] => Nat.le_refl _
  | b :: t => by unfold run; split
                 · have := run_le c t; simp; omega
                 · simp
/-- From the beginning on up to k all bytes are c. -/
structure Runs (c : UInt8) (s : ByteArray) (k : Nat) : Prop where
  le : k ≤ s.size
  eq : run c s.data.toList = k + run c (s.data.toList.drop k)
theorem Runs.start {c : UInt8} {s : ByteArray} : Runs c s 0 := ⟨Nat.zero_le _, by simp⟩
theorem Runs.step {c : UInt8} {s : ByteArray} {k : Nat} (u : Runs c s k) (h : k < s.size) (hp : s[k] = c) : Runs c s (k + 1) :=
  ⟨h, by rw [u.eq, drop_at s k h, run, if_pos hp]; omega⟩
theorem Runs.stop {c : UInt8} {s : ByteArray} {k : Nat} (u : Runs c s k) (h : ∀ h : k < s.size, s[k] ≠ c) : run c s.data.toList = k := by
  rw [u.eq]
  by_cases hk : k < s.size
  · rw [drop_at s k hk, run, if_neg (h hk)]; rfl
  · rw [List.drop_eq_nil_of_le (by simp; omega)]; rfl
def trim (l : List UInt8) : List UInt8 := Lib.trimS l [32, 9]
def blanks (l : List UInt8) : Bool := l.all blank
theorem dropWhile_nil {p : UInt8 → Bool} : ∀ l : List UInt8, (l.dropWhile p = [] ↔ l.all p = true)
  | [] => by simp
  | b :: t => by
    rw [List.dropWhile_cons, List.all_cons]
    split
    · rename_i h; rw [h, dropWhile_nil t]; simp
    · rename_i h; simp [h]
theorem blank_set (b : UInt8) : ([32, 9] : List UInt8).contains b = blank b := by simp only [List.contains_cons, List.contains_nil, Bool.or_false, blank]
theorem trim_nil (l : List UInt8) : (trim l = [] ↔ blanks l = true) := by
  unfold trim Lib.trimS Lib.trimLeftS Lib.trimRightS blanks
  rw [dropWhile_nil]
  have e : ∀ l : List UInt8, (l.all fun x => ([32, 9] : List UInt8).contains x) = l.all blank := fun l => by congr 1; funext b; exact blank_set b
  rw [e, List.all_reverse]
  have e2 : (l.reverse.dropWhile fun x => ([32, 9] : List UInt8).contains x) = l.reverse.dropWhile blank := by congr 1; funext b; exact blank_set b
  rw [e2, ← List.all_reverse (l := l)]
  generalize l.reverse = m
  have : (m.dropWhile blank).all blank = m.all blank := by
    induction m with
    | nil => rfl
    | cons b t ih =>
      rw [List.dropWhile_cons]
      split
      · rename_i h; rw [ih]; simp [h]
      · rfl
  rw [this]
def setext (l : List UInt8) : Nat :=
  if 0 < run 61 l && blanks (l.drop (run 61 l)) then 1 else if 0 < run 45 l && blanks (l.drop (run 45 l)) then 2 else 0
def closes (l : List UInt8) (c : UInt8) (n : Int) : Bool := decide (n ≤ run c l) && decide (1 ≤ run c l) && blanks (l.drop (run c l))
def bullet : List UInt8 → Nat
  | [] => 0
  | b :: t => if (b == 45 || b == 43 || b == 42) && ends t then 1 else 0
end Sc

theorem run_any (s : ByteArray) (c : UInt8) (w : World) (hs : Small s) :
    Calls Tryz.prog 103 #[.string s, .int .u8 c.toNat] w fun e w' => e = .returned (.int .i64 (Sc.run c s.data.toList)) ∧ w = w' := by
  have eb : ∀ b : UInt8, ((b.toNat : Int) == (c.toNat : Int)) = (b == c) := fun b => beq_uu b c
  unfold Small at hs
  go_enter Tryz.func103, Tryz.ntmps103
  go_wp2
  go_loop [5] (fun i => ∃ k : Nat, i = .int .i64 k ∧ Sc.Runs c s k) (fun i => s.size - (intOf i).toNat)
  case atStart => exact ⟨0, rfl, Sc.Runs.start⟩
  case round =>
    obtain ⟨k, rfl, U⟩ := hrel
    have hk := U.le
    by_cases hp : k < s.size
    · by_cases hq : s[k] = c
      · have hq1 : (s[k] == c) = true := by simpa using hq
        have HU := Lib.hid (U.step hp hq)
        clear hq
        go_wp2
        go_round
        case rel => exact ⟨k + 1, by go_num, HU.out⟩
        case measure => simp [intOf]; omega
      · have hq1 : (s[k] == c) = false := by simpa using hq
        have F := Lib.hid (U.stop (fun _ => hq))
        clear hq
        go_wp2
        go_ret
        exact ⟨by rw [F.out]; rfl, rfl⟩
    · have F := Lib.hid (U.stop (fun h => absurd h hp))
      go_wp2
      go_ret
      exact ⟨by rw [F.out]; rfl, rfl⟩

theorem ends_any (s : ByteArray) (w : World) :
    Calls Tryz.prog 110 #[.string s] w fun e w' => e = .returned (.bool (Sc.ends s.data.toList)) ∧ w = w' := by
  by_cases h0 : s.data.toList = []
  · have h1 : s.toList = [] := by rw [toList_data, h0]
    rw [h0]
    clear h0
    go_enter Tryz.func110, Tryz.ntmps110
    go_wp2
    go_ret
    exact ⟨rfl, rfl⟩
  · have hsz := Sc.size_pos h0
    have h1 : (s.toList == ([] : List UInt8)) = false := by rw [toList_data, beq_eq_false_iff_ne]; exact h0
    have F := Lib.hid (congrArg Sc.ends (Sc.head_of hsz))
    have e32 : ∀ b : UInt8, ((b.toNat : Int) == 32) = (b == 32) := fun b => beq_u8 b 32 (by decide)
    have e9 : ∀ b : UInt8, ((b.toNat : Int) == 9) = (b == 9) := fun b => beq_u8 b 9 (by decide)
    clear h0
    cases h2 : (s[0] == 32) with
    | true =>
      go_enter Tryz.func110, Tryz.ntmps110
      go_wp2
      go_ret
      exact ⟨by rw [F.out, Sc.ends, Sc.blank, h2]; rfl, rfl⟩
    | false =>
      go_enter Tryz.func110, Tryz.ntmps110
      go_wp2
      go_ret
      exact ⟨by rw [F.out, Sc.ends, Sc.blank, h2]; rfl, rfl⟩

theorem trim_any (s : ByteArray) (w : World) (hs : Small s) :
    Calls Tryz.prog 95 #[.string s, .string ⟨#[32, 9]⟩] w fun e w' => ∃ r : ByteArray, e = .returned (.string r) ∧ r.data.toList = Sc.trim s.data.toList ∧ Below w.heap.size w w' := by
  refine (Tryz.strings_Trim_set s ⟨#[32, 9]⟩ w (by unfold Small at hs; omega) (by decide) (ascii_of_all (by decide))).mono ?_
  rintro e w1 ⟨rfl, hb⟩
  exact ⟨_, rfl, rfl, hb⟩
theorem blank_any (s : ByteArray) (w : World) (hs : Small s) :
    Calls Tryz.prog 104 #[.string s] w fun e w' => e = .returned (.bool (Sc.blanks s.data.toList)) ∧ Below w.heap.size w w' := by
  go_enter Tryz.func104, Tryz.ntmps104
  go_wp2_with (go_at_call 95; (with_reducible refine (trim_any s _ hs).mono ?_); rintro e w1 ⟨r, rfl, hr, hb⟩; have HR := Lib.hid hr; clear hr)
  go_ret
  refine ⟨ret_bool ?_, hb⟩
  rw [empty_iff, HR.out, Bool.eq_iff_iff, decide_eq_true_iff, Sc.trim_nil]

theorem closes_any (s : ByteArray) (c : UInt8) (n : Int) (w : World) (hs : Small s) (h0 : -9223372036854775808 ≤ n) (h1 : n ≤ 9223372036854775807) :
    Calls Tryz.prog 75 #[.string s, .int .u8 c.toNat, .int .i64 n] w fun e w' => e = .returned (.bool (Sc.closes s.data.toList c n)) ∧ Below w.heap.size w w' := by
  have hr := Sc.run_le c s.data.toList
  rw [Sc.len_size] at hr
  have hd := Lib.hid (Sc.drop_data s (Sc.run c s.data.toList))
  have hz : Small (s.extract (Sc.run c s.data.toList) s.size) := by unfold Small at *; rw [← Sc.len_size, hd.out]; simp; omega
  have F : Sc.closes s.data.toList c n = (decide (n ≤ Sc.run c s.data.toList) && decide (1 ≤ Sc.run c s.data.toList) && Sc.blanks (s.data.toList.drop (Sc.run c s.data.toList))) := rfl
  have R := run_any s c w hs
  rw [F]
  clear F
  generalize Sc.run c s.data.toList = k at *
  have hk : (k : Int) ≤ 4000000000 := by unfold Small at hs; omega
  have B := blank_any _ w hz
  rw [hd.out] at B
  generalize Sc.blanks (s.data.toList.drop k) = bl at *
  by_cases hn : n ≤ k
  · by_cases hk1 : 1 ≤ k
    · have E : (decide (n ≤ (k : Int)) && decide (1 ≤ k) && bl) = bl := by simp [hn, hk1]
      rw [E]
      clear E
      have hm : max n 1 ≤ (k : Int) := by omega
      have hm2 : decide ((k : Int) < max n 1) = false := by rw [decide_eq_false_iff_not]; omega
      go_enter Tryz.func75, Tryz.ntmps75
      go_wp2_with (first
        | (go_at_call 103; refine R.mono ?_; rintro e w1 ⟨rfl, rfl⟩)
        | (go_at_call 104; refine B.mono ?_; rintro e w1 ⟨rfl, hb⟩))
      go_ret
      exact ⟨rfl, hb⟩
    · have E : (decide (n ≤ (k : Int)) && decide (1 ≤ k) && bl) = false := by simp [hk1]
      rw [E]
      clear E
      have hm : ¬ max n 1 ≤ (k : Int) := by omega
      have hm2 : decide ((k : Int) < max n 1) = true := by rw [decide_eq_true_iff]; omega
      go_enter Tryz.func75, Tryz.ntmps75
      go_wp2_with (go_at_call 103; refine R.mono ?_; rintro e w1 ⟨rfl, rfl⟩)
      go_ret
      exact ⟨rfl, Below.refl _ _⟩
  · have E : (decide (n ≤ (k : Int)) && decide (1 ≤ k) && bl) = false := by simp [hn]
    rw [E]
    clear E
    have hm : ¬ max n 1 ≤ (k : Int) := by omega
    have hm2 : decide ((k : Int) < max n 1) = true := by rw [decide_eq_true_iff]; omega
    go_enter Tryz.func75, Tryz.ntmps75
    go_wp2_with (go_at_call 103; refine R.mono ?_; rintro e w1 ⟨rfl, rfl⟩)
    go_ret
    exact ⟨rfl, Below.refl _ _⟩
theorem bullet_any (s : ByteArray) (w : World) :
    Calls Tryz.prog 122 #[.string s] w fun e w' => e = .returned (.int .i64 (Sc.bullet s.data.toList)) ∧ Below w.heap.size w w' := by
  by_cases h0 : s.data.toList = []
  · have h1 : s.toList = [] := by rw [toList_data, h0]
    rw [h0]
    clear h0
    go_enter Tryz.func122, Tryz.ntmps122
    go_wp2
    go_ret
    exact ⟨rfl, Below.refl _ _⟩
  · have hsz := Sc.size_pos h0
    have h1 : (s.toList == ([] : List UInt8)) = false := by rw [toList_data, beq_eq_false_iff_ne]; exact h0
    have F := congrArg Sc.bullet (Sc.head_of hsz)
    have hd := Lib.hid (Sc.drop_data s 1)
    have key : ∀ b : UInt8, decide (Lib.indexByte [45, 43, 42] b < 0) = !(b == 45 || b == 43 || b == 42) := fun b => by
      simp only [Lib.indexByte]
      by_cases h1 : b = 45
      · subst h1; rfl
      · by_cases h2 : b = 43
        · subst h2; rfl
        · by_cases h3 : b = 42
          · subst h3; rfl
          · have n1 : ¬ (45 : UInt8) = b := fun e => h1 e.symm
            have n2 : ¬ (43 : UInt8) = b := fun e => h2 e.symm
            have n3 : ¬ (42 : UInt8) = b := fun e => h3 e.symm
            simp [h1, h2, h3, n1, n2, n3]
    rw [F, Sc.bullet]
    clear h0 F
    have K := key s[0]
    cases hb : (s[0] == 45 || s[0] == 43 || s[0] == 42) with
    | false =>
      rw [hb] at K
      clear hb key
      go_enter Tryz.func122, Tryz.ntmps122
      go_wp2_with (go_at_call 69; (with_reducible refine (Tryz.strings_IndexByte _ _ _).mono ?_); rintro e w1 ⟨rfl, rfl⟩; rw [byte_back])
      go_ret
      exact ⟨rfl, Below.refl _ _⟩
    | true =>
      rw [hb] at K
      clear hb key
      cases he : Sc.ends (s.data.toList.drop 1) with
      | true =>
        have E := ends_any (s.extract 1 s.size)
        rw [hd.out, he] at E
        clear he
        go_enter Tryz.func122, Tryz.ntmps122
        go_wp2_with (first
          | (go_at_call 69; (with_reducible refine (Tryz.strings_IndexByte _ _ _).mono ?_); rintro e w1 ⟨rfl, rfl⟩; rw [byte_back])
          | (go_at_call 110; refine (E _).mono ?_; rintro e w1 ⟨rfl, rfl⟩))
        go_ret
        exact ⟨rfl, Below.refl _ _⟩
      | false =>
        have E := ends_any (s.extract 1 s.size)
        rw [hd.out, he] at E
        clear he
        go_enter Tryz.func122, Tryz.ntmps122
        go_wp2_with (first
          | (go_at_call 69; (with_reducible refine (Tryz.strings_IndexByte _ _ _).mono ?_); rintro e w1 ⟨rfl, rfl⟩; rw [byte_back])
          | (go_at_call 110; refine (E _).mono ?_; rintro e w1 ⟨rfl, rfl⟩))
        go_ret
        exact ⟨rfl, Below.refl _ _⟩

theorem setext_any (s : ByteArray) (w : World) (hs : Small s) :
    Calls Tryz.prog 83 #[.string s] w fun e w' => e = .returned (.int .i64 (Sc.setext s.data.toList)) ∧ Below w.heap.size w w' := by
  have kc := fun (w : World) (C : Array Value) (n c : Nat) => Lib.run_convert_bytes_const (P := Tryz.prog) w 118 5 C n c Tryz.underlying118 Tryz.underlying5
  have hB : Below w.heap.size w (w.alloc (.cells #[.int .u8 61, .int .u8 45] 5 (2, 3))) := (Below.refl _ _).alloc (Nat.le_refl _) _
  have hq : (w.alloc (.cells #[.int .u8 61, .int .u8 45] 5 (2, 3))).heap[w.heap.size]? = some (.cells #[.int .u8 61, .int .u8 45] 5 (2, 3)) := by show (w.heap.push _)[w.heap.size]? = _; simp
  have Q1 : (w.alloc (.cells #[.int .u8 61, .int .u8 45] 5 (2, 3))).cell? ⟨w.heap.size, 0, none⟩ = some (.int .u8 61) := (cell_blk hq 0).trans rfl
  have Q2 : (w.alloc (.cells #[.int .u8 61, .int .u8 45] 5 (2, 3))).cell? ⟨w.heap.size, 1, none⟩ = some (.int .u8 45) := (cell_blk hq 1).trans rfl
  have q3 : ∀ W : World, Below (w.heap.size + 1) (w.alloc (.cells #[.int .u8 61, .int .u8 45] 5 (2, 3))) W → W.cell? ⟨w.heap.size, 1, none⟩ = some (.int .u8 45) := fun W b => (b.cell (p := ⟨w.heap.size, 1, none⟩) (Nat.lt_succ_self _)).trans Q2
  have Q3 := Lib.hid q3
  clear q3 hq
  have R := fun (c : UInt8) (w : World) => run_any s c w hs
  have R61 : ∀ w, Calls Tryz.prog 103 #[.string s, .int .u8 61] w fun e w' => e = .returned (.int .i64 (Sc.run 61 s.data.toList)) ∧ w = w' := R 61
  have R45 : ∀ w, Calls Tryz.prog 103 #[.string s, .int .u8 45] w fun e w' => e = .returned (.int .i64 (Sc.run 45 s.data.toList)) ∧ w = w' := R 45
  have bnd : ∀ c, Sc.run c s.data.toList ≤ s.size := fun c => by have := Sc.run_le c s.data.toList; rwa [Sc.len_size] at this
  have L1 := bnd 61
  have L2 := bnd 45
  have bl : ∀ k, k ≤ s.size → ∀ w, Calls Tryz.prog 104 #[.string (s.extract k s.size)] w fun e w' => e = .returned (.bool (Sc.blanks (s.data.toList.drop k))) ∧ Below w.heap.size w w' := fun k hk w => by
    have hd := Sc.drop_data s k
    have := blank_any (s.extract k s.size) w (by unfold Small at *; rw [← Sc.len_size, hd]; simp; omega)
    rwa [hd] at this
  have B1 := bl _ L1
  have B2 := bl _ L2
  have F : Sc.setext s.data.toList = if (0 < Sc.run 61 s.data.toList && Sc.blanks (s.data.toList.drop (Sc.run 61 s.data.toList))) = true then 1 else if (0 < Sc.run 45 s.data.toList && Sc.blanks (s.data.toList.drop (Sc.run 45 s.data.toList))) = true then 2 else 0 := rfl
  clear R bnd bl
  generalize Sc.setext s.data.toList = T at *
  generalize Sc.run 61 s.data.toList = k1 at *
  generalize Sc.run 45 s.data.toList = k2 at *
  generalize Sc.blanks (s.data.toList.drop k1) = b1 at *
  generalize Sc.blanks (s.data.toList.drop k2) = b2 at *
  have HF := Lib.hid F
  clear F
  unfold Small at hs
  go_enter Tryz.func83, Tryz.ntmps83
  go_wp2
  refine wp_loop_rounds 3 ?_
  rw [rounds_succ]
  go_wp2_with (first
    | (go_at_call 103; (with_reducible refine (R61 _).mono ?_); rintro e w1 ⟨rfl, rfl⟩)
    | (go_at_call 104; (with_reducible refine (B1 _).mono ?_); rintro e w1 ⟨rfl, hb1⟩; have q39 := Q3.out _ (hb1.mono (by simp))))
  · have c1 : 0 < k1 := by assumption
    have c2 : b1 = true := by assumption
    go_ret
    exact ⟨ret_int (by rw [HF.out, if_pos (by simp [c1, c2])]; rfl), hB.trans (hb1.mono (by simp))⟩
  · have c2 : b1 = false := by assumption
    have HF2 := Lib.hid (HF.out.trans (if_neg (by simp [c2])))
    have hB1 := hB.trans (hb1.mono (by simp))
    clear HF Q3
    rw [rounds_succ]
    go_wp2_with (first
      | (go_at_call 103; (with_reducible refine (R45 _).mono ?_); rintro e w2 ⟨rfl, rfl⟩)
      | (go_at_call 104; (with_reducible refine (B2 _).mono ?_); rintro e w2 ⟨rfl, hb2⟩))
    · have d1 : 0 < k2 := by assumption
      have d2 : b2 = true := by assumption
      go_ret
      exact ⟨ret_int (by rw [HF2.out, if_pos (by simp [d1, d2])]; rfl), hB1.trans (hb2.mono hB1.size)⟩
    · have d2 : b2 = false := by assumption
      rw [rounds_succ]
      go_wp2
      go_ret
      exact ⟨ret_int (by rw [HF2.out, if_neg (by simp [d2])]; rfl), hB1.trans (hb2.mono hB1.size)⟩
    · have d1 : ¬ 0 < k2 := by assumption
      rw [rounds_succ]
      go_wp2
      go_ret
      exact ⟨ret_int (by rw [HF2.out, if_neg (by simp [d1])]; rfl), hB1⟩
  · have c1 : ¬ 0 < k1 := by assumption
    have HF2 := Lib.hid (HF.out.trans (if_neg (by simp [c1])))
    clear HF Q3
    rw [rounds_succ]
    go_wp2_with (first
      | (go_at_call 103; (with_reducible refine (R45 _).mono ?_); rintro e w2 ⟨rfl, rfl⟩)
      | (go_at_call 104; (with_reducible refine (B2 _).mono ?_); rintro e w2 ⟨rfl, hb2⟩))
    · have d1 : 0 < k2 := by assumption
      have d2 : b2 = true := by assumption
      go_ret
      exact ⟨ret_int (by rw [HF2.out, if_pos (by simp [d1, d2])]; rfl), hB.trans (hb2.mono hB.size)⟩
    · have d2 : b2 = false := by assumption
      rw [rounds_succ]
      go_wp2
      go_ret
      exact ⟨ret_int (by rw [HF2.out, if_neg (by simp [d2])]; rfl), hB.trans (hb2.mono hB.size)⟩
    · have d1 : ¬ 0 < k2 := by assumption
      rw [rounds_succ]
      go_wp2
      go_ret
      exact ⟨ret_int (by rw [HF2.out, if_neg (by simp [d1])]; rfl), hB⟩
end Go.Proofs.YtehmcahdjldhbaaGreatDoor
end
section
/- The walk of scan.Atx. -/
open Go Go.RowKit
set_option linter.unusedVariables false
set_option maxRecDepth 100000
namespace Go.Proofs.YtehmcahdjldhbaaGreatDoor
open Wk
/-- A text of these bytes. -/
def mk (l : List UInt8) : ByteArray := ⟨l.toArray⟩
theorem mk_data (l : List UInt8) : (mk l).data.toList = l := rfl
theorem mk_of {r : ByteArray} {l : List UInt8} (h : r.data.toList = l) : r = mk l := same_text (by rw [h, mk_data])
theorem mk_size (l : List UInt8) : (mk l).size = l.length := by rw [← Sc.len_size, mk_data]
theorem mk_toList (l : List UInt8) : (mk l).toList = l := by rw [toList_data, mk_data]
theorem mk_self (s : ByteArray) : mk s.data.toList = s := (mk_of rfl).symm
namespace Sc
def fence (l : List UInt8) : UInt8 × Nat × List UInt8 :=
  match l with
  | [] => (0, 0, [])
  | b :: _ =>
    if b ≠ 96 ∧ b ≠ 126 then (0, 0, [])
    else if run b l < 3 ∨ (b = 96 ∧ (l.drop (run b l)).contains 96) then (0, 0, [])
    else (b, run b l, trim (l.drop (run b l)))
def trimR (l : List UInt8) (cs : List UInt8) : List UInt8 := Lib.trimRightS l cs
def atx (l : List UInt8) : Nat × List UInt8 :=
  if run 35 l < 1 ∨ 6 < run 35 l ∨ ends (l.drop (run 35 l)) = false then (0, [])
  else
    let t := trim (l.drop (run 35 l))
    let bare := trimR t [35]
    (run 35 l, if bare = [] ∨ trimR bare [32, 9] ≠ bare then trimR bare [32, 9] else t)
end Sc
theorem trim_v (s : ByteArray) (w : World) (hs : Small s) :
    Calls Tryz.prog 95 #[.string s, .string ⟨#[32, 9]⟩] w fun e w' => e = .returned (.string (mk (Sc.trim s.data.toList))) ∧ Below w.heap.size w w' :=
  (trim_any s w hs).mono fun e w' ⟨r, he, hr, hb⟩ => ⟨by rw [he, mk_of hr], hb⟩
theorem trimR_v (s : ByteArray) (w : World) (hs : Small s) :
    Calls Tryz.prog 111 #[.string s, .string ⟨#[32, 9]⟩] w fun e w' => e = .returned (.string (mk (Sc.trimR s.data.toList [32, 9]))) ∧ Below w.heap.size w w' :=
  Tryz.strings_TrimRight_set s ⟨#[32, 9]⟩ w (by unfold Small at hs; omega) (by decide) (ascii_of_all (by decide))
theorem trimR_35 (s : ByteArray) (w : World) (hs : Small s) :
    Calls Tryz.prog 111 #[.string s, .string ⟨#[35]⟩] w fun e w' => e = .returned (.string (mk (Sc.trimR s.data.toList [35]))) ∧ Below w.heap.size w w' :=
  Tryz.strings_TrimRight_set s ⟨#[35]⟩ w (by unfold Small at hs; omega) (by decide) (ascii_of_all (by decide))
theorem trimR_len (l cs : List UInt8) : (Sc.trimR l cs).length ≤ l.length := by
  unfold Sc.trimR Lib.trimRightS
  rw [List.length_reverse]
  have := Sc.len_dropWhile (p := fun x => cs.contains x) l.reverse
  simpa using this
theorem trim_len (l : List UInt8) : (Sc.trim l).length ≤ l.length := by
  unfold Sc.trim Lib.trimS Lib.trimLeftS
  have h1 := Sc.len_dropWhile (p := fun x => ([32, 9] : List UInt8).contains x) (Lib.trimRightS l [32, 9])
  have h2 := trimR_len l [32, 9]
  unfold Sc.trimR at h2
  omega
theorem behind_contains (c : UInt8) : ∀ l : List UInt8, (Sc.behind c l).isSome = l.contains c
  | [] => rfl
  | b :: t => by
    rw [List.contains_cons, ← behind_contains c t, Sc.behind]
    by_cases h : b = c
    · subst h; simp
    · have h' : (c == b) = false := by rw [beq_eq_false_iff_ne]; exact fun e => h e.symm
      rw [if_neg h, h', Bool.false_or]
theorem index_nonneg (c : UInt8) (l : List UInt8) : decide (0 ≤ Lib.indexByte l c) = l.contains c := by
  rw [← behind_contains]
  rcases Sc.index_behind c l with ⟨h1, h2⟩ | ⟨i, h1, _, h2⟩
  · rw [h2, decide_eq_false (by omega)]; rfl
  · rw [h2, decide_eq_true (by omega)]; rfl

theorem atx_any (s : ByteArray) (w : World) (hs : Small s) :
    Calls Tryz.prog 78 #[.string s] w fun e w' => e = .returned (.tuple #[.int .i64 (Sc.atx s.data.toList).1, .string (mk (Sc.atx s.data.toList).2)]) ∧ Below w.heap.size w w' := by
  have hr := Sc.run_le 35 s.data.toList
  rw [Sc.len_size] at hr
  have hd := Lib.hid (Sc.drop_data s (Sc.run 35 s.data.toList))
  have hz : Small (s.extract (Sc.run 35 s.data.toList) s.size) := by unfold Small at *; rw [← Sc.len_size, hd.out]; simp; omega
  have R : ∀ w, Calls Tryz.prog 103 #[.string s, .int .u8 35] w fun e w' => e = .returned (.int .i64 (Sc.run 35 s.data.toList)) ∧ w = w' := fun w => run_any s 35 w hs
  have E := ends_any (s.extract (Sc.run 35 s.data.toList) s.size)
  have TR := fun w => trim_v (s.extract (Sc.run 35 s.data.toList) s.size) w hz
  rw [hd.out] at E TR
  have hzt : Small (mk (Sc.trim (s.data.toList.drop (Sc.run 35 s.data.toList)))) := by
    have := trim_len (s.data.toList.drop (Sc.run 35 s.data.toList))
    unfold Small at *; rw [mk_size]; simp at this; omega
  have T2 := fun w => trimR_35 _ w hzt
  rw [mk_data] at T2
  have hzb : Small (mk (Sc.trimR (Sc.trim (s.data.toList.drop (Sc.run 35 s.data.toList))) [35])) := by
    have := trimR_len (Sc.trim (s.data.toList.drop (Sc.run 35 s.data.toList))) [35]
    unfold Small at *; rw [mk_size] at *; omega
  have T3 := fun w => trimR_v _ w hzb
  rw [mk_data] at T3
  have F : Sc.atx s.data.toList = if Sc.run 35 s.data.toList < 1 ∨ 6 < Sc.run 35 s.data.toList ∨ Sc.ends (s.data.toList.drop (Sc.run 35 s.data.toList)) = false then (0, []) else (Sc.run 35 s.data.toList, if Sc.trimR (Sc.trim (s.data.toList.drop (Sc.run 35 s.data.toList))) [35] = [] ∨ Sc.trimR (Sc.trimR (Sc.trim (s.data.toList.drop (Sc.run 35 s.data.toList))) [35]) [32, 9] ≠ Sc.trimR (Sc.trim (s.data.toList.drop (Sc.run 35 s.data.toList))) [35] then Sc.trimR (Sc.trimR (Sc.trim (s.data.toList.drop (Sc.run 35 s.data.toList))) [35]) [32, 9] else Sc.trim (s.data.toList.drop (Sc.run 35 s.data.toList))) := rfl
  generalize Sc.atx s.data.toList = X at *
  generalize Sc.run 35 s.data.toList = k at *
  generalize Sc.ends (s.data.toList.drop k) = en at *
  generalize Sc.trim (s.data.toList.drop k) = t at *
  generalize Sc.trimR t [35] = bare at *
  generalize Sc.trimR bare [32, 9] = cut at *
  unfold Small at hs
  by_cases h1 : k < 1 ∨ 6 < k ∨ en = false
  · rw [if_pos h1] at F
    subst F
    by_cases h2 : k < 1
    · clear h1
      go_enter Tryz.func78, Tryz.ntmps78
      go_wp2_with (go_at_call 103; (with_reducible refine (R _).mono ?_); rintro e w1 ⟨rfl, rfl⟩)
      go_ret2
      exact ⟨rfl, Below.refl _ _⟩
    · by_cases h3 : 6 < k
      · clear h1
        go_enter Tryz.func78, Tryz.ntmps78
        go_wp2_with (go_at_call 103; (with_reducible refine (R _).mono ?_); rintro e w1 ⟨rfl, rfl⟩)
        go_ret2
        exact ⟨rfl, Below.refl _ _⟩
      · have h4 : en = false := by rcases h1 with h | h | h; exact absurd h h2; exact absurd h h3; exact h
        subst h4
        clear h1
        go_enter Tryz.func78, Tryz.ntmps78
        go_wp2_with (first
          | (go_at_call 103; (with_reducible refine (R _).mono ?_); rintro e w1 ⟨rfl, rfl⟩)
          | (go_at_call 110; (with_reducible refine (E _).mono ?_); rintro e w1 ⟨rfl, rfl⟩))
        go_ret2
        exact ⟨rfl, Below.refl _ _⟩
  · rw [if_neg h1] at F
    have h2 : 1 ≤ k := by omega
    have h3 : k ≤ 6 := by omega
    have h4 : en = true := by cases en; exact absurd (.inr (.inr rfl)) h1; rfl
    subst h4
    clear h1
    have mt := mk_toList
    have fin : ∀ W : World, Below w.heap.size w W → (∀ c, (if bare = [] ∨ cut ≠ bare then cut else t) = c → (Ending.returned (.tuple #[.int .i64 k, .string (mk c)]) = .returned (.tuple #[.int .i64 X.1, .string (mk X.2)]) ∧ Below w.heap.size w W)) := by
      intro W hb c hc
      rw [F, hc]; exact ⟨rfl, hb⟩
    have FIN := Lib.hid fin
    clear fin F
    by_cases hb : bare = []
    · have HP : Hid ((if bare = [] ∨ cut ≠ bare then cut else t) = cut) := if_pos (.inl hb)
      have hb1 : (bare == ([] : List UInt8)) = true := by simpa using hb
      clear hb
      go_enter Tryz.func78, Tryz.ntmps78
      go_wp2_with (first
        | (go_at_call 103; (with_reducible refine (R _).mono ?_); rintro e w1 ⟨rfl, rfl⟩)
        | (go_at_call 110; (with_reducible refine (E _).mono ?_); rintro e w1 ⟨rfl, rfl⟩)
        | (go_at_call 95; (with_reducible refine (TR _).mono ?_); rintro e w1 ⟨rfl, b1⟩)
        | (go_at_call 111; (with_reducible refine (T2 _).mono ?_); rintro e w2 ⟨rfl, b2⟩)
        | (go_at_call 111; (with_reducible refine (T3 _).mono ?_); rintro e w3 ⟨rfl, b3⟩))
      go_ret2
      exact FIN.out _ (b1.trans ((b2.mono b1.size).trans (b3.mono (Nat.le_trans b1.size b2.size)))) _ HP.out
    · have hb1 : (bare == ([] : List UInt8)) = false := by simpa using hb
      by_cases hc : cut = bare
      · have HP : Hid ((if bare = [] ∨ cut ≠ bare then cut else t) = t) := if_neg (by rintro (h | h); exact hb h; exact h hc)
        have hc1 : (cut == bare) = true := by simpa using hc
        have hc2 : (cut != bare) = false := by simpa using hc
        clear hb hc
        go_enter Tryz.func78, Tryz.ntmps78
        go_wp2_with (first
          | (go_at_call 103; (with_reducible refine (R _).mono ?_); rintro e w1 ⟨rfl, rfl⟩)
          | (go_at_call 110; (with_reducible refine (E _).mono ?_); rintro e w1 ⟨rfl, rfl⟩)
          | (go_at_call 95; (with_reducible refine (TR _).mono ?_); rintro e w1 ⟨rfl, b1⟩)
          | (go_at_call 111; (with_reducible refine (T2 _).mono ?_); rintro e w2 ⟨rfl, b2⟩)
          | (go_at_call 111; (with_reducible refine (T3 _).mono ?_); rintro e w3 ⟨rfl, b3⟩))
        go_ret2
        exact FIN.out _ (b1.trans ((b2.mono b1.size).trans (b3.mono (Nat.le_trans b1.size b2.size)))) _ HP.out
      · have HP : Hid ((if bare = [] ∨ cut ≠ bare then cut else t) = cut) := if_pos (.inr hc)
        have hc1 : (cut == bare) = false := by simpa using hc
        have hc2 : (cut != bare) = true := by simpa using hc
        clear hb hc
        go_enter Tryz.func78, Tryz.ntmps78
        go_wp2_with (first
          | (go_at_call 103; (with_reducible refine (R _).mono ?_); rintro e w1 ⟨rfl, rfl⟩)
          | (go_at_call 110; (with_reducible refine (E _).mono ?_); rintro e w1 ⟨rfl, rfl⟩)
          | (go_at_call 95; (with_reducible refine (TR _).mono ?_); rintro e w1 ⟨rfl, b1⟩)
          | (go_at_call 111; (with_reducible refine (T2 _).mono ?_); rintro e w2 ⟨rfl, b2⟩)
          | (go_at_call 111; (with_reducible refine (T3 _).mono ?_); rintro e w3 ⟨rfl, b3⟩))
        go_ret2
        exact FIN.out _ (b1.trans ((b2.mono b1.size).trans (b3.mono (Nat.le_trans b1.size b2.size)))) _ HP.out
end Go.Proofs.YtehmcahdjldhbaaGreatDoor
end
section
/- Package column: how wide a line's blanks are (column.blanks, Indent and its closure). -/
open Go Go.RowKit
set_option linter.unusedVariables false
set_option linter.unusedSimpArgs false
set_option maxRecDepth 100000
namespace Go.Proofs.YtehmcahdjldhbaaGreatDoor
open Wk
namespace Bk
abbrev Bs := List UInt8
def indW : Bs → Nat → Nat
  | [], _ => 0
  | b :: t, col => if b = 9 then (4 - col % 4) + indW t (col + (4 - col % 4)) else if b = 32 then 1 + indW t (col + 1) else 0
def indK : Bs → Nat
  | [] => 0
  | b :: t => if b = 9 ∨ b = 32 then indK t + 1 else 0

/-- Block g holds one number. -/
structure AtI (g : Nat) (n : Nat) (w : World) : Prop where
  blk : w.heap[g]? = some (.cells #[.int .i64 (n : Int)] 3 (0, 0))
namespace AtI
variable {g n : Nat} {w w' : World}
theorem lt (h : AtI g n w) : g < w.heap.size := (Array.getElem?_eq_some_iff.1 h.blk).1
theorem cell (h : AtI g n w) : w.cell? ⟨g, 0, none⟩ = some (.int .i64 n) := by simp [World.cell?, h.blk]
theorem free (h : AtI g n w) : w.frozen? ⟨g, 0, none⟩ = false := by simp [World.frozen?, h.blk]
theorem set (h : AtI g n w) (r : Nat) : AtI g r (w.setCell ⟨g, 0, none⟩ (.int .i64 r)) := ⟨by simp [World.setCell, Array.getElem?_modify, h.blk]⟩
theorem drew (h : AtI g n w) : AtI g n w.drew := ⟨h.blk⟩
theorem alloc (h : AtI g n w) (o : Obj) : AtI g n (w.alloc o) := ⟨by rw [Below.heap_alloc w o g h.lt]; exact h.blk⟩
theorem below (h : AtI g n w) (hb : Below w.heap.size w w') : AtI g n w' := ⟨(hb.block g h.lt).trans h.blk⟩
end AtI
theorem indW_le : ∀ (l : Bs) (c : Nat), indW l c ≤ 4 * l.length
  | [], _ => by simp [indW]
  | b :: t, c => by
    have := indW_le t (c + (4 - c % 4))
    have := indW_le t (c + 1)
    simp only [indW, List.length_cons]
    split
    · omega
    · split <;> omega

theorem indent1_any (g n d : Nat) (w : World) (h : AtI g n w) (hb : n + d ≤ 4000000000000) :
    Calls Tryz.prog 109 #[.int .i64 d, .pointer (some ⟨g, 0, none⟩)] w fun e w' => e = .returned (.bool true) ∧ w' = w.setCell ⟨g, 0, none⟩ (.int .i64 ((n + d : Nat) : Int)) := by
  have hc := h.cell
  have hf := h.free
  go_enter Tryz.func109, Tryz.ntmps109
  go_wp2
  go_ret
  exact ⟨rfl, by simp⟩

theorem indent1_int (g n d : Nat) (D : Int) (hD : D = d) (w : World) (h : AtI g n w) (hb : n + d ≤ 4000000000000) :
    Calls Tryz.prog 109 #[.int .i64 D, .pointer (some ⟨g, 0, none⟩)] w fun e w' => e = .returned (.bool true) ∧ AtI g (n + d) w' ∧ But g w w' := by
  subst hD
  refine (indent1_any g n d w h hb).mono ?_
  rintro e w1 ⟨rfl, rfl⟩
  exact ⟨rfl, h.set _, But.refl.set _ _⟩

theorem blanksI_any (g n c : Nat) (s : ByteArray) (w : World) (h : AtI g n w) (hs : s.size ≤ 4000000000) (hn : n ≤ 100000000000) (hcc : c ≤ 100000000000) :
    Calls Tryz.prog 107 #[.string s, .int .i64 c, .func (.func 109) #[] #[.pointer (some ⟨g, 0, none⟩)]] w
      fun e w' => e = .returned (.string (mk (s.data.toList.drop (indK s.data.toList)))) ∧ AtI g (n + indW s.data.toList c) w' ∧ But g w w' := by
  have e9 : ∀ b : UInt8, ((b.toNat : Int) == 9) = (b == 9) := fun b => beq_u8 b 9 (by decide)
  have e32 : ∀ b : UInt8, ((b.toNat : Int) == 32) = (b == 32) := fun b => beq_u8 b 32 (by decide)
  have hlen := Sc.len_size s
  go_enter Tryz.func107, Tryz.ntmps107
  go_wp2
  go_loopw [0, 1] (fun sv cv wr => ∃ (r : ByteArray) (c' n' : Nat), sv = .string r ∧ cv = .int .i64 c' ∧ AtI g n' wr ∧ Hid (n' + indW r.data.toList c' = n + indW s.data.toList c) ∧
      Hid (r.data.toList.drop (indK r.data.toList) = s.data.toList.drop (indK s.data.toList)) ∧ c' + 4 * r.size ≤ c + 4 * s.size ∧ n' + 4 * r.size ≤ n + 4 * s.size ∧ But g w wr)
    (fun sv _ _ => match sv with | .string r => r.size | _ => 0)
  case atStart => exact ⟨s, c, n, rfl, rfl, h, Lib.hid rfl, Lib.hid rfl, by omega, by omega, But.refl⟩
  case round =>
    obtain ⟨r, c', n', rfl, rfl, hA, hW, hK, hb1, hb2, hB⟩ := hrel
    have hb1' : c' ≤ 200000000000 := by omega
    by_cases hz : r.data.toList = []
    · have h1 : r.toList = [] := by rw [toList_data, hz]
      have F : mk (s.data.toList.drop (indK s.data.toList)) = r := by rw [← hK.out, hz]; exact (mk_of (by rw [hz]; rfl)).symm
      have HW : AtI g (n + indW s.data.toList c) wr := by rw [← hW.out, hz]; simpa [indW] using hA
      have FF := Lib.hid F
      clear hz F hW hK
      go_wp2
      go_ret
      exact ⟨by rw [FF.out]; rfl, HW, hB⟩
    · have hsz := Sc.size_pos hz
      have hne : (r.toList == ([] : List UInt8)) = false := by rw [toList_data, beq_eq_false_iff_ne]; exact hz
      have hh := Lib.hid (Sc.head_of hsz)
      have he := Lib.hid (Sc.drop_data r 1)
      have hes : (r.extract 1 r.size).size = r.size - 1 := by simp
      clear hz
      by_cases q9 : r[0] = 9
      · have q1 : (r[0] == 9) = true := by simpa using q9
        have step1 : n' + (4 - c' % 4) + indW (r.data.toList.drop 1) (c' + (4 - c' % 4)) = n + indW s.data.toList c := by
          rw [← hW.out]; conv => rhs; rw [hh.out]
          simp only [indW, q9, if_true]; omega
        have step2 : (r.data.toList.drop 1).drop (indK (r.data.toList.drop 1)) = s.data.toList.drop (indK s.data.toList) := by
          rw [← hK.out]; conv => rhs; rw [hh.out]
          simp [indK, q9]
        have S1 := Lib.hid step1
        have S2 := Lib.hid step2
        clear step1 step2 hW hK q9
        have hm : c' % 4 < 4 := Nat.mod_lt _ (by decide)
        go_wp2_with (go_at_call 109; (with_reducible refine (indent1_int g n' (4 - c' % 4) _ (by omega) _ hA (by omega)).mono ?_); rintro e w1 ⟨rfl, hA1, hB1⟩)
        go_roundw
        case rel => exact ⟨_, c' + (4 - c' % 4), n' + (4 - c' % 4), rfl, by go_num, hA1, by rw [he.out]; exact S1, by rw [he.out]; exact S2, by rw [hes]; omega, by rw [hes]; omega, hB.trans hB1⟩
        case measure => simp; omega
      · have q1 : (r[0] == 9) = false := by simpa using q9
        by_cases q32 : r[0] = 32
        · have q2 : (r[0] == 32) = true := by simpa using q32
          have step1 : n' + 1 + indW (r.data.toList.drop 1) (c' + 1) = n + indW s.data.toList c := by
            rw [← hW.out]; conv => rhs; rw [hh.out]
            simp [indW, q32]; omega
          have step2 : (r.data.toList.drop 1).drop (indK (r.data.toList.drop 1)) = s.data.toList.drop (indK s.data.toList) := by
            rw [← hK.out]; conv => rhs; rw [hh.out]
            simp [indK, q32]
          have S1 := Lib.hid step1
          have S2 := Lib.hid step2
          clear step1 step2 hW hK q9 q32
          go_wp2_with (go_at_call 109; (with_reducible refine (indent1_int g n' 1 _ (by omega) _ hA (by omega)).mono ?_); rintro e w1 ⟨rfl, hA1, hB1⟩)
          go_roundw
          case rel => exact ⟨_, c' + 1, n' + 1, rfl, by go_num, hA1, by rw [he.out]; exact S1, by rw [he.out]; exact S2, by rw [hes]; omega, by rw [hes]; omega, hB.trans hB1⟩
          case measure => simp; omega
        · have q2 : (r[0] == 32) = false := by simpa using q32
          have F : mk (s.data.toList.drop (indK s.data.toList)) = r := by
            rw [← hK.out]
            refine (mk_of ?_).symm
            conv => rhs; rw [hh.out]
            rw [hh.out]; simp [indK, q9, q32]
          have HW : AtI g (n + indW s.data.toList c) wr := by
            rw [← hW.out, hh.out]; simpa [indW, q9, q32] using hA
          have FF := Lib.hid F
          clear F hW hK q9 q32
          go_wp2
          go_ret
          exact ⟨by rw [FF.out]; rfl, HW, hB⟩

theorem from_any (c : Nat) (w : World) (hc : c ≤ 1073741824) :
    Calls Tryz.prog 108 #[.int .i64 c] w fun e w' => e = .returned (.int .i64 c) ∧ w = w' := by
  go_enter Tryz.func108, Tryz.ntmps108
  go_wp2
  go_ret
  exact ⟨rfl, rfl⟩

theorem indK_le : ∀ l : Bs, indK l ≤ l.length
  | [] => by simp [indK]
  | b :: t => by
    have := indK_le t
    simp only [indK, List.length_cons]
    split <;> omega

theorem indent_any (s : ByteArray) (c : Nat) (w : World) (hs : s.size ≤ 4000000000) (hc : c ≤ 1073741824) :
    Calls Tryz.prog 77 #[.string s, .int .i64 c] w fun e w' => e = .returned (.tuple #[.int .i64 (indW s.data.toList c), .int .i64 (indK s.data.toList)]) ∧ Below w.heap.size w w' := by
  have hk := indK_le s.data.toList
  have hw := indW_le s.data.toList c
  rw [Sc.len_size] at hk hw
  have hsz : (mk (s.data.toList.drop (indK s.data.toList))).size = s.size - indK s.data.toList := by rw [mk_size, List.length_drop, Sc.len_size]
  have A0 : AtI w.heap.size 0 (w.alloc (.cells #[.int .i64 0] 3)) := ⟨heap_alloc_new w _⟩
  generalize hR : mk (s.data.toList.drop (indK s.data.toList)) = R at hsz
  generalize hW : indW s.data.toList c = W at hw
  generalize hK : indK s.data.toList = K at hk hsz
  have ek : ((s.size : Int) - ((s.size - K : Nat) : Int)) = K := by omega
  have HR := Lib.hid hR
  have HW := Lib.hid hW
  have BL := blanksI_any w.heap.size 0 c s _ A0 hs (by omega) (by omega)
  rw [hR, hW, Nat.zero_add] at BL
  clear hR hW hK
  go_enter Tryz.func77, Tryz.ntmps77
  go_wp2_with (first
    | (go_at_call 108; (with_reducible refine (from_any c _ hc).mono ?_); rintro e w1 ⟨rfl, rfl⟩)
    | (go_at_call 107; (with_reducible refine BL.mono ?_); rintro e w1 ⟨rfl, hA1, hB1⟩; have hcell := hA1.cell))
  go_ret2
  refine ⟨?_, ((Below.refl _ w).alloc (Nat.le_refl _) _).trans (hB1.below (B := w.heap.size) (by simp) (Nat.le_refl _))⟩
  rfl
end Bk
end Go.Proofs.YtehmcahdjldhbaaGreatDoor
end
section
/- The walk of scan.Fence. -/
open Go Go.RowKit
set_option linter.unusedVariables false
set_option maxRecDepth 100000
namespace Go.Proofs.YtehmcahdjldhbaaGreatDoor
open Wk
theorem fence_any (s : ByteArray) (w : World) (hs : Small s) :
    Calls Tryz.prog 79 #[.string s] w fun e w' => e = .returned (.tuple #[.int .u8 (Sc.fence s.data.toList).1.toNat, .int .i64 (Sc.fence s.data.toList).2.1, .string (mk (Sc.fence s.data.toList).2.2)]) ∧ Below w.heap.size w w' := by
  by_cases h0 : s.data.toList = []
  · have h1 : s.toList = [] := by rw [toList_data, h0]
    rw [h0]
    clear h0
    go_enter Tryz.func79, Tryz.ntmps79
    go_wp2
    go_ret3
    exact ⟨rfl, Below.refl _ _⟩
  · have hsz := Sc.size_pos h0
    have h1 : (s.toList == ([] : List UInt8)) = false := by rw [toList_data, beq_eq_false_iff_ne]; exact h0
    have e96 : ∀ b : UInt8, ((b.toNat : Int) == 96) = (b == 96) := fun b => beq_u8 b 96 (by decide)
    have n96 : ∀ b : UInt8, ((b.toNat : Int) != 96) = (b != 96) := fun b => bne_u8 b 96 (by decide)
    have n126 : ∀ b : UInt8, ((b.toNat : Int) != 126) = (b != 126) := fun b => bne_u8 b 126 (by decide)
    have hr := Sc.run_le s[0] s.data.toList
    rw [Sc.len_size] at hr
    have hd := Lib.hid (Sc.drop_data s (Sc.run s[0] s.data.toList))
    have hz : Small (s.extract (Sc.run s[0] s.data.toList) s.size) := by unfold Small at *; rw [← Sc.len_size, hd.out]; simp; omega
    have R : ∀ w, Calls Tryz.prog 103 #[.string s, .int .u8 s[0].toNat] w fun e w' => e = .returned (.int .i64 (Sc.run s[0] s.data.toList)) ∧ w = w' := fun w => run_any s s[0] w hs
    have TR := fun w => trim_v (s.extract (Sc.run s[0] s.data.toList) s.size) w hz
    have IX := Tryz.strings_IndexByte (s.extract (Sc.run s[0] s.data.toList) s.size) 96
    have IN := index_nonneg 96 (s.data.toList.drop (Sc.run s[0] s.data.toList))
    rw [hd.out] at TR IX
    have e96b : (96 : Int).toNat.toUInt8 = 96 := rfl
    rw [e96b] at IX
    have F : Sc.fence s.data.toList = (if s[0] ≠ 96 ∧ s[0] ≠ 126 then (0, 0, []) else if Sc.run s[0] s.data.toList < 3 ∨ (s[0] = 96 ∧ (s.data.toList.drop (Sc.run s[0] s.data.toList)).contains 96) then (0, 0, []) else (s[0], Sc.run s[0] s.data.toList, Sc.trim (s.data.toList.drop (Sc.run s[0] s.data.toList))) : UInt8 × Nat × List UInt8) := by
      have G : ∀ (b : UInt8) (t l : List UInt8), l = b :: t → Sc.fence l = (if b ≠ 96 ∧ b ≠ 126 then (0, 0, []) else if Sc.run b l < 3 ∨ (b = 96 ∧ (l.drop (Sc.run b l)).contains 96) then (0, 0, []) else (b, Sc.run b l, Sc.trim (l.drop (Sc.run b l))) : UInt8 × Nat × List UInt8) := by
        intro b t l h; subst h; rfl
      exact G _ _ _ (Sc.head_of hsz)
    generalize Sc.fence s.data.toList = X at *
    generalize Sc.run s[0] s.data.toList = k at *
    generalize Sc.trim (s.data.toList.drop k) = t at *
    generalize (s.data.toList.drop k).contains 96 = has at *
    generalize Lib.indexByte (s.data.toList.drop k) 96 = ix at *
    unfold Small at hs
    clear h0
    by_cases h2 : s[0] ≠ 96 ∧ s[0] ≠ 126
    · rw [if_pos h2] at F
      subst F
      have a1 : (s[0] != 96) = true := by simpa using h2.1
      have a2 : (s[0] != 126) = true := by simpa using h2.2
      clear h2
      go_enter Tryz.func79, Tryz.ntmps79
      go_wp2
      go_ret3
      exact ⟨rfl, Below.refl _ _⟩
    · rw [if_neg h2] at F
      by_cases h3 : k < 3
      · rw [if_pos (.inl h3)] at F
        subst F
        by_cases h4 : s[0] = 96
        · have a1 : (s[0] != 96) = false := by simpa using h4
          have a2 : (s[0] == 96) = true := by simpa using h4
          clear h2 h4
          go_enter Tryz.func79, Tryz.ntmps79
          go_wp2_with (go_at_call 103; (with_reducible refine (R _).mono ?_); rintro e w1 ⟨rfl, rfl⟩)
          go_ret3
          exact ⟨rfl, Below.refl _ _⟩
        · have h5 : s[0] = 126 := by by_cases h : s[0] = 126; exact h; exact absurd ⟨h4, h⟩ h2
          have a1 : (s[0] != 96) = true := by simpa using h4
          have a2 : (s[0] != 126) = false := by simpa using h5
          clear h2 h4 h5
          go_enter Tryz.func79, Tryz.ntmps79
          go_wp2_with (go_at_call 103; (with_reducible refine (R _).mono ?_); rintro e w1 ⟨rfl, rfl⟩)
          go_ret3
          exact ⟨rfl, Below.refl _ _⟩
      · have h3' : 3 ≤ k := by omega
        by_cases h4 : s[0] = 96
        · have a1 : (s[0] != 96) = false := by simpa using h4
          have a2 : (s[0] == 96) = true := by simpa using h4
          cases has with
          | true =>
            rw [if_pos (.inr ⟨h4, rfl⟩)] at F
            subst F
            have hix : 0 ≤ ix := of_decide_eq_true IN
            clear h2 h4 IN
            go_enter Tryz.func79, Tryz.ntmps79
            go_wp2_with (first
              | (go_at_call 103; (with_reducible refine (R _).mono ?_); rintro e w1 ⟨rfl, rfl⟩)
              | (go_at_call 69; (with_reducible refine (IX _).mono ?_); rintro e w1 ⟨rfl, rfl⟩))
            go_ret3
            exact ⟨rfl, Below.refl _ _⟩
          | false =>
            rw [if_neg (by rintro (h | h); omega; cases h.2)] at F
            have hix : ¬ 0 ≤ ix := of_decide_eq_false IN
            have HF := Lib.hid F
            have cQ : ∀ d os, Calls Tryz.prog 95 #[.string (s.extract k s.size), .string ⟨#[32, 9]⟩] (Go.Sort.grow (redrawn w d) os) fun e w'' => e = .returned (.string (mk t)) ∧ ∃ p : Regrown, w'' = Go.Sort.grow (redrawn w p.d) p.os := fun d os => Calls.regrown_of (TR _)
            clear h2 h4 IN F
            go_enter Tryz.func79, Tryz.ntmps79
            go_wp2_with (first
              | (go_at_call 103; (with_reducible refine (R _).mono ?_); rintro e w1 ⟨rfl, rfl⟩)
              | (go_at_call 69; (with_reducible refine (IX _).mono ?_); rintro e w1 ⟨rfl, rfl⟩))
            refine wp_region_quiet_below (by kernel_rfl) (by kernel_rfl) ?_
            repeat (quiet_step (exact cQ _ _))
            refine wpQuiet_nil ?_
            intro _ hw'
            obtain ⟨⟨dq, osq⟩, hw''⟩ := hw'
            subst hw''
            go_wp2
            go_ret3
            exact ⟨by rw [HF.out]; rfl, below_regrown _ dq osq⟩
        · have h5 : s[0] = 126 := by by_cases h : s[0] = 126; exact h; exact absurd ⟨h4, h⟩ h2
          have a1 : (s[0] != 96) = true := by simpa using h4
          have a0 : (s[0] == 96) = false := by simpa using h4
          have a2 : (s[0] != 126) = false := by simpa using h5
          rw [if_neg (by rintro (h | h); omega; exact h4 h.1)] at F
          have HF := Lib.hid F
          have cQ : ∀ d os, Calls Tryz.prog 95 #[.string (s.extract k s.size), .string ⟨#[32, 9]⟩] (Go.Sort.grow (redrawn w d) os) fun e w'' => e = .returned (.string (mk t)) ∧ ∃ p : Regrown, w'' = Go.Sort.grow (redrawn w p.d) p.os := fun d os => Calls.regrown_of (TR _)
          clear h2 h4 h5 IN F
          go_enter Tryz.func79, Tryz.ntmps79
          go_wp2_with (go_at_call 103; (with_reducible refine (R _).mono ?_); rintro e w1 ⟨rfl, rfl⟩)
          refine wp_region_quiet_below (by kernel_rfl) (by kernel_rfl) ?_
          repeat (quiet_step (exact cQ _ _))
          refine wpQuiet_nil ?_
          intro _ hw'
          obtain ⟨⟨dq, osq⟩, hw''⟩ := hw'
          subst hw''
          go_wp2
          go_ret3
          exact ⟨by rw [HF.out]; rfl, below_regrown _ dq osq⟩
end Go.Proofs.YtehmcahdjldhbaaGreatDoor
end
section
/- The walk of scan.Ordered. -/
open Go Go.RowKit
set_option linter.unusedVariables false
set_option maxRecDepth 100000
namespace Go.Proofs.YtehmcahdjldhbaaGreatDoor
open Wk
namespace Sc
def num (l : List UInt8) : Nat := l.foldl (fun a c => a * 10 + (c.toNat - 48)) 0
def orderedAt (d r : List UInt8) : Nat × UInt8 × Nat :=
  if d.length < 1 ∨ 9 < d.length then (0, 0, 0)
  else match r with
    | [] => (0, 0, 0)
    | b :: t => if (b = 46 ∨ b = 41) ∧ ends t = true then (num d, b, d.length + 1) else (0, 0, 0)
def ordered (l : List UInt8) : Nat × UInt8 × Nat := orderedAt (l.takeWhile digit) (l.dropWhile digit)
theorem digit_bd {b : UInt8} (h : digit b = true) : 48 ≤ b.toNat ∧ b.toNat ≤ 57 := by unfold digit at h; simpa using h
theorem parse_digits : ∀ (l : List UInt8) (acc n : Nat), (∀ b ∈ l, digit b = true) → l.length + n ≤ 9 → acc < 10 ^ n → Lib.parseUint10 acc l = .ok (l.foldl (fun a c => a * 10 + (c.toNat - 48)) acc) ∧ l.foldl (fun a c => a * 10 + (c.toNat - 48)) acc < 10 ^ (n + l.length)
  | [], acc, n, _, _, ha => ⟨rfl, by simpa using ha⟩
  | c :: r, acc, n, h, hl, ha => by
    have hd := digit_bd (h c (by simp))
    simp only [List.length_cons] at hl
    have h9 : 10 ^ n ≤ 10 ^ 8 := Nat.pow_le_pow_right (by omega) (by omega)
    have hp : 10 ^ (n + 1) = 10 * 10 ^ n := by rw [Nat.pow_succ]; omega
    have ih := parse_digits r (acc * 10 + (c.toNat - 48)) (n + 1) (fun b hb => h b (by simp [hb])) (by omega) (by omega)
    have h8 : (10 : Nat) ^ 8 = 100000000 := by decide
    simp only [Lib.parseUint10]
    rw [if_pos hd, if_neg (by omega), if_neg (by omega)]
    refine ⟨ih.1, ?_⟩
    have e : n + (c :: r).length = n + 1 + r.length := by simp; omega
    rw [e]; exact ih.2
theorem num_lt (l : List UInt8) (h : ∀ b ∈ l, digit b = true) (hl : l.length ≤ 9) : num l < 1000000000 := by
  have := (parse_digits l 0 0 h (by omega) (by decide)).2
  have h9 : 10 ^ (0 + l.length) ≤ 10 ^ 9 := Nat.pow_le_pow_right (by omega) (by omega)
  have h8 : (10 : Nat) ^ 9 = 1000000000 := by decide
  unfold num; omega
theorem atoi_digits (l : List UInt8) (h : ∀ b ∈ l, digit b = true) (h1 : 1 ≤ l.length) (hl : l.length ≤ 9) : Lib.atoiAll l = .ok (num l : Int) := by
  cases l with
  | nil => simp at h1
  | cons c r =>
    have hd := digit_bd (h c (by simp))
    have hp := (parse_digits (c :: r) 0 0 h (by omega) (by decide)).1
    have hn := num_lt (c :: r) h hl
    unfold Lib.atoiAll
    simp only
    rw [if_neg (by omega)]
    unfold Lib.parseMag
    rw [if_neg (by simp), hp]
    simp only
    have e : List.foldl (fun a c => a * 10 + (c.toNat - 48)) 0 (c :: r) = num (c :: r) := rfl
    rw [e, if_neg (by omega), if_neg (by omega), if_neg (by omega)]
theorem all_takeWhile {p : UInt8 → Bool} : ∀ l : List UInt8, ∀ b ∈ l.takeWhile p, p b = true
  | [], b, h => by simp at h
  | a :: t, b, h => by
    rw [List.takeWhile_cons] at h
    split at h
    · rename_i hp
      rcases List.mem_cons.1 h with rfl | h
      · exact hp
      · exact all_takeWhile t b h
    · simp at h
theorem take_takeWhile {p : UInt8 → Bool} (l : List UInt8) : l.take (l.takeWhile p).length = l.takeWhile p := by
  have h := List.takeWhile_append_dropWhile (p := p) (l := l)
  have e := congrArg (List.take (l.takeWhile p).length) h
  rw [List.take_left] at e
  exact e.symm
theorem len_takeDrop {p : UInt8 → Bool} (l : List UInt8) : (l.takeWhile p).length + (l.dropWhile p).length = l.length := by
  rw [← List.length_append, List.takeWhile_append_dropWhile]
end Sc
theorem trimL_digits (s : ByteArray) (w : World) :
    Calls Tryz.prog 88 #[.string s, .string ⟨#[48, 49, 50, 51, 52, 53, 54, 55, 56, 57]⟩] w fun e w' => e = .returned (.string (mk (s.data.toList.dropWhile Sc.digit))) ∧ Below w.heap.size w w' := by
  have h := Tryz.strings_TrimLeft_set s ⟨#[48, 49, 50, 51, 52, 53, 54, 55, 56, 57]⟩ w (by decide) (ascii_of_all (by decide))
  have e : Lib.trimLeftS s.data.toList [48, 49, 50, 51, 52, 53, 54, 55, 56, 57] = s.data.toList.dropWhile Sc.digit := by
    unfold Lib.trimLeftS
    congr 1
    funext b
    have key : ∀ n : Fin 256, ([48, 49, 50, 51, 52, 53, 54, 55, 56, 57] : List UInt8).contains n.val.toUInt8 = Sc.digit n.val.toUInt8 := by decide +kernel
    have := key ⟨b.toNat, b.toNat_lt⟩
    simpa using this
  rw [← e]
  exact h
theorem atoi_below {s : ByteArray} {v : Int} {w : World} (h : Calls Tryz.prog 151 #[.string s] w fun e w' => e = .returned (.tuple #[.int .i64 v, .nilIface]) ∧ (w' = w ∨ ∃ t, w' = Lib.bytesWorld w 5 t)) :
    Calls Tryz.prog 151 #[.string s] w fun e w' => e = .returned (.tuple #[.int .i64 v, .nilIface]) ∧ Below w.heap.size w w' :=
  h.mono fun e w' ⟨he, hw⟩ => ⟨he, by
    rcases hw with rfl | ⟨t, rfl⟩
    · exact Below.refl _ _
    · exact Lib.bytesWorld_below _ _ _⟩
set_option maxHeartbeats 1000000 in
theorem ordered_any (s : ByteArray) (w : World) (hs : Small s) :
    Calls Tryz.prog 123 #[.string s] w fun e w' => e = .returned (.tuple #[.int .i64 (Sc.ordered s.data.toList).1, .int .u8 (Sc.ordered s.data.toList).2.1.toNat, .int .i64 (Sc.ordered s.data.toList).2.2]) ∧ Below w.heap.size w w' := by
  have TL := fun w => trimL_digits s w
  have hsum := Sc.len_takeDrop (p := Sc.digit) s.data.toList
  have hall := Sc.all_takeWhile (p := Sc.digit) s.data.toList
  have htk := Sc.take_takeWhile (p := Sc.digit) s.data.toList
  rw [Sc.len_size] at hsum
  unfold Sc.ordered
  generalize s.data.toList.takeWhile Sc.digit = d at *
  generalize s.data.toList.dropWhile Sc.digit = r at *
  have hR : (mk r).data.toList = r := rfl
  have hRz : (mk r).size = r.length := mk_size r
  have hex : (s.extract 0 d.length).data.toList = d := by rw [Sc.take_data]; exact htk
  have hexz : (s.extract 0 d.length).size = d.length := by rw [← Sc.len_size, hex]
  have AT := fun (h1 : 1 ≤ d.length) (h9 : d.length ≤ 9) (w : World) => Tryz.strconv_Atoi_ok (s.extract 0 d.length) (by omega) (Sc.num d) (by rw [hex]; exact Sc.atoi_digits d hall h1 h9) w
  have hnum := fun (h9 : d.length ≤ 9) => Sc.num_lt d hall h9
  clear htk hex hexz hall
  have F1 : d.length < 1 ∨ 9 < d.length → Sc.orderedAt d r = (0, 0, 0) := fun h => if_pos h
  have F2 : ¬ (d.length < 1 ∨ 9 < d.length) → r = [] → Sc.orderedAt d r = (0, 0, 0) := fun h hr => by subst hr; exact if_neg h
  have F3 : ¬ (d.length < 1 ∨ 9 < d.length) → ∀ b t, r = b :: t → Sc.orderedAt d r = if (b = 46 ∨ b = 41) ∧ Sc.ends t = true then (Sc.num d, b, d.length + 1) else (0, 0, 0) := fun h b t hr => by subst hr; exact if_neg h
  generalize mk r = R at *
  have hk : (s.size : Int) - (R.size : Int) = (d.length : Int) := by omega
  have hle : R.size ≤ s.size := by omega
  have hKle : d.length ≤ s.size := by omega
  clear hRz hsum
  generalize Sc.orderedAt d r = X at *
  generalize Sc.num d = N at *
  generalize d.length = K at *
  unfold Small at hs
  by_cases h1 : K < 1
  · have F := F1 (.inl h1)
    subst F
    clear F1 F2 F3 AT hnum hR
    go_enter Tryz.func123, Tryz.ntmps123
    go_wp2_with (go_at_call 88; (with_reducible refine (TL _).mono ?_); rintro e w1 ⟨rfl, b1⟩)
    go_ret3
    exact ⟨rfl, b1⟩
  · by_cases h9 : 9 < K
    · have F := F1 (.inr h9)
      subst F
      clear F1 F2 F3 AT hnum hR
      go_enter Tryz.func123, Tryz.ntmps123
      go_wp2_with (go_at_call 88; (with_reducible refine (TL _).mono ?_); rintro e w1 ⟨rfl, b1⟩)
      go_ret3
      exact ⟨rfl, b1⟩
    · have hn : ¬ (K < 1 ∨ 9 < K) := by omega
      have k1 : 1 ≤ K := by omega
      have k9 : K ≤ 9 := by omega
      have AT := fun w => atoi_below (AT k1 k9 w)
      have hnum := hnum k9
      have F2 := F2 hn
      have F3 := F3 hn
      clear F1 hn h1 h9
      by_cases hr : r = []
      · have F := F2 hr
        subst F
        have h1 : (R.toList == ([] : List UInt8)) = true := by rw [toList_data, hR, hr]; rfl
        clear F2 F3 AT hnum hR hr
        go_enter Tryz.func123, Tryz.ntmps123
        go_wp2_with (go_at_call 88; (with_reducible refine (TL _).mono ?_); rintro e w1 ⟨rfl, b1⟩)
        go_ret3
        exact ⟨rfl, b1⟩
      · have hz : 0 < R.size := Sc.size_pos (by rw [hR]; exact hr)
        have h1 : (R.toList == ([] : List UInt8)) = false := by rw [toList_data, hR, beq_eq_false_iff_ne]; exact hr
        have hh := Sc.head_of hz
        rw [hR] at hh
        have F := F3 _ _ hh
        have hd := Sc.drop_data R 1
        rw [hR] at hd
        have E := fun w => ends_any (R.extract 1 R.size) w
        rw [hd] at E
        have n46 : ∀ b : UInt8, ((b.toNat : Int) != 46) = (b != 46) := fun b => bne_u8 b 46 (by decide)
        have n41 : ∀ b : UInt8, ((b.toNat : Int) != 41) = (b != 41) := fun b => bne_u8 b 41 (by decide)
        generalize Sc.ends (r.drop 1) = en at *
        clear F2 F3 hr hh hd hR
        by_cases h46 : R[0] = 46
        · have a1 : (R[0] != 46) = false := by simpa using h46
          cases en with
          | false =>
            rw [if_neg (by simp)] at F
            subst F
            clear h46
            go_enter Tryz.func123, Tryz.ntmps123
            go_wp2_with (first
              | (go_at_call 88; (with_reducible refine (TL _).mono ?_); rintro e w1 ⟨rfl, b1⟩)
              | (go_at_call 110; (with_reducible refine (E _).mono ?_); rintro e w2 ⟨rfl, rfl⟩))
            go_ret3
            exact ⟨rfl, b1⟩
          | true =>
            rw [if_pos ⟨.inl h46, rfl⟩] at F
            have HF := Lib.hid F
            clear h46 F
            go_enter Tryz.func123, Tryz.ntmps123
            go_wp2_with (first
              | (go_at_call 88; (with_reducible refine (TL _).mono ?_); rintro e w1 ⟨rfl, b1⟩)
              | (go_at_call 110; (with_reducible refine (E _).mono ?_); rintro e w2 ⟨rfl, rfl⟩)
              | (go_at_call 151; (with_reducible refine (AT _).mono ?_); rintro e w3 ⟨rfl, b3⟩))
            go_quiet (fail)
            go_wp2
            go_ret3
            exact ⟨by rw [HF.out]; rfl, (b1.trans (b3.mono b1.size)).trans ((drewN_below _ _).mono (Nat.le_trans b1.size b3.size))⟩
        · have a1 : (R[0] != 46) = true := by simpa using h46
          by_cases h41 : R[0] = 41
          · have a2 : (R[0] != 41) = false := by simpa using h41
            cases en with
            | false =>
              rw [if_neg (by simp)] at F
              subst F
              clear h46 h41
              go_enter Tryz.func123, Tryz.ntmps123
              go_wp2_with (first
                | (go_at_call 88; (with_reducible refine (TL _).mono ?_); rintro e w1 ⟨rfl, b1⟩)
                | (go_at_call 110; (with_reducible refine (E _).mono ?_); rintro e w2 ⟨rfl, rfl⟩))
              go_ret3
              exact ⟨rfl, b1⟩
            | true =>
              rw [if_pos ⟨.inr h41, rfl⟩] at F
              have HF := Lib.hid F
              clear h46 h41 F
              go_enter Tryz.func123, Tryz.ntmps123
              go_wp2_with (first
                | (go_at_call 88; (with_reducible refine (TL _).mono ?_); rintro e w1 ⟨rfl, b1⟩)
                | (go_at_call 110; (with_reducible refine (E _).mono ?_); rintro e w2 ⟨rfl, rfl⟩)
                | (go_at_call 151; (with_reducible refine (AT _).mono ?_); rintro e w3 ⟨rfl, b3⟩))
              go_quiet (fail)
              go_wp2
              go_ret3
              exact ⟨by rw [HF.out]; rfl, (b1.trans (b3.mono b1.size)).trans ((drewN_below _ _).mono (Nat.le_trans b1.size b3.size))⟩
          · have a2 : (R[0] != 41) = true := by simpa using h41
            rw [if_neg (by rintro ⟨h | h, _⟩; exact h46 h; exact h41 h)] at F
            subst F
            clear h46 h41
            go_enter Tryz.func123, Tryz.ntmps123
            go_wp2_with (go_at_call 88; (with_reducible refine (TL _).mono ?_); rintro e w1 ⟨rfl, b1⟩)
            go_ret3
            exact ⟨rfl, b1⟩
end Go.Proofs.YtehmcahdjldhbaaGreatDoor
end
