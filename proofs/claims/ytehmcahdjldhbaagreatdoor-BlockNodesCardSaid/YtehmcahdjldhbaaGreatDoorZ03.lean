/- Parts of this session's proof, one behind the other: Tag2 Tag3 Tag4 Tag5 Tag6 Tag7 Tag8. -/
import Derived.Test.YtehmcahdjldhbaaGreatDoorZ02
import Derived.Lib.SlBytesConst
section
/- Walks: the name with which a text begins; a text without the characters of an ASCII set at its begin. -/
open Go Go.RowKit
set_option linter.unusedVariables false
set_option maxRecDepth 100000
namespace Go.Proofs.YtehmcahdjldhbaaGreatDoor
open Wk

theorem named_any (s : ByteArray) (w : World) (hs : s.size ≤ 4000000000) :
    Calls Tryz.prog 114 #[.string s] w fun e w' => ∃ a b : ByteArray, e = .returned (.tuple #[.string a, .string b]) ∧ a.data.toList = (Sc.named s.data.toList).1 ∧ b.data.toList = (Sc.named s.data.toList).2 ∧ Below w.heap.size w w' := by
  by_cases h0 : s.data.toList = []
  · have h1 : s.toList = [] := by rw [toList_data, h0]
    go_enter Tryz.func114, Tryz.ntmps114
    go_wp2
    go_ret2
    exact ⟨_, _, rfl, by rw [h0]; rfl, by rw [h0]; rfl, Below.refl _ _⟩
  · have hsz := Sc.size_pos h0
    have h1 : (s.toList == ([] : List UInt8)) = false := by rw [toList_data, beq_eq_false_iff_ne]; exact h0
    have E0 := Lib.hid (Sc.head_of hsz)
    have U0 : Sc.Upto Sc.nameByte s 1 1 := Sc.Upto.start hsz
    have e45 : ∀ b : UInt8, ((b.toNat : Int) == 45) = (b == 45) := fun b => beq_u8 b 45 (by decide)
    clear h0
    cases hl : Sc.letter s[0] with
    | false =>
      go_enter Tryz.func114, Tryz.ntmps114
      go_wp2_with (go_at_call 116; refine (letter_b _ _).mono ?_; rintro e w' ⟨rfl, rfl⟩)
      go_ret2
      exact ⟨_, _, rfl, by rw [E0.out, Sc.named, hl]; rfl, by rw [E0.out, Sc.named, hl]; rfl, Below.refl _ _⟩
    | true =>
      have fin : ∀ k, Sc.Upto Sc.nameByte s 1 k → (∀ h : k < s.size, Sc.nameByte s[k] = false) → (s.extract 0 k).data.toList = (Sc.named s.data.toList).1 ∧ (s.extract k s.size).data.toList = (Sc.named s.data.toList).2 := by
        intro k U h
        have := U.stop h
        have hk := U.ge
        rw [Sc.take_data, Sc.drop_data, E0.out, Sc.named, if_pos hl]
        simp only
        rw [this.1, this.2]
        obtain ⟨k, rfl⟩ : ∃ j, k = j + 1 := ⟨k - 1, by omega⟩
        simp
      have FIN := Lib.hid fin
      clear fin
      go_enter Tryz.func114, Tryz.ntmps114
      go_wp2_with (go_at_call 116; refine (letter_b _ _).mono ?_; rintro e w' ⟨rfl, rfl⟩)
      go_wp2
      go_loop [4] (fun i => ∃ k : Nat, i = .int .i64 k ∧ Sc.Upto Sc.nameByte s 1 k) (fun i => s.size - (intOf i).toNat)
      case atStart => exact ⟨1, rfl, U0⟩
      case round =>
        obtain ⟨k, rfl, U⟩ := hrel
        have hk := U.le
        go_wp2_with (first
          | (go_at_call 116; refine (letter_b _ _).mono ?_; rintro e w' ⟨rfl, rfl⟩)
          | (go_at_call 143; refine (digit_b _ _).mono ?_; rintro e w' ⟨rfl, rfl⟩))
        any_goals (
          go_round
          case rel => exact ⟨k + 1, by go_num, U.step (by assumption) (by simp [Sc.nameByte, *])⟩
          case measure => simp [intOf]; omega)
        all_goals (
          go_quiet (fail)
          go_wp2
          go_ret2
          have F := FIN.out k U (fun h => by first | omega | simp [Sc.nameByte, *])
          exact ⟨_, _, rfl, F.1, F.2, drewN_below _ _⟩)

theorem beq_nat (a b : Nat) : ((a : Int) == (b : Int)) = (a == b) := by rw [Bool.eq_iff_iff, beq_iff_eq, beq_iff_eq]; omega
/-- Is a character among the first bytes of a set? -/
def inSet (c : Nat) (l : List UInt8) : Bool := l.any fun d => (c == d.toNat)
theorem inSet_snoc (c : Nat) (s : ByteArray) (j : Nat) (h : j < s.size) : inSet c (s.data.toList.take (j + 1)) = (inSet c (s.data.toList.take j) || (c == s[j].toNat)) := by
  unfold inSet
  rw [List.take_succ_eq_append_getElem (by simpa using h), List.any_append]
  simp; rfl
theorem inSet_ascii (b : UInt8) (l : List UInt8) : inSet b.toNat l = l.contains b := by
  induction l with
  | nil => rfl
  | cons a t ih =>
    have e : (b.toNat == a.toNat) = (b == a) := by rw [Bool.eq_iff_iff, beq_iff_eq, beq_iff_eq, UInt8.toNat_inj]
    unfold inSet at *
    rw [List.any_cons, ih, e, List.contains_cons]
theorem inSet_high (c : Nat) (l : List UInt8) (h : ∀ b ∈ l, b.toNat < 128) (hc : 128 ≤ c) : inSet c l = false := by
  unfold inSet
  rw [List.any_eq_false]
  intro b hb
  have := h b hb
  simp; omega
/-- The rune at a place of s: is it in an ASCII set? -/
theorem inSet_at (s : ByteArray) (k : Nat) (h : k < s.size) (l : List UInt8) (hl : ∀ b ∈ l, b.toNat < 128) : inSet (Utf8.decode s k).1 l = l.contains s[k] ∧ (l.contains s[k] = true → (Utf8.decode s k).2 = 1) := by
  by_cases ha : s[k].toNat < 128
  · rw [decode_ascii s k h ha]; exact ⟨inSet_ascii _ _, fun _ => rfl⟩
  · have hd := decode_high s k h (by omega)
    have hn : l.contains s[k] = false := by
      rw [Bool.eq_false_iff]; intro hc
      have := hl _ (List.contains_iff_mem.1 hc); omega
    rw [inSet_high _ _ hl hd.1, hn]; exact ⟨rfl, by simp⟩

set_option maxHeartbeats 1000000 in
theorem cutLeft_any (s set : ByteArray) (w : World) (hascii : ∀ b ∈ set.data.toList, b.toNat < 128) :
    Calls Tryz.prog 121 #[.string s, .string set] w fun e w' => ∃ r : ByteArray, e = .returned (.string r) ∧ r.data.toList = s.data.toList.dropWhile (set.data.toList.contains ·) ∧ Below w.heap.size w w' := by
  have U0 : Sc.Upto (set.data.toList.contains ·) s 0 0 := Sc.Upto.start (Nat.zero_le _)
  have H := Lib.hid hascii
  clear hascii
  go_enter Tryz.func121, Tryz.ntmps121
  go_wp2
  go_loopw [5, 6, 7, 9] (fun _ _ _ _ wr => ∃ k : Nat, wr.heap[w.heap.size]? = some (.stringIter s k) ∧ Below w.heap.size w wr ∧ Sc.Upto (set.data.toList.contains ·) s 0 k) (fun _ _ _ _ wr => s.size - wr.iterPos w.heap.size)
  case atStart => exact ⟨0, World.iter_heap w s 0, (Below.refl _ _).alloc (Nat.le_refl _) _, U0⟩
  case round =>
    obtain ⟨k, hit, hb, U⟩ := hrel
    have hm : wr.iterPos w.heap.size = k := by simp [World.iterPos, hit]
    have HM := Lib.hid hm
    clear hm
    have hlt : w.heap.size < wr.heap.size := (Array.getElem?_eq_some_iff.1 hit).1
    by_cases hp : k < s.size
    · have hnx : ∀ ty, (Instr.next (.pointer (some ⟨w.heap.size, 0, none⟩)) true ty).run Tryz.prog wr = _ := fun ty => Lib.run_next_any_at wr w.heap.size s k ty hit hp
      have HIN := Lib.hid (inSet_at s k hp _ H.out)
      have hit2 := Lib.iterAt_heap wr w.heap.size s k (k + (Utf8.decode s k).2) hit
      have hb2 := Lib.below_iterAt hb (Nat.le_refl _) s (k + (Utf8.decode s k).2)
      have hz2 := Lib.iterAt_size wr w.heap.size s (k + (Utf8.decode s k).2)
      generalize hW2 : wr.iterAt w.heap.size s (k + (Utf8.decode s k).2) = w2 at *
      rw [← hz2] at hlt
      clear hW2 hz2
      generalize (Utf8.decode s k).2 = wd at *
      generalize hc : (Utf8.decode s k).1 = c at *
      clear hc
      go_wp2
      go_loopw [7, 9] (fun i _ wi => ∃ j : Nat, i = .bool (inSet c (set.data.toList.take j)) ∧ j ≤ set.size ∧ wi.heap[w2.heap.size]? = some (.stringIter set j) ∧ Below w2.heap.size w2 wi) (fun _ _ wi => set.size - wi.iterPos w2.heap.size)
      case atStart => exact ⟨0, rfl, Nat.zero_le _, World.iter_heap w2 set 0, (Below.refl _ _).alloc (Nat.le_refl _) _⟩
      case round =>
        obtain ⟨j, rfl, hj, hit3, hb3⟩ := hrel
        have hmj : wr.iterPos w2.heap.size = j := by simp [World.iterPos, hit3]
        have HMJ := Lib.hid hmj
        clear hmj
        by_cases hq : j < set.size
        · have hnx2 : ∀ ty, (Instr.next (.pointer (some ⟨w2.heap.size, 0, none⟩)) true ty).run Tryz.prog wr = _ := fun ty => Lib.run_next_ascii_at wr w2.heap.size set j ty hit3 hq (H.out _ (List.getElem_mem (by simpa using hq : j < set.data.toList.length)))
          have hit4 := Lib.iterAt_heap wr w2.heap.size set j (j + 1) hit3
          have hb4 := Lib.below_iterAt hb3 (Nat.le_refl _) set (j + 1)
          have HS := Lib.hid (inSet_snoc c set j hq)
          generalize hW4 : wr.iterAt w2.heap.size set (j + 1) = w4 at *
          clear hW4
          have hmj4 : w4.iterPos w2.heap.size = j + 1 := by simp [World.iterPos, hit4]
          have HMJ4 := Lib.hid hmj4
          clear hmj4
          cases hI : inSet c (set.data.toList.take j) with
          | true =>
            go_wp2
            go_roundw
            case rel => exact ⟨j + 1, by rw [HS.out, hI]; rfl, by omega, hit4, hb4⟩
            case measure => rw [HMJ4.out, HMJ.out]; omega
          | false =>
            go_wp2
            go_roundw
            case rel => exact ⟨j + 1, by rw [HS.out, hI, ← beq_nat]; simp, by omega, hit4, hb4⟩
            case measure => rw [HMJ4.out, HMJ.out]; omega
        · have hnx2 : ∀ ty, (Instr.next (.pointer (some ⟨w2.heap.size, 0, none⟩)) true ty).run Tryz.prog wr = _ := fun ty => Lib.run_next_end_at wr w2.heap.size set j ty hit3 hq
          have hall : set.data.toList.take j = set.data.toList := List.take_of_length_le (by simp; omega)
          rw [hall, HIN.out.1]
          clear hall
          cases hI : set.data.toList.contains s[k] with
          | true =>
            have hw := HIN.out.2 hI
            subst hw
            go_wp2
            go_roundw
            case rel => exact ⟨k + 1, (hb3.block _ (by omega)).trans hit2, hb2.trans (hb3.mono (by omega)), U.step hp hI⟩
            case measure =>
              have : wr.iterPos w.heap.size = k + 1 := by simp [World.iterPos, (hb3.block _ (by omega)).trans hit2]
              rw [HM.out, this]; omega
          | false =>
            have F := Lib.hid (U.stop (fun _ => hI)).2
            go_wp2
            go_ret
            exact ⟨_, rfl, by rw [Sc.drop_data]; exact F.out.symm, hb2.trans (hb3.mono (by omega))⟩
    · have hnx : ∀ ty, (Instr.next (.pointer (some ⟨w.heap.size, 0, none⟩)) true ty).run Tryz.prog wr = _ := fun ty => Lib.run_next_end_at wr w.heap.size s k ty hit hp
      have F := Lib.hid (U.stop (fun h => absurd h hp)).2
      go_wp2
      go_ret
      refine ⟨_, rfl, ?_, hb⟩
      have := F.out
      simp only [List.drop_zero] at this
      rw [this, List.drop_eq_nil_of_le (by simp; omega)]
end Go.Proofs.YtehmcahdjldhbaaGreatDoor
end
section
/- Walks of the scanner's methods: a sign, white. -/
open Go Go.RowKit
set_option linter.unusedVariables false
set_option maxRecDepth 100000
namespace Go.Proofs.YtehmcahdjldhbaaGreatDoor
open Wk
/-- What a method of a scanner leaves: its answer, and what is left of its text. -/
def Left (g : Nat) (w : World) (F : Bool × List UInt8) (e : Ending) (w' : World) : Prop :=
  ∃ r : ByteArray, e = .returned (.bool F.1) ∧ r.data.toList = F.2 ∧ At 152 g r w' ∧ But g w w'

theorem sign_any (g : Nat) (s : ByteArray) (c : UInt8) (w : World) (h : At 152 g s w) :
    Calls Tryz.prog 144 #[.pointer (some ⟨g, 0, none⟩), .int .u8 c.toNat] w (Left g w (Sc.sign c s.data.toList)) := by
  have hc := h.cell
  have hf := h.free
  by_cases h0 : s.data.toList = []
  · have h1 : (s.toList == ([] : List UInt8)) = true := by rw [toList_data, h0]; rfl
    have F : Sc.sign c s.data.toList = (false, s.data.toList) := by rw [h0]; rfl
    rw [F]
    clear h0 F
    go_enter Tryz.func144, Tryz.ntmps144
    go_wp2
    go_ret
    exact ⟨s, rfl, rfl, h, But.refl⟩
  · have hsz := Sc.size_pos h0
    have h1 : (s.toList == ([] : List UInt8)) = false := by rw [toList_data, beq_eq_false_iff_ne]; exact h0
    have eb : ∀ b : UInt8, ((b.toNat : Int) == (c.toNat : Int)) = (b == c) := fun b => beq_uu b c
    have en : ∀ b : UInt8, ((b.toNat : Int) != (c.toNat : Int)) = (b != c) := fun b => by simp only [bne, beq_uu b c]
    by_cases hq : s[0] = c
    · have hq1 : (s[0] == c) = true := by simpa using hq
      have hq2 : (s[0] != c) = false := by simpa using hq
      have F : Sc.sign c s.data.toList = (true, s.data.toList.drop 1) := by have E := congrArg (Sc.sign c) (Sc.head_of hsz); rw [E, Sc.sign, if_pos hq]
      rw [F]
      clear h0 hq F
      go_enter Tryz.func144, Tryz.ntmps144
      go_wp2
      go_ret
      exact ⟨_, rfl, by rw [Sc.drop_data], h.set _, But.refl.set _ _⟩
    · have hq1 : (s[0] == c) = false := by simpa using hq
      have hq2 : (s[0] != c) = true := by simpa using hq
      have F : Sc.sign c s.data.toList = (false, s.data.toList) := by have E := congrArg (Sc.sign c) (Sc.head_of hsz); rw [E, Sc.sign, if_neg hq, ← Sc.head_of hsz]
      rw [F]
      clear h0 hq F
      go_enter Tryz.func144, Tryz.ntmps144
      go_wp2
      go_ret
      exact ⟨s, rfl, rfl, h, But.refl⟩

/-- The walk's bound on a text. -/
abbrev Small (s : ByteArray) : Prop := s.size ≤ 4000000000
theorem dropWhile_size {s r : ByteArray} {p : UInt8 → Bool} (h : r.data.toList = s.data.toList.dropWhile p) : r.size ≤ s.size := by
  rw [← Sc.len_size, ← Sc.len_size, h]; exact Sc.len_dropWhile _

theorem white_any (g : Nat) (s : ByteArray) (w : World) (h : At 152 g s w) :
    Calls Tryz.prog 147 #[.pointer (some ⟨g, 0, none⟩)] w (Left g w (decide ((s.data.toList.dropWhile Sc.white).length < s.data.toList.length), s.data.toList.dropWhile Sc.white)) := by
  have hc := h.cell
  have hf := h.free
  have hw : ∀ l : List UInt8, l.dropWhile (([32, 9, 10] : List UInt8).contains ·) = l.dropWhile Sc.white := fun l => by
    congr 1; funext b; simp only [List.contains_cons, List.contains_nil, Bool.or_false, Sc.white, Bool.or_assoc]
  have HW := Lib.hid hw
  clear hw
  go_enter Tryz.func147, Tryz.ntmps147
  go_wp2_with (go_at_call 121; refine (cutLeft_any s ⟨#[32, 9, 10]⟩ _ (by decide)).mono ?_; rintro e w1 ⟨r, rfl, hr, hb⟩; have h1 := h.below hb; have hc1 := h1.cell; have hf1 := h1.free; have HR := Lib.hid (hr.trans (HW.out _)); clear hr)
  go_ret
  refine ⟨r, ?_, HR.out, h1.set _, (But.of_below hb).set _ _⟩
  rw [← HR.out]
  simp
end Go.Proofs.YtehmcahdjldhbaaGreatDoor
end
section
/- Walks of the scanner's methods: a text in quotes, bytes as long as something is so. -/
open Go Go.RowKit
set_option linter.unusedVariables false
set_option maxRecDepth 100000
namespace Go.Proofs.YtehmcahdjldhbaaGreatDoor
open Wk
namespace Sc
theorem index_behind (c : UInt8) : ∀ l : List UInt8, (Lib.indexByte l c = -1 ∧ behind c l = none) ∨ ∃ i : Nat, Lib.indexByte l c = i ∧ i < l.length ∧ behind c l = some (l.drop (i + 1))
  | [] => .inl ⟨rfl, rfl⟩
  | b :: t => by
    by_cases h : b = c
    · exact .inr ⟨0, by simp [Lib.indexByte, h], by simp, by simp [behind, h]⟩
    · rcases index_behind c t with ⟨h1, h2⟩ | ⟨i, h1, h2, h3⟩
      · exact .inl ⟨by simp [Lib.indexByte, h, h1], by simp [behind, h, h2]⟩
      · refine .inr ⟨i + 1, ?_, by simp; omega, by simp [behind, h, h3]⟩
        simp only [Lib.indexByte, h1]
        simp [h]
end Sc
/-- What a method leaves that says whether something is there: where it is, what is left behind it. -/
def LeftO (g : Nat) (w : World) (F : Option (List UInt8)) (e : Ending) (w' : World) : Prop :=
  ∃ r : ByteArray, e = .returned (.bool F.isSome) ∧ (∀ t, F = some t → r.data.toList = t) ∧ r.size ≤ 4000000000 ∧ At 152 g r w' ∧ But g w w'

theorem quoted_any (g : Nat) (s : ByteArray) (c : UInt8) (w : World) (hs : Small s) (h : At 152 g s w) :
    Calls Tryz.prog 198 #[.pointer (some ⟨g, 0, none⟩), .int .u8 c.toNat] w (LeftO g w (Sc.behind c s.data.toList)) := by
  have hc := h.cell
  have hf := h.free
  have ec : ((c.toNat : Int)).toNat.toUInt8 = c := byte_back c
  unfold Small at hs
  rcases Sc.index_behind c s.data.toList with ⟨h1, h2⟩ | ⟨i, h1, h2, h3⟩
  · rw [h2]
    clear h2
    go_enter Tryz.func198, Tryz.ntmps198
    go_wp2_with (go_at_call 69; refine (Tryz.strings_IndexByte _ _ _).mono ?_; rintro e w1 ⟨rfl, rfl⟩; rw [ec, h1])
    go_ret
    exact ⟨s, rfl, (fun t ht => by cases ht), hs, h, But.refl⟩
  · rw [h3]
    rw [Sc.len_size] at h2
    have F := Lib.hid (Sc.drop_data s (i + 1))
    have ez : (s.extract (i + 1) s.size).size ≤ 4000000000 := by rw [← Sc.len_size, F.out]; simp; omega
    clear h3
    go_enter Tryz.func198, Tryz.ntmps198
    go_wp2_with (go_at_call 69; refine (Tryz.strings_IndexByte _ _ _).mono ?_; rintro e w1 ⟨rfl, rfl⟩; rw [ec, h1])
    go_ret
    exact ⟨_, rfl, (fun t ht => by cases ht; exact F.out), ez, h.set _, But.refl.set _ _⟩

theorem while_later (g : Nat) (s : ByteArray) (w : World) (hs : Small s) (h : At 152 g s w) :
    Calls Tryz.prog 171 #[.pointer (some ⟨g, 0, none⟩), .func (.func 172) #[] #[]] w (Left g w (decide (0 < (s.data.toList.takeWhile Sc.later).length), s.data.toList.dropWhile Sc.later)) := by
  have hc := h.cell
  have hf := h.free
  unfold Small at hs
  have U0 : Sc.Upto Sc.later s 0 0 := Sc.Upto.start (Nat.zero_le _)
  have fin : ∀ k, Sc.Upto Sc.later s 0 k → (∀ h : k < s.size, Sc.later s[k] = false) → decide (0 < (s.data.toList.takeWhile Sc.later).length) = decide (0 < k) ∧ (s.extract k s.size).data.toList = s.data.toList.dropWhile Sc.later := by
    intro k U h
    have F := U.stop h
    have hk := U.le
    simp only [List.drop_zero, Nat.sub_zero] at F
    rw [Sc.drop_data, F.2, F.1, List.length_take, Sc.len_size]
    exact ⟨by rw [decide_eq_decide]; omega, rfl⟩
  have FIN := Lib.hid fin
  clear fin
  go_enter Tryz.func171, Tryz.ntmps171
  go_wp2
  go_loop [5] (fun i => ∃ k : Nat, i = .int .i64 k ∧ Sc.Upto Sc.later s 0 k) (fun i => s.size - (intOf i).toNat)
  case atStart => exact ⟨0, rfl, U0⟩
  case round =>
    obtain ⟨k, rfl, U⟩ := hrel
    have hk := U.le
    by_cases hp : k < s.size
    · cases hl : Sc.later s[k] with
      | true =>
        go_wp2_with (go_at_call 172; refine (later_b _ _).mono ?_; rintro e w' ⟨rfl, rfl⟩)
        go_round
        case rel => exact ⟨k + 1, by go_num, U.step hp hl⟩
        case measure => simp [intOf]; omega
      | false =>
        have F := Lib.hid (FIN.out k U (fun _ => hl))
        go_wp2_with (go_at_call 172; refine (later_b _ _).mono ?_; rintro e w' ⟨rfl, rfl⟩)
        go_ret
        exact ⟨_, ret_bool F.out.1.symm, F.out.2, h.set _, But.refl.set _ _⟩
    · have F := Lib.hid (FIN.out k U (fun h => absurd h hp))
      go_wp2
      go_ret
      exact ⟨_, ret_bool F.out.1.symm, F.out.2, h.set _, But.refl.set _ _⟩

theorem while_bare (g : Nat) (s : ByteArray) (w : World) (hs : Small s) (h : At 152 g s w) :
    Calls Tryz.prog 171 #[.pointer (some ⟨g, 0, none⟩), .func (.func 199) #[] #[]] w (Left g w (decide (0 < (s.data.toList.takeWhile Sc.bare).length), s.data.toList.dropWhile Sc.bare)) := by
  have hc := h.cell
  have hf := h.free
  unfold Small at hs
  have U0 : Sc.Upto Sc.bare s 0 0 := Sc.Upto.start (Nat.zero_le _)
  have fin : ∀ k, Sc.Upto Sc.bare s 0 k → (∀ h : k < s.size, Sc.bare s[k] = false) → decide (0 < (s.data.toList.takeWhile Sc.bare).length) = decide (0 < k) ∧ (s.extract k s.size).data.toList = s.data.toList.dropWhile Sc.bare := by
    intro k U h
    have F := U.stop h
    have hk := U.le
    simp only [List.drop_zero, Nat.sub_zero] at F
    rw [Sc.drop_data, F.2, F.1, List.length_take, Sc.len_size]
    exact ⟨by rw [decide_eq_decide]; omega, rfl⟩
  have FIN := Lib.hid fin
  clear fin
  go_enter Tryz.func171, Tryz.ntmps171
  go_wp2
  go_loop [5] (fun i => ∃ k : Nat, i = .int .i64 k ∧ Sc.Upto Sc.bare s 0 k) (fun i => s.size - (intOf i).toNat)
  case atStart => exact ⟨0, rfl, U0⟩
  case round =>
    obtain ⟨k, rfl, U⟩ := hrel
    have hk := U.le
    by_cases hp : k < s.size
    · cases hl : Sc.bare s[k] with
      | true =>
        go_wp2_with (go_at_call 199; refine (bare_b _ _).mono ?_; rintro e w' ⟨rfl, rfl⟩)
        go_round
        case rel => exact ⟨k + 1, by go_num, U.step hp hl⟩
        case measure => simp [intOf]; omega
      | false =>
        have F := Lib.hid (FIN.out k U (fun _ => hl))
        go_wp2_with (go_at_call 199; refine (bare_b _ _).mono ?_; rintro e w' ⟨rfl, rfl⟩)
        go_ret
        exact ⟨_, ret_bool F.out.1.symm, F.out.2, h.set _, But.refl.set _ _⟩
    · have F := Lib.hid (FIN.out k U (fun h => absurd h hp))
      go_wp2
      go_ret
      exact ⟨_, ret_bool F.out.1.symm, F.out.2, h.set _, But.refl.set _ _⟩
end Go.Proofs.YtehmcahdjldhbaaGreatDoor
end
section
/- Walks of the scanner's methods: an attribute's value. -/
open Go Go.RowKit
set_option linter.unusedVariables false
set_option maxRecDepth 100000
namespace Go.Proofs.YtehmcahdjldhbaaGreatDoor
open Wk
theorem sign_lit (g : Nat) (s : ByteArray) (n : Nat) (hn : n < 256) (w : World) (h : At 152 g s w) :
    Calls Tryz.prog 144 #[.pointer (some ⟨g, 0, none⟩), .int .u8 (n : Int)] w (Left g w (Sc.sign n.toUInt8 s.data.toList)) := by
  have e : ((n.toUInt8).toNat : Int) = (n : Int) := by simp; omega
  have := sign_any g s n.toUInt8 w h
  rwa [e] at this
theorem same_text {r s : ByteArray} (h : r.data.toList = s.data.toList) : r = s := by
  cases r; cases s; congr; exact Array.toList_inj.1 h
theorem sign_false {c : UInt8} {l : List UInt8} (h : ∀ t, l ≠ c :: t) : Sc.sign c l = (false, l) := by
  cases l with
  | nil => rfl
  | cons b t => rw [Sc.sign, if_neg (fun e => h t (by rw [e]))]
def valueBare (l : List UInt8) : Option (List UInt8) := if 0 < (l.takeWhile Sc.bare).length then some (l.dropWhile Sc.bare) else none
theorem valueBare_some (l : List UInt8) : decide (0 < (l.takeWhile Sc.bare).length) = (valueBare l).isSome := by unfold valueBare; split <;> simp [*]
theorem valueBare_rest {l t : List UInt8} (h : valueBare l = some t) : l.dropWhile Sc.bare = t := by unfold valueBare at h; split at h <;> cases h; rfl
theorem value_none {l : List UInt8} (h1 : ∀ t, l ≠ 34 :: t) (h2 : ∀ t, l ≠ 39 :: t) : Sc.value l = valueBare l := by
  unfold valueBare
  cases l with
  | nil => rfl
  | cons b t =>
    rw [Sc.value, if_neg (fun e => h1 t (by rw [e])), if_neg (fun e => h2 t (by rw [e])), List.takeWhile_cons, List.dropWhile_cons]
    cases Sc.bare b <;> simp
set_option maxHeartbeats 1000000 in
theorem value_any (g : Nat) (s : ByteArray) (w : World) (hs : Small s) (h : At 152 g s w) :
    Calls Tryz.prog 173 #[.pointer (some ⟨g, 0, none⟩)] w (LeftO g w (Sc.value s.data.toList)) := by
  have kc := fun (w : World) (C : Array Value) (n c : Nat) => Lib.run_convert_bytes_const (P := Tryz.prog) w 118 5 C n c Tryz.underlying118 Tryz.underlying5
  have hA := h.alloc (.cells #[.int .u8 34, .int .u8 39] 5 (2, 3))
  have hB : But g w (w.alloc (.cells #[.int .u8 34, .int .u8 39] 5 (2, 3))) := But.refl.alloc _
  have hlt := h.lt
  have hq : (w.alloc (.cells #[.int .u8 34, .int .u8 39] 5 (2, 3))).heap[w.heap.size]? = some (.cells #[.int .u8 34, .int .u8 39] 5 (2, 3)) := by show (w.heap.push _)[w.heap.size]? = _; simp
  have hsz : (w.alloc (.cells #[.int .u8 34, .int .u8 39] 5 (2, 3))).heap.size = w.heap.size + 1 := by simp
  have q0 : ∀ (W : World), But g (w.alloc (.cells #[.int .u8 34, .int .u8 39] 5 (2, 3))) W → W.cell? ⟨w.heap.size, 1, none⟩ = some (.int .u8 39) := fun W b => (cell_blk ((b.block w.heap.size (by omega) (by omega)).trans hq) 1).trans rfl
  have Q0 := Lib.hid q0
  clear q0
  have Q1 : (w.alloc (.cells #[.int .u8 34, .int .u8 39] 5 (2, 3))).cell? ⟨w.heap.size, 0, none⟩ = some (.int .u8 34) := (cell_blk hq 0).trans rfl
  clear hq
  by_cases h34 : ∃ t, s.data.toList = 34 :: t
  · obtain ⟨t, ht⟩ := h34
    have E1 : Sc.sign (34 : Nat).toUInt8 s.data.toList = (true, t) := by rw [ht]; rfl
    have E2 : Sc.value s.data.toList = Sc.behind 34 t := by rw [ht]; rfl
    have hl : t.length ≤ s.size := by rw [← Sc.len_size, ht]; simp
    rw [E2]
    clear E2 ht
    have E1' := Lib.hid E1
    clear E1
    go_enter Tryz.func173, Tryz.ntmps173
    go_wp2
    refine wp_loop_rounds 3 ?_
    rw [rounds_succ]
    go_wp2_with (first
      | (go_at_call 144; refine (sign_lit g s 34 (by decide) _ hA).mono ?_; rw [E1'.out]; rintro e w1 ⟨r, rfl, hr, h1, b1⟩)
      | (go_at_call 198; refine (quoted_any g r 34 _ (by unfold Small at *; rw [← Sc.len_size, hr]; omega) h1).mono ?_; rw [hr]; rintro e w2 ⟨r2, rfl, hr2, hz2, h2, b2⟩))
    go_ret
    exact ⟨r2, rfl, hr2, hz2, h2, hB.trans (b1.trans b2)⟩
  · by_cases h39 : ∃ t, s.data.toList = 39 :: t
    · obtain ⟨t, ht⟩ := h39
      have E0 : Sc.sign (34 : Nat).toUInt8 s.data.toList = (false, s.data.toList) := by rw [ht]; rfl
      have E1 : Sc.sign (39 : Nat).toUInt8 s.data.toList = (true, t) := by rw [ht]; rfl
      have E2 : Sc.value s.data.toList = Sc.behind 39 t := by rw [ht]; rfl
      have hl : t.length ≤ s.size := by rw [← Sc.len_size, ht]; simp
      rw [E2]
      clear E2 ht h34
      have E0' := Lib.hid E0
      have E1' := Lib.hid E1
      clear E0 E1
      go_enter Tryz.func173, Tryz.ntmps173
      go_wp2
      refine wp_loop_rounds 3 ?_
      rw [rounds_succ]
      go_wp2_with (go_at_call 144; refine (sign_lit g s 34 (by decide) _ hA).mono ?_; rw [E0'.out]; rintro e w1 ⟨r, rfl, hr, h1, b1⟩; obtain rfl := same_text hr; have hc39 := Q0.out _ b1)
      rw [rounds_succ]
      go_wp2_with (first
        | (go_at_call 144; refine (sign_lit g _ 39 (by decide) _ h1).mono ?_; rw [E1'.out]; rintro e w2 ⟨r2, rfl, hr2, h2, b2⟩)
        | (go_at_call 198; refine (quoted_any g r2 39 _ (by unfold Small at *; rw [← Sc.len_size, hr2]; omega) h2).mono ?_; rw [hr2]; rintro e w3 ⟨r3, rfl, hr3, hz3, h3, b3⟩))
      go_ret
      exact ⟨r3, rfl, hr3, hz3, h3, hB.trans (b1.trans (b2.trans b3))⟩
    · have E0 := Lib.hid (sign_false (c := 34) (l := s.data.toList) (fun t ht => h34 ⟨t, ht⟩))
      have E1 := Lib.hid (sign_false (c := 39) (l := s.data.toList) (fun t ht => h39 ⟨t, ht⟩))
      rw [value_none (fun t ht => h34 ⟨t, ht⟩) (fun t ht => h39 ⟨t, ht⟩)]
      clear h34 h39
      go_enter Tryz.func173, Tryz.ntmps173
      go_wp2
      refine wp_loop_rounds 3 ?_
      rw [rounds_succ]
      go_wp2_with (go_at_call 144; refine (sign_lit g s 34 (by decide) _ hA).mono ?_; rw [show Sc.sign (34 : Nat).toUInt8 s.data.toList = _ from E0.out]; rintro e w1 ⟨r, rfl, hr, h1, b1⟩; obtain rfl := same_text hr; have hc39 := Q0.out _ b1)
      rw [rounds_succ]
      go_wp2_with (go_at_call 144; refine (sign_lit g _ 39 (by decide) _ h1).mono ?_; rw [show Sc.sign (39 : Nat).toUInt8 r.data.toList = _ from E1.out]; rintro e w2 ⟨r2, rfl, hr2, h2, b2⟩; obtain rfl := same_text hr2)
      rw [rounds_succ]
      go_wp2_with (go_at_call 171; refine (while_bare g _ _ hs h2).mono ?_; rintro e w3 ⟨r3, rfl, hr3, h3, b3⟩)
      go_ret
      exact ⟨r3, ret_bool (valueBare_some _), (fun t ht => hr3.trans (valueBare_rest ht)), Nat.le_trans (dropWhile_size hr3) hs, h3, hB.trans (b1.trans (b2.trans b3))⟩
end Go.Proofs.YtehmcahdjldhbaaGreatDoor
end
section
/- Walks of the scanner's methods: an attribute. -/
open Go Go.RowKit
set_option linter.unusedVariables false
set_option maxRecDepth 100000
namespace Go.Proofs.YtehmcahdjldhbaaGreatDoor
open Wk
namespace Sc
theorem dw_lt {p : UInt8 → Bool} {b : UInt8} {t : List UInt8} : ((b :: t).dropWhile p).length < (b :: t).length ↔ p b = true := by
  rw [List.dropWhile_cons]
  split
  · rename_i h; have := len_dropWhile (p := p) t; simp [h]; omega
  · rename_i h; simp [h]
theorem attr_cases (l : List UInt8) :
    ((l.dropWhile white).length = l.length ∧ attr l = none) ∨
    ((l.dropWhile white).length < l.length ∧ l.dropWhile white = [] ∧ attr l = none) ∨
    (∃ b t, (l.dropWhile white).length < l.length ∧ l.dropWhile white = b :: t ∧ first b = false ∧ attr l = none) ∨
    (∃ b t, (l.dropWhile white).length < l.length ∧ l.dropWhile white = b :: t ∧ first b = true ∧ (∀ v, (t.dropWhile later).dropWhile white ≠ 61 :: v) ∧ attr l = some (some (t.dropWhile later))) ∨
    (∃ b t v, (l.dropWhile white).length < l.length ∧ l.dropWhile white = b :: t ∧ first b = true ∧ (t.dropWhile later).dropWhile white = 61 :: v ∧ attr l = some (value (v.dropWhile white))) := by
  cases l with
  | nil => exact .inl ⟨rfl, rfl⟩
  | cons w l' =>
    by_cases hw : white w = true
    · have hlt := dw_lt (t := l').2 hw
      have hattr : attr (w :: l') = attrAt ((w :: l').dropWhile white) := by simp only [attr, hw, if_true]
      generalize (w :: l').dropWhile white = d at *
      cases d with
      | nil => exact .inr (.inl ⟨hlt, rfl, hattr⟩)
      | cons b t =>
        cases hf : first b with
        | false => exact .inr (.inr (.inl ⟨b, t, hlt, rfl, hf, by rw [hattr, attrAt, hf]; rfl⟩))
        | true =>
          have hat : attr (w :: l') = attrRest (t.dropWhile later) ((t.dropWhile later).dropWhile white) := by rw [hattr, attrAt, if_pos hf]
          cases hu : (t.dropWhile later).dropWhile white with
          | nil => rw [hu] at hat; exact .inr (.inr (.inr (.inl ⟨b, t, hlt, rfl, hf, by simp [hu], hat⟩)))
          | cons e u =>
            rw [hu] at hat
            by_cases he : e = 61
            · subst he
              exact .inr (.inr (.inr (.inr ⟨b, t, u, hlt, rfl, hf, hu, by rw [hat, attrRest, if_pos rfl]⟩)))
            · exact .inr (.inr (.inr (.inl ⟨b, t, hlt, rfl, hf, by rw [hu]; intro v hv; exact he (List.cons.inj hv).1, by rw [hat, attrRest, if_neg he]⟩)))
    · have hn : ¬ ((w :: l').dropWhile white).length < (w :: l').length := fun h => hw (dw_lt.1 h)
      have := len_dropWhile (p := white) (w :: l')
      exact .inl ⟨by omega, by simp [attr, hw]⟩
theorem first_later {b : UInt8} (h : first b = true) : later b = true := by unfold later; simp [h]
end Sc
/-- What an attribute's scan leaves. -/
def LeftA (g : Nat) (w : World) (l : List UInt8) (F : Option (Option (List UInt8))) (e : Ending) (w' : World) : Prop :=
  ∃ r : ByteArray, e = .returned (.tuple #[.bool F.isSome, .bool (F != some none)]) ∧ (∀ t, F = some (some t) → r.data.toList = t) ∧ (F = none → r.data.toList = l) ∧ Small r ∧ At 152 g r w' ∧ But g w w'
theorem attribute_any (g : Nat) (s : ByteArray) (w : World) (hs : Small s) (h : At 152 g s w) :
    Calls Tryz.prog 146 #[.pointer (some ⟨g, 0, none⟩)] w (LeftA g w s.data.toList (Sc.attr s.data.toList)) := by
  have hc := h.cell
  have hf := h.free
  have W := white_any g s w h
  rcases Sc.attr_cases s.data.toList with ⟨h1, h2⟩ | ⟨h1, h2, h3⟩ | ⟨b, t, h1, h2, h3, h4⟩ | ⟨b, t, h1, h2, h3, h4, h5⟩ | ⟨b, t, v, h1, h2, h3, h4, h5⟩
  · have E : decide ((s.data.toList.dropWhile Sc.white).length < s.data.toList.length) = false := by rw [decide_eq_false_iff_not]; omega
    rw [E] at W
    rw [h2]
    clear h1 h2 E
    go_enter Tryz.func146, Tryz.ntmps146
    go_wp2_with (go_at_call 147; refine W.mono ?_; rintro e w1 ⟨r1, rfl, hr1, a1, b1⟩; have hc1 := a1.cell; have hf1 := a1.free)
    go_ret2
    exact ⟨s, rfl, (fun t ht => by cases ht), fun _ => rfl, hs, a1.set s, b1.set _ _⟩
  · have E : decide ((s.data.toList.dropWhile Sc.white).length < s.data.toList.length) = true := decide_eq_true h1
    rw [E, h2] at W
    rw [h3]
    clear h1 h2 h3 E
    go_enter Tryz.func146, Tryz.ntmps146
    go_wp2_with (go_at_call 147; refine W.mono ?_; rintro e w1 ⟨r1, rfl, hr1, a1, b1⟩; have hc1 := a1.cell; have hf1 := a1.free; have he1 : (r1.toList == ([] : List UInt8)) = true := by rw [toList_data, hr1]; rfl)
    go_ret2
    exact ⟨s, rfl, (fun t ht => by cases ht), fun _ => rfl, hs, a1.set s, b1.set _ _⟩
  · have E : decide ((s.data.toList.dropWhile Sc.white).length < s.data.toList.length) = true := decide_eq_true h1
    rw [E, h2] at W
    rw [h4]
    clear h1 h2 h4 E
    go_enter Tryz.func146, Tryz.ntmps146
    go_wp2_with (first
      | (go_at_call 147; refine W.mono ?_; rintro e w1 ⟨r1, rfl, hr1, a1, b1⟩; have hc1 := a1.cell; have hf1 := a1.free; have he1 : (r1.toList == ([] : List UInt8)) = false := by { rw [toList_data, hr1]; rfl }; have hz1 : 0 < r1.size := Sc.size_pos (by rw [hr1]; simp); have hb1 : r1[0] = b := by { have := Sc.head_of hz1; rw [hr1] at this; exact (List.cons.inj this).1.symm })
      | (go_at_call 170; refine (first_b b _).mono ?_; rw [h3]; rintro e w2 ⟨rfl, rfl⟩))
    go_ret2
    exact ⟨s, rfl, (fun t ht => by cases ht), fun _ => rfl, hs, a1.set s, b1.set _ _⟩
  · have E : decide ((s.data.toList.dropWhile Sc.white).length < s.data.toList.length) = true := decide_eq_true h1
    have hlen := Sc.len_dropWhile (p := Sc.white) s.data.toList
    have hl0 := Sc.len_size s
    rw [h2] at hlen
    rw [E, h2] at W
    have hdl : (b :: t).dropWhile Sc.later = t.dropWhile Sc.later := by rw [List.dropWhile_cons, if_pos (Sc.first_later h3)]
    have hl1 := Sc.len_dropWhile (p := Sc.later) t
    have hl2 := Sc.len_dropWhile (p := Sc.white) (t.dropWhile Sc.later)
    rw [h5]
    clear h1 h2 h5 E
    unfold Small at hs
    have E4 := Lib.hid (sign_false (c := 61) h4)
    clear h4
    go_enter Tryz.func146, Tryz.ntmps146
    go_wp2_with (first
      | (go_at_call 147; refine W.mono ?_; rintro e w1 ⟨r1, rfl, hr1, a1, b1⟩; have hc1 := a1.cell; have hf1 := a1.free; have he1 : (r1.toList == ([] : List UInt8)) = false := by { rw [toList_data, hr1]; rfl }; have hz1 : 0 < r1.size := Sc.size_pos (by rw [hr1]; simp); have hb1 : r1[0] = b := by { have := Sc.head_of hz1; rw [hr1] at this; exact (List.cons.inj this).1.symm }; have HZ1 : Small r1 := by { unfold Small; rw [← Sc.len_size, hr1]; simp at hlen ⊢; omega })
      | (go_at_call 170; refine (first_b b _).mono ?_; rw [h3]; rintro e w2 ⟨rfl, rfl⟩)
      | (go_at_call 171; refine (while_later g r1 _ HZ1 a1).mono ?_; rw [hr1, hdl]; rintro e w2 ⟨r2, rfl, hr2, a2, b2⟩; have hc2 := a2.cell; have hf2 := a2.free))
    go_wp2_with (first
      | (go_at_call 147; refine (white_any g r2 _ a2).mono ?_; rw [hr2]; rintro e w3 ⟨r3, rfl, hr3, a3, b3⟩; have hc3 := a3.cell; have hf3 := a3.free)
      | (go_at_call 144; refine (sign_lit g r3 61 (by decide) _ a3).mono ?_; rw [show r3.data.toList = _ from hr3, show Sc.sign (61 : Nat).toUInt8 _ = _ from E4.out]; rintro e w4 ⟨r4, rfl, hr4, a4, b4⟩; have hc4 := a4.cell; have hf4 := a4.free))
    go_ret2
    exact ⟨r2, rfl, (fun t' ht => by cases ht; exact hr2), (fun h => by cases h), (by unfold Small; rw [← Sc.len_size, hr2]; simp at hlen; omega), a4.set r2, (b1.trans (b2.trans (b3.trans b4))).set _ _⟩
  · have E : decide ((s.data.toList.dropWhile Sc.white).length < s.data.toList.length) = true := decide_eq_true h1
    have hlen := Sc.len_dropWhile (p := Sc.white) s.data.toList
    have hl0 := Sc.len_size s
    rw [h2] at hlen
    rw [E, h2] at W
    have hdl : (b :: t).dropWhile Sc.later = t.dropWhile Sc.later := by rw [List.dropWhile_cons, if_pos (Sc.first_later h3)]
    have hl1 := Sc.len_dropWhile (p := Sc.later) t
    have hl2 := Sc.len_dropWhile (p := Sc.white) (t.dropWhile Sc.later)
    rw [h5]
    clear h1 h2 h5 E
    unfold Small at hs
    have hl3 : v.length < s.size := by rw [h4] at hl2; simp at hl2 hlen; omega
    have E4 := Lib.hid (show Sc.sign (61 : Nat).toUInt8 ((t.dropWhile Sc.later).dropWhile Sc.white) = (true, v) by rw [h4]; rfl)
    have hl4 := Sc.len_dropWhile (p := Sc.white) v
    clear h4 hl2
    go_enter Tryz.func146, Tryz.ntmps146
    go_wp2_with (first
      | (go_at_call 147; refine W.mono ?_; rintro e w1 ⟨r1, rfl, hr1, a1, b1⟩; have hc1 := a1.cell; have hf1 := a1.free; have he1 : (r1.toList == ([] : List UInt8)) = false := by { rw [toList_data, hr1]; rfl }; have hz1 : 0 < r1.size := Sc.size_pos (by rw [hr1]; simp); have hb1 : r1[0] = b := by { have := Sc.head_of hz1; rw [hr1] at this; exact (List.cons.inj this).1.symm }; have HZ1 : Small r1 := by { unfold Small; rw [← Sc.len_size, hr1]; simp at hlen ⊢; omega })
      | (go_at_call 170; refine (first_b b _).mono ?_; rw [h3]; rintro e w2 ⟨rfl, rfl⟩)
      | (go_at_call 171; refine (while_later g r1 _ HZ1 a1).mono ?_; rw [hr1, hdl]; rintro e w2 ⟨r2, rfl, hr2, a2, b2⟩; have hc2 := a2.cell; have hf2 := a2.free))
    go_wp2_with (first
      | (go_at_call 147; refine (white_any g r2 _ a2).mono ?_; rw [hr2]; rintro e w3 ⟨r3, rfl, hr3, a3, b3⟩; have hc3 := a3.cell; have hf3 := a3.free)
      | (go_at_call 144; refine (sign_lit g r3 61 (by decide) _ a3).mono ?_; rw [show r3.data.toList = _ from hr3, show Sc.sign (61 : Nat).toUInt8 _ = _ from E4.out]; rintro e w4 ⟨r4, rfl, hr4, a4, b4⟩; have hc4 := a4.cell; have hf4 := a4.free))
    go_wp2_with (first
      | (go_at_call 147; refine (white_any g r4 _ a4).mono ?_; rw [hr4]; rintro e w5 ⟨r5, rfl, hr5, a5, b5⟩; have hc5 := a5.cell; have hf5 := a5.free; have HZ5 : Small r5 := by { unfold Small; rw [← Sc.len_size, hr5]; simp at hl4 ⊢; omega })
      | (go_at_call 173; refine (value_any g r5 _ HZ5 a5).mono ?_; rw [hr5]; rintro e w6 ⟨r6, rfl, hr6, hz6, a6, b6⟩))
    go_ret2
    refine ⟨r6, ?_, (fun t' ht => hr6 t' (Option.some.inj ht)), (fun h => by cases h), hz6, a6, b1.trans (b2.trans (b3.trans (b4.trans (b5.trans b6))))⟩
    cases Sc.value (v.dropWhile Sc.white) <;> rfl
end Go.Proofs.YtehmcahdjldhbaaGreatDoor
end
section
/- Walks of the scanner's methods: all attributes. -/
open Go Go.RowKit
set_option linter.unusedVariables false
set_option maxRecDepth 100000
namespace Go.Proofs.YtehmcahdjldhbaaGreatDoor
open Wk
/-- How long the text of block g is. -/
def sizeAt (g : Nat) (w : World) : Nat := match w.heap[g]? with
  | some (.cells c _ _) => match c[0]? with
    | some (Value.string s) => s.size
    | _ => 0
  | _ => 0
theorem sizeAt_of {T g : Nat} {s : ByteArray} {w : World} (h : At T g s w) : sizeAt g w = s.size := by unfold sizeAt; rw [h.blk]; rfl

theorem attributes_any (g : Nat) (s : ByteArray) (w : World) (hs : Small s) (h : At 152 g s w) :
    Calls Tryz.prog 145 #[.pointer (some ⟨g, 0, none⟩), .func (.func 146) #[.pointer (some ⟨g, 0, none⟩)] #[]] w (LeftO g w (Sc.attrs (s.data.toList.length + 1) s.data.toList)) := by
  generalize hF : Sc.attrs (s.data.toList.length + 1) s.data.toList = F
  have HF := Lib.hid hF
  clear hF
  go_enter Tryz.func145, Tryz.ntmps145
  go_wp2
  go_loopw [5, 6] (fun _ _ wr => ∃ s1, At 152 g s1 wr ∧ Small s1 ∧ But g w wr ∧ Hid (Sc.attrs (s1.data.toList.length + 1) s1.data.toList = F)) (fun _ _ wr => sizeAt g wr)
  case atStart => exact ⟨s, h, hs, But.refl, HF⟩
  case round =>
    obtain ⟨s1, h1, hs1, b1, HF1⟩ := hrel
    have hc1 := h1.cell
    have hf1 := h1.free
    have A := attribute_any g s1 wr hs1 h1
    have hz := Lib.hid (sizeAt_of h1)
    cases hatt : Sc.attr s1.data.toList with
    | none =>
      have e : F = some s1.data.toList := by rw [← HF1.out, Sc.attrs, hatt]
      subst e
      rw [hatt] at A
      clear hatt HF HF1
      go_wp2_with (go_at_call 146; refine A.mono ?_; rintro e w2 ⟨r2, rfl, _, hr2, hz2, a2, b2⟩; try have hr2' := hr2 rfl)
      go_ret
      exact ⟨r2, rfl, (fun t ht => by cases ht; exact hr2'), hz2, a2, b1.trans b2⟩
    | some o =>
      cases o with
      | none =>
        have e : F = none := by rw [← HF1.out, Sc.attrs, hatt]
        subst e
        rw [hatt] at A
        clear hatt HF HF1
        go_wp2_with (go_at_call 146; refine A.mono ?_; rintro e w2 ⟨r2, rfl, _, hr2, hz2, a2, b2⟩; try have hr2' := hr2 rfl)
        go_ret
        exact ⟨r2, rfl, (fun t ht => by cases ht), hz2, a2, b1.trans b2⟩
      | some t =>
        have hlt := Sc.attr_len hatt
        have e0 : Sc.attrs (s1.data.toList.length + 1) s1.data.toList = Sc.attrs s1.data.toList.length t := by rw [Sc.attrs, hatt]
        have e : Sc.attrs (t.length + 1) t = F := by rw [← HF1.out, e0]; exact (Sc.attrs_more _ _ hlt).symm
        clear e0
        have HE := Lib.hid e
        clear e
        rw [hatt] at A
        clear hatt HF HF1
        rw [Sc.len_size] at hlt
        go_wp2_with (go_at_call 146; refine A.mono ?_; rintro e w2 ⟨r2, rfl, hr2, _, hz2, a2, b2⟩; have HR2 := Lib.hid (hr2 t rfl); clear hr2)
        go_roundw
        case rel => exact ⟨r2, a2, hz2, b1.trans b2, by rw [HR2.out]; exact HE⟩
        case measure => rw [sizeAt_of a2, hz.out, ← Sc.len_size, HR2.out]; exact hlt
end Go.Proofs.YtehmcahdjldhbaaGreatDoor
end
section
/- The walk of scan.Tag. -/
open Go Go.RowKit
set_option linter.unusedVariables false
set_option maxRecDepth 100000
namespace Go.Proofs.YtehmcahdjldhbaaGreatDoor
open Wk
namespace Sc
theorem sign_len (c : UInt8) (l : List UInt8) : (sign c l).2.length ≤ l.length := by
  cases l with
  | nil => simp [sign]
  | cons b t => rw [sign]; split <;> simp
theorem named_len (l : List UInt8) : (named l).2.length ≤ l.length := by
  cases l with
  | nil => simp [named]
  | cons b t =>
    rw [named]
    split
    · have := len_dropWhile (p := nameByte) t; simp; omega
    · simp
theorem attrs_len : ∀ (n : Nat) (l r : List UInt8), attrs n l = some r → r.length ≤ l.length
  | 0, l, r, h => by simp [attrs] at h
  | n + 1, l, r, h => by
    simp only [attrs] at h
    split at h
    · cases h; exact Nat.le_refl _
    · cases h
    · rename_i r' hr'
      have := attr_len hr'
      have := attrs_len n r' r h
      omega
theorem tagRest_len {l r : List UInt8} (h : tagRest l = some r) : r.length ≤ l.length := by
  unfold tagRest at h
  split at h
  · cases h
  · split at h
    · cases h
    · have h1 := sign_len 60 l
      have h2 := sign_len 47 (sign 60 l).2
      have h3 := named_len (sign 47 (sign 60 l).2).2
      rw [Option.bind_eq_some_iff] at h
      obtain ⟨x, hb, h⟩ := h
      have h4 : x.length ≤ (named (sign 47 (sign 60 l).2).2).2.length := by
        unfold tagBody at hb
        split at hb
        · cases hb; exact Nat.le_refl _
        · exact attrs_len _ _ _ hb
      have h6 := len_dropWhile (p := white) x
      have h7 := sign_len 47 (x.dropWhile white)
      unfold tagEnd at h
      generalize hq : (if (sign 47 (sign 60 l).2).1 = true then x.dropWhile white else (sign 47 (x.dropWhile white)).2) = q at h
      have h5 := sign_len 62 q
      have h8 : q.length ≤ x.length := by rw [← hq]; split <;> omega
      simp only at h
      split at h
      · have := Option.some.inj h; rw [← this]; omega
      · cases h
end Sc
theorem sign_60 (g : Nat) (s : ByteArray) (w : World) (h : At 152 g s w) :
    Calls Tryz.prog 144 #[.pointer (some ⟨g, 0, none⟩), .int .u8 60] w (Left g w (Sc.sign 60 s.data.toList)) := sign_lit g s 60 (by decide) w h
theorem sign_47 (g : Nat) (s : ByteArray) (w : World) (h : At 152 g s w) :
    Calls Tryz.prog 144 #[.pointer (some ⟨g, 0, none⟩), .int .u8 47] w (Left g w (Sc.sign 47 s.data.toList)) := sign_lit g s 47 (by decide) w h
theorem sign_62 (g : Nat) (s : ByteArray) (w : World) (h : At 152 g s w) :
    Calls Tryz.prog 144 #[.pointer (some ⟨g, 0, none⟩), .int .u8 62] w (Left g w (Sc.sign 62 s.data.toList)) := sign_lit g s 62 (by decide) w h
theorem tag_any (s : ByteArray) (w : World) (hs : Small s) :
    Calls Tryz.prog 118 #[.string s] w fun e w' => e = .returned (.int .i64 (Sc.tag s.data.toList)) ∧ Below w.heap.size w w' := by
  have h0 := At.new w 152 s
  have B0 : Below w.heap.size w (w.alloc (.cells #[.string s] 152)) := (Below.refl _ _).alloc (Nat.le_refl _) _
  have hz0 : w.heap.size ≤ (w.alloc (.cells #[.string s] 152)).heap.size := by simp
  have ht : Sc.tag s.data.toList = match Sc.tagRest s.data.toList with
    | none => 0
    | some r => s.data.toList.length - r.length := rfl
  have hl : ∀ r, Sc.tagRest s.data.toList = some r → r.length ≤ s.data.toList.length := fun r h => Sc.tagRest_len h
  unfold Sc.tagRest at ht hl
  generalize Sc.tag s.data.toList = T at *
  generalize hl0 : s.data.toList.length = L at *
  have HT := Lib.hid ht
  have HL := Lib.hid hl
  clear ht hl
  have BL : ∀ (w2 : World), But w.heap.size (w.alloc (.cells #[.string s] 152)) w2 → Below w.heap.size w w2 := fun _ b => B0.trans (b.below hz0 (Nat.le_refl _))
  have HBL := Lib.hid BL
  clear BL
  go_enter Tryz.func118, Tryz.ntmps118
  go_wp2_with (go_at_call 144; (with_reducible refine (sign_60 _ s _ h0).mono ?_); rintro e w1 ⟨r1, rfl, hr1, a1, b1⟩; have c1 := a1.cell; have f1 := a1.free)
  · go_ret
    have hc : (!(Sc.sign 60 s.data.toList).1) = true := by assumption
    exact ⟨ret_int (by rw [HT.out, if_pos hc]; rfl), HBL.out _ b1⟩
  · have hc : (!(Sc.sign 60 s.data.toList).1) = false := by assumption
    have ht : T = _ := HT.out
    have hl := HL.out
    rw [hc] at ht hl
    simp only [Bool.false_eq_true, if_false] at ht hl
    have hz1 := Sc.sign_len 60 s.data.toList
    rw [← hr1] at ht hl hz1
    clear HT HL hr1
    have HT := Lib.hid ht
    have HL := Lib.hid hl
    clear ht hl
    refine (sign_47 _ r1 _ a1).mono ?_
    rintro e w2 ⟨r2, rfl, hr2, a2, b2⟩
    have c2 := a2.cell
    have f2 := a2.free
    have hz2 := Sc.sign_len 47 r1.data.toList
    rw [← hr2] at hz2
    have HZ2 : Small r2 := by unfold Small at *; rw [← Sc.len_size] at *; omega
    go_wp2_with fail
    refine (named_any r2 _ HZ2).mono ?_
    rintro e w3 ⟨nm, r3, rfl, hnm, hr3, b3⟩
    have a3 := a2.below b3
    have c3 := a3.cell
    have f3 := a3.free
    have a4 := a3.set r3
    have c4 := a4.cell
    have f4 := a4.free
    have hz3 := Sc.named_len r2.data.toList
    rw [← hr3] at hz3
    have HZ3 : Small r3 := by unfold Small at *; rw [← Sc.len_size] at *; omega
    have b4 := (b1.trans b2).trans ((But.of_below b3).set 0 (.string r3))
    have ht : T = _ := HT.out
    have hl := HL.out
    rw [← hr2, ← hnm, ← hr3] at ht hl
    clear HT HL hnm hr3 hz1 hz2 hz3 b1 b2 b3 c1 f1 a1
    by_cases hn : nm.data.toList = []
    · have hn1 : nm.toList = [] := by rw [toList_data, hn]
      rw [if_pos hn] at ht
      have HT := Lib.hid ht
      clear ht hl hn
      go_wp2
      go_ret
      exact ⟨ret_int (by rw [HT.out]; rfl), HBL.out _ b4⟩
    · rw [if_neg hn] at ht hl
      have hn1 : (nm.toList == ([] : List UInt8)) = false := by rw [toList_data, beq_eq_false_iff_ne]; exact hn
      have hn2 : nm.toList.isEmpty = false := by rw [toList_data, List.isEmpty_eq_false_iff]; exact hn
      cases hcl : (Sc.sign 47 r1.data.toList).1 with
      | true =>
        rw [hcl] at ht hl
        simp only [Sc.tagBody, if_true, Option.bind_some] at ht hl
        have HT := Lib.hid ht
        have HL := Lib.hid hl
        clear ht hl hn hr2
        go_wp2_with fail
        refine (white_any _ r3 _ a4).mono ?_
        rintro e w5 ⟨r5, rfl, hr5, a5, b5⟩
        go_wp2_with fail
        refine (sign_62 _ r5 _ a5).mono ?_
        rintro e w6 ⟨r6, rfl, hr6, a6, b6⟩
        have c6 := a6.cell
        have f6 := a6.free
        have ht : T = _ := HT.out
        have hl := HL.out
        simp only [Sc.tagEnd, if_true] at ht hl
        rw [← hr5, ← hr6] at ht hl
        cases hs62 : (Sc.sign 62 r5.data.toList).1 with
        | true =>
          rw [hs62] at ht hl
          have hl6 : r6.data.toList.length ≤ L := hl _ rfl
          have ht6 : T = L - r6.data.toList.length := ht
          rw [Sc.len_size] at ht6 hl6 hl0
          have HT : Hid ((L : Int) - (r6.size : Int) = (T : Int)) := (by omega : (L : Int) - (r6.size : Int) = (T : Int))
          clear ht ht6 hl hr5 hr6
          go_wp2
          go_ret
          exact ⟨ret_int HT.out, HBL.out _ (b4.trans (b5.trans b6))⟩
        | false =>
          rw [hs62] at ht
          simp only [Bool.false_eq_true, if_false] at ht
          have HT := Lib.hid ht
          clear ht hl hr5 hr6
          go_wp2
          go_ret
          exact ⟨ret_int (by rw [HT.out]; rfl), HBL.out _ (b4.trans (b5.trans b6))⟩
      | false =>
        rw [hcl] at ht hl
        have ha : Sc.tagBody false r3.data.toList = Sc.attrs (r3.data.toList.length + 1) r3.data.toList := rfl
        rw [ha] at ht hl
        have A := attributes_any w.heap.size r3 _ HZ3 a4
        cases hat : Sc.attrs (r3.data.toList.length + 1) r3.data.toList with
        | none =>
          rw [hat] at A ht
          have HT : Hid (T = 0) := ht
          clear ht hl hn hr2 hat ha
          go_wp2_with fail
          refine A.mono ?_
          rintro e w5 ⟨r5, rfl, hr5, hz5, a5, b5⟩
          go_wp2
          go_ret
          exact ⟨ret_int (by rw [HT.out]; rfl), HBL.out _ (b4.trans b5)⟩
        | some x =>
          rw [hat] at A ht hl
          simp only [Option.bind_some] at ht hl
          have HT := Lib.hid ht
          have HL := Lib.hid hl
          clear ht hl hn hr2 hat ha
          go_wp2_with fail
          refine A.mono ?_
          rintro e w5 ⟨r5, rfl, hr5, hz5, a5, b5⟩
          have hr5 := hr5 x rfl
          go_wp2_with fail
          refine (white_any _ r5 _ a5).mono ?_
          rintro e w6 ⟨r6, rfl, hr6, a6, b6⟩
          go_wp2_with fail
          refine (sign_47 _ r6 _ a6).mono ?_
          rintro e w7 ⟨r7, rfl, hr7, a7, b7⟩
          go_wp2_with fail
          refine (sign_62 _ r7 _ a7).mono ?_
          rintro e w8 ⟨r8, rfl, hr8, a8, b8⟩
          have c8 := a8.cell
          have f8 := a8.free
          have ht : T = _ := HT.out
          have hl := HL.out
          simp only [Sc.tagEnd, Bool.false_eq_true, if_false] at ht hl
          rw [← hr5, ← hr6, ← hr7, ← hr8] at ht hl
          have bb := b4.trans (b5.trans (b6.trans (b7.trans b8)))
          cases hs62 : (Sc.sign 62 r7.data.toList).1 with
          | true =>
            rw [hs62] at ht hl
            have hl8 : r8.data.toList.length ≤ L := hl _ rfl
            have ht8 : T = L - r8.data.toList.length := ht
            rw [Sc.len_size] at ht8 hl8 hl0
            have HT : Hid ((L : Int) - (r8.size : Int) = (T : Int)) := (by omega : (L : Int) - (r8.size : Int) = (T : Int))
            clear ht ht8 hl hr5 hr6 hr7 hr8
            go_wp2
            go_ret
            exact ⟨ret_int HT.out, HBL.out _ bb⟩
          | false =>
            rw [hs62] at ht
            have HT : Hid (T = 0) := ht
            clear ht hl hr5 hr6 hr7 hr8
            go_wp2
            go_ret
            exact ⟨ret_int (by rw [HT.out]; rfl), HBL.out _ bb⟩
end Go.Proofs.YtehmcahdjldhbaaGreatDoor
end
