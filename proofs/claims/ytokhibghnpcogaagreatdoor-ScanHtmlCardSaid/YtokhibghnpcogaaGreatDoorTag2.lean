/- Walks: the name with which a text begins; a text without the characters of an ASCII set at its begin. -/
import Derived.Test.YtokhibghnpcogaaGreatDoorTag1
open Go Go.RowKit
set_option linter.unusedVariables false
set_option maxRecDepth 100000
namespace Go.Proofs.YtokhibghnpcogaaGreatDoor
open Wk

theorem named_any (s : ByteArray) (w : World) (hs : s.size ≤ 4000000000) :
    Calls Tryz.prog 28 #[.string s] w fun e w' => ∃ a b : ByteArray, e = .returned (.tuple #[.string a, .string b]) ∧ a.data.toList = (Sc.named s.data.toList).1 ∧ b.data.toList = (Sc.named s.data.toList).2 ∧ Below w.heap.size w w' := by
  by_cases h0 : s.data.toList = []
  · have h1 : s.toList = [] := by rw [toList_data, h0]
    go_enter Tryz.func28, Tryz.ntmps28
    go_wp2
    go_ret2
    exact ⟨_, _, rfl, by rw [h0]; rfl, by rw [h0]; rfl, Below.refl _ _⟩
  · have hsz := Sc.size_pos h0
    have h1 : (s.toList == ([] : List UInt8)) = false := by rw [toList_data, beq_eq_false_iff_ne]; exact h0
    have E0 := Lib.hid (Sc.head_of hsz)
    have U0 : Sc.Upto Sc.nameByte s 1 1 := Sc.Upto.start hsz
    have e45 : ∀ b : UInt8, ((b.toNat : Int) == 45) = (b == 45) := fun b => beq_u8 b 45 (by decide)
    clear h0
    cases hl : Sc.letter s[0] with
    | false =>
      go_enter Tryz.func28, Tryz.ntmps28
      go_wp2_with (go_at_call 53; refine (letter_b _ _).mono ?_; rintro e w' ⟨rfl, rfl⟩)
      go_ret2
      exact ⟨_, _, rfl, by rw [E0.out, Sc.named, hl]; rfl, by rw [E0.out, Sc.named, hl]; rfl, Below.refl _ _⟩
    | true =>
      have fin : ∀ k, Sc.Upto Sc.nameByte s 1 k → (∀ h : k < s.size, Sc.nameByte s[k] = false) → (s.extract 0 k).data.toList = (Sc.named s.data.toList).1 ∧ (s.extract k s.size).data.toList = (Sc.named s.data.toList).2 := by
        intro k U h
        have := U.stop h
        have hk := U.ge
        rw [Sc.take_data, Sc.drop_data, E0.out, Sc.named, if_pos hl]
        simp only
        rw [this.1, this.2]
        obtain ⟨k, rfl⟩ : ∃ j, k = j + 1 := ⟨k - 1, by omega⟩
        simp
      have FIN := Lib.hid fin
      clear fin
      go_enter Tryz.func28, Tryz.ntmps28
      go_wp2_with (go_at_call 53; refine (letter_b _ _).mono ?_; rintro e w' ⟨rfl, rfl⟩)
      go_wp2
      go_loop [4] (fun i => ∃ k : Nat, i = .int .i64 k ∧ Sc.Upto Sc.nameByte s 1 k) (fun i => s.size - (intOf i).toNat)
      case atStart => exact ⟨1, rfl, U0⟩
      case round =>
        obtain ⟨k, rfl, U⟩ := hrel
        have hk := U.le
        go_wp2_with (first
          | (go_at_call 53; refine (letter_b _ _).mono ?_; rintro e w' ⟨rfl, rfl⟩)
          | (go_at_call 65; refine (digit_b _ _).mono ?_; rintro e w' ⟨rfl, rfl⟩))
        any_goals (
          go_round
          case rel => exact ⟨k + 1, by go_num, U.step (by assumption) (by simp [Sc.nameByte, *])⟩
          case measure => simp [intOf]; omega)
        all_goals (
          go_quiet (fail)
          go_wp2
          go_ret2
          have F := FIN.out k U (fun h => by first | omega | simp [Sc.nameByte, *])
          exact ⟨_, _, rfl, F.1, F.2, drewN_below _ _⟩)

theorem beq_nat (a b : Nat) : ((a : Int) == (b : Int)) = (a == b) := by rw [Bool.eq_iff_iff, beq_iff_eq, beq_iff_eq]; omega
/-- Is a character among the first bytes of a set? -/
def inSet (c : Nat) (l : List UInt8) : Bool := l.any fun d => (c == d.toNat)
theorem inSet_snoc (c : Nat) (s : ByteArray) (j : Nat) (h : j < s.size) : inSet c (s.data.toList.take (j + 1)) = (inSet c (s.data.toList.take j) || (c == s[j].toNat)) := by
  unfold inSet
  rw [List.take_succ_eq_append_getElem (by simpa using h), List.any_append]
  simp; rfl
theorem inSet_ascii (b : UInt8) (l : List UInt8) : inSet b.toNat l = l.contains b := by
  induction l with
  | nil => rfl
  | cons a t ih =>
    have e : (b.toNat == a.toNat) = (b == a) := by rw [Bool.eq_iff_iff, beq_iff_eq, beq_iff_eq, UInt8.toNat_inj]
    unfold inSet at *
    rw [List.any_cons, ih, e, List.contains_cons]
theorem inSet_high (c : Nat) (l : List UInt8) (h : ∀ b ∈ l, b.toNat < 128) (hc : 128 ≤ c) : inSet c l = false := by
  unfold inSet
  rw [List.any_eq_false]
  intro b hb
  have := h b hb
  simp; omega
/-- The rune at a place of s: is it in an ASCII set? -/
theorem inSet_at (s : ByteArray) (k : Nat) (h : k < s.size) (l : List UInt8) (hl : ∀ b ∈ l, b.toNat < 128) : inSet (Utf8.decode s k).1 l = l.contains s[k] ∧ (l.contains s[k] = true → (Utf8.decode s k).2 = 1) := by
  by_cases ha : s[k].toNat < 128
  · rw [decode_ascii s k h ha]; exact ⟨inSet_ascii _ _, fun _ => rfl⟩
  · have hd := decode_high s k h (by omega)
    have hn : l.contains s[k] = false := by
      rw [Bool.eq_false_iff]; intro hc
      have := hl _ (List.contains_iff_mem.1 hc); omega
    rw [inSet_high _ _ hl hd.1, hn]; exact ⟨rfl, by simp⟩

set_option maxHeartbeats 1000000 in
theorem cutLeft_any (s set : ByteArray) (w : World) (hascii : ∀ b ∈ set.data.toList, b.toNat < 128) :
    Calls Tryz.prog 49 #[.string s, .string set] w fun e w' => ∃ r : ByteArray, e = .returned (.string r) ∧ r.data.toList = s.data.toList.dropWhile (set.data.toList.contains ·) ∧ Below w.heap.size w w' := by
  have U0 : Sc.Upto (set.data.toList.contains ·) s 0 0 := Sc.Upto.start (Nat.zero_le _)
  have H := Lib.hid hascii
  clear hascii
  go_enter Tryz.func49, Tryz.ntmps49
  go_wp2
  go_loopw [5, 6, 7, 9] (fun _ _ _ _ wr => ∃ k : Nat, wr.heap[w.heap.size]? = some (.stringIter s k) ∧ Below w.heap.size w wr ∧ Sc.Upto (set.data.toList.contains ·) s 0 k) (fun _ _ _ _ wr => s.size - wr.iterPos w.heap.size)
  case atStart => exact ⟨0, World.iter_heap w s 0, (Below.refl _ _).alloc (Nat.le_refl _) _, U0⟩
  case round =>
    obtain ⟨k, hit, hb, U⟩ := hrel
    have hm : wr.iterPos w.heap.size = k := by simp [World.iterPos, hit]
    have HM := Lib.hid hm
    clear hm
    have hlt : w.heap.size < wr.heap.size := (Array.getElem?_eq_some_iff.1 hit).1
    by_cases hp : k < s.size
    · have hnx : ∀ ty, (Instr.next (.pointer (some ⟨w.heap.size, 0, none⟩)) true ty).run Tryz.prog wr = _ := fun ty => Lib.run_next_any_at wr w.heap.size s k ty hit hp
      have HIN := Lib.hid (inSet_at s k hp _ H.out)
      have hit2 := Lib.iterAt_heap wr w.heap.size s k (k + (Utf8.decode s k).2) hit
      have hb2 := Lib.below_iterAt hb (Nat.le_refl _) s (k + (Utf8.decode s k).2)
      have hz2 := Lib.iterAt_size wr w.heap.size s (k + (Utf8.decode s k).2)
      generalize hW2 : wr.iterAt w.heap.size s (k + (Utf8.decode s k).2) = w2 at *
      rw [← hz2] at hlt
      clear hW2 hz2
      generalize (Utf8.decode s k).2 = wd at *
      generalize hc : (Utf8.decode s k).1 = c at *
      clear hc
      go_wp2
      go_loopw [7, 9] (fun i _ wi => ∃ j : Nat, i = .bool (inSet c (set.data.toList.take j)) ∧ j ≤ set.size ∧ wi.heap[w2.heap.size]? = some (.stringIter set j) ∧ Below w2.heap.size w2 wi) (fun _ _ wi => set.size - wi.iterPos w2.heap.size)
      case atStart => exact ⟨0, rfl, Nat.zero_le _, World.iter_heap w2 set 0, (Below.refl _ _).alloc (Nat.le_refl _) _⟩
      case round =>
        obtain ⟨j, rfl, hj, hit3, hb3⟩ := hrel
        have hmj : wr.iterPos w2.heap.size = j := by simp [World.iterPos, hit3]
        have HMJ := Lib.hid hmj
        clear hmj
        by_cases hq : j < set.size
        · have hnx2 : ∀ ty, (Instr.next (.pointer (some ⟨w2.heap.size, 0, none⟩)) true ty).run Tryz.prog wr = _ := fun ty => Lib.run_next_ascii_at wr w2.heap.size set j ty hit3 hq (H.out _ (List.getElem_mem (by simpa using hq : j < set.data.toList.length)))
          have hit4 := Lib.iterAt_heap wr w2.heap.size set j (j + 1) hit3
          have hb4 := Lib.below_iterAt hb3 (Nat.le_refl _) set (j + 1)
          have HS := Lib.hid (inSet_snoc c set j hq)
          generalize hW4 : wr.iterAt w2.heap.size set (j + 1) = w4 at *
          clear hW4
          have hmj4 : w4.iterPos w2.heap.size = j + 1 := by simp [World.iterPos, hit4]
          have HMJ4 := Lib.hid hmj4
          clear hmj4
          cases hI : inSet c (set.data.toList.take j) with
          | true =>
            go_wp2
            go_roundw
            case rel => exact ⟨j + 1, by rw [HS.out, hI]; rfl, by omega, hit4, hb4⟩
            case measure => rw [HMJ4.out, HMJ.out]; omega
          | false =>
            go_wp2
            go_roundw
            case rel => exact ⟨j + 1, by rw [HS.out, hI, ← beq_nat]; simp, by omega, hit4, hb4⟩
            case measure => rw [HMJ4.out, HMJ.out]; omega
        · have hnx2 : ∀ ty, (Instr.next (.pointer (some ⟨w2.heap.size, 0, none⟩)) true ty).run Tryz.prog wr = _ := fun ty => Lib.run_next_end_at wr w2.heap.size set j ty hit3 hq
          have hall : set.data.toList.take j = set.data.toList := List.take_of_length_le (by simp; omega)
          rw [hall, HIN.out.1]
          clear hall
          cases hI : set.data.toList.contains s[k] with
          | true =>
            have hw := HIN.out.2 hI
            subst hw
            go_wp2
            go_roundw
            case rel => exact ⟨k + 1, (hb3.block _ (by omega)).trans hit2, hb2.trans (hb3.mono (by omega)), U.step hp hI⟩
            case measure =>
              have : wr.iterPos w.heap.size = k + 1 := by simp [World.iterPos, (hb3.block _ (by omega)).trans hit2]
              rw [HM.out, this]; omega
          | false =>
            have F := Lib.hid (U.stop (fun _ => hI)).2
            go_wp2
            go_ret
            exact ⟨_, rfl, by rw [Sc.drop_data]; exact F.out.symm, hb2.trans (hb3.mono (by omega))⟩
    · have hnx : ∀ ty, (Instr.next (.pointer (some ⟨w.heap.size, 0, none⟩)) true ty).run Tryz.prog wr = _ := fun ty => Lib.run_next_end_at wr w.heap.size s k ty hit hp
      have F := Lib.hid (U.stop (fun h => absurd h hp)).2
      go_wp2
      go_ret
      refine ⟨_, rfl, ?_, hb⟩
      have := F.out
      simp only [List.drop_zero] at this
      rw [this, List.drop_eq_nil_of_le (by simp; omega)]
end Go.Proofs.YtokhibghnpcogaaGreatDoor
