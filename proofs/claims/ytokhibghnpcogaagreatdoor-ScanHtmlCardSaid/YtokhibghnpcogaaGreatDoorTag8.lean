/- The walk of scan.Tag. -/
import Derived.Test.YtokhibghnpcogaaGreatDoorTag7
open Go Go.RowKit
set_option linter.unusedVariables false
set_option maxRecDepth 100000
namespace Go.Proofs.YtokhibghnpcogaaGreatDoor
open Wk
namespace Sc
theorem sign_len (c : UInt8) (l : List UInt8) : (sign c l).2.length ≤ l.length := by
  cases l with
  | nil => simp [sign]
  | cons b t => rw [sign]; split <;> simp
theorem named_len (l : List UInt8) : (named l).2.length ≤ l.length := by
  cases l with
  | nil => simp [named]
  | cons b t =>
    rw [named]
    split
    · have := len_dropWhile (p := nameByte) t; simp; omega
    · simp
theorem attrs_len : ∀ (n : Nat) (l r : List UInt8), attrs n l = some r → r.length ≤ l.length
  | 0, l, r, h => by simp [attrs] at h
  | n + 1, l, r, h => by
    simp only [attrs] at h
    split at h
    · cases h; exact Nat.le_refl _
    · cases h
    · rename_i r' hr'
      have := attr_len hr'
      have := attrs_len n r' r h
      omega
theorem tagRest_len {l r : List UInt8} (h : tagRest l = some r) : r.length ≤ l.length := by
  unfold tagRest at h
  split at h
  · cases h
  · split at h
    · cases h
    · have h1 := sign_len 60 l
      have h2 := sign_len 47 (sign 60 l).2
      have h3 := named_len (sign 47 (sign 60 l).2).2
      rw [Option.bind_eq_some_iff] at h
      obtain ⟨x, hb, h⟩ := h
      have h4 : x.length ≤ (named (sign 47 (sign 60 l).2).2).2.length := by
        unfold tagBody at hb
        split at hb
        · cases hb; exact Nat.le_refl _
        · exact attrs_len _ _ _ hb
      have h6 := len_dropWhile (p := white) x
      have h7 := sign_len 47 (x.dropWhile white)
      unfold tagEnd at h
      generalize hq : (if (sign 47 (sign 60 l).2).1 = true then x.dropWhile white else (sign 47 (x.dropWhile white)).2) = q at h
      have h5 := sign_len 62 q
      have h8 : q.length ≤ x.length := by rw [← hq]; split <;> omega
      simp only at h
      split at h
      · have := Option.some.inj h; rw [← this]; omega
      · cases h
end Sc
theorem sign_60 (g : Nat) (s : ByteArray) (w : World) (h : At 35 g s w) :
    Calls Tryz.prog 27 #[.pointer (some ⟨g, 0, none⟩), .int .u8 60] w (Left g w (Sc.sign 60 s.data.toList)) := sign_lit g s 60 (by decide) w h
theorem sign_47 (g : Nat) (s : ByteArray) (w : World) (h : At 35 g s w) :
    Calls Tryz.prog 27 #[.pointer (some ⟨g, 0, none⟩), .int .u8 47] w (Left g w (Sc.sign 47 s.data.toList)) := sign_lit g s 47 (by decide) w h
theorem sign_62 (g : Nat) (s : ByteArray) (w : World) (h : At 35 g s w) :
    Calls Tryz.prog 27 #[.pointer (some ⟨g, 0, none⟩), .int .u8 62] w (Left g w (Sc.sign 62 s.data.toList)) := sign_lit g s 62 (by decide) w h
theorem tag_any (s : ByteArray) (w : World) (hs : Small s) :
    Calls Tryz.prog 7 #[.string s] w fun e w' => e = .returned (.int .i64 (Sc.tag s.data.toList)) ∧ Below w.heap.size w w' := by
  have h0 := At.new w 35 s
  have B0 : Below w.heap.size w (w.alloc (.cells #[.string s] 35)) := (Below.refl _ _).alloc (Nat.le_refl _) _
  have hz0 : w.heap.size ≤ (w.alloc (.cells #[.string s] 35)).heap.size := by simp
  have ht : Sc.tag s.data.toList = match Sc.tagRest s.data.toList with
    | none => 0
    | some r => s.data.toList.length - r.length := rfl
  have hl : ∀ r, Sc.tagRest s.data.toList = some r → r.length ≤ s.data.toList.length := fun r h => Sc.tagRest_len h
  unfold Sc.tagRest at ht hl
  generalize Sc.tag s.data.toList = T at *
  generalize hl0 : s.data.toList.length = L at *
  have HT := Lib.hid ht
  have HL := Lib.hid hl
  clear ht hl
  have BL : ∀ (w2 : World), But w.heap.size (w.alloc (.cells #[.string s] 35)) w2 → Below w.heap.size w w2 := fun _ b => B0.trans (b.below hz0 (Nat.le_refl _))
  have HBL := Lib.hid BL
  clear BL
  go_enter Tryz.func7, Tryz.ntmps7
  go_wp2_with (go_at_call 27; (with_reducible refine (sign_60 _ s _ h0).mono ?_); rintro e w1 ⟨r1, rfl, hr1, a1, b1⟩; have c1 := a1.cell; have f1 := a1.free)
  · go_ret
    have hc : (!(Sc.sign 60 s.data.toList).1) = true := by assumption
    exact ⟨ret_int (by rw [HT.out, if_pos hc]; rfl), HBL.out _ b1⟩
  · have hc : (!(Sc.sign 60 s.data.toList).1) = false := by assumption
    have ht : T = _ := HT.out
    have hl := HL.out
    rw [hc] at ht hl
    simp only [Bool.false_eq_true, if_false] at ht hl
    have hz1 := Sc.sign_len 60 s.data.toList
    rw [← hr1] at ht hl hz1
    clear HT HL hr1
    have HT := Lib.hid ht
    have HL := Lib.hid hl
    clear ht hl
    refine (sign_47 _ r1 _ a1).mono ?_
    rintro e w2 ⟨r2, rfl, hr2, a2, b2⟩
    have c2 := a2.cell
    have f2 := a2.free
    have hz2 := Sc.sign_len 47 r1.data.toList
    rw [← hr2] at hz2
    have HZ2 : Small r2 := by unfold Small at *; rw [← Sc.len_size] at *; omega
    go_wp2_with fail
    refine (named_any r2 _ HZ2).mono ?_
    rintro e w3 ⟨nm, r3, rfl, hnm, hr3, b3⟩
    have a3 := a2.below b3
    have c3 := a3.cell
    have f3 := a3.free
    have a4 := a3.set r3
    have c4 := a4.cell
    have f4 := a4.free
    have hz3 := Sc.named_len r2.data.toList
    rw [← hr3] at hz3
    have HZ3 : Small r3 := by unfold Small at *; rw [← Sc.len_size] at *; omega
    have b4 := (b1.trans b2).trans ((But.of_below b3).set 0 (.string r3))
    have ht : T = _ := HT.out
    have hl := HL.out
    rw [← hr2, ← hnm, ← hr3] at ht hl
    clear HT HL hnm hr3 hz1 hz2 hz3 b1 b2 b3 c1 f1 a1
    by_cases hn : nm.data.toList = []
    · have hn1 : nm.toList = [] := by rw [toList_data, hn]
      rw [if_pos hn] at ht
      have HT := Lib.hid ht
      clear ht hl hn
      go_wp2
      go_ret
      exact ⟨ret_int (by rw [HT.out]; rfl), HBL.out _ b4⟩
    · rw [if_neg hn] at ht hl
      have hn1 : (nm.toList == ([] : List UInt8)) = false := by rw [toList_data, beq_eq_false_iff_ne]; exact hn
      have hn2 : nm.toList.isEmpty = false := by rw [toList_data, List.isEmpty_eq_false_iff]; exact hn
      cases hcl : (Sc.sign 47 r1.data.toList).1 with
      | true =>
        rw [hcl] at ht hl
        simp only [Sc.tagBody, if_true, Option.bind_some] at ht hl
        have HT := Lib.hid ht
        have HL := Lib.hid hl
        clear ht hl hn hr2
        go_wp2_with fail
        refine (white_any _ r3 _ a4).mono ?_
        rintro e w5 ⟨r5, rfl, hr5, a5, b5⟩
        go_wp2_with fail
        refine (sign_62 _ r5 _ a5).mono ?_
        rintro e w6 ⟨r6, rfl, hr6, a6, b6⟩
        have c6 := a6.cell
        have f6 := a6.free
        have ht : T = _ := HT.out
        have hl := HL.out
        simp only [Sc.tagEnd, if_true] at ht hl
        rw [← hr5, ← hr6] at ht hl
        cases hs62 : (Sc.sign 62 r5.data.toList).1 with
        | true =>
          rw [hs62] at ht hl
          have hl6 : r6.data.toList.length ≤ L := hl _ rfl
          have ht6 : T = L - r6.data.toList.length := ht
          rw [Sc.len_size] at ht6 hl6 hl0
          have HT : Hid ((L : Int) - (r6.size : Int) = (T : Int)) := (by omega : (L : Int) - (r6.size : Int) = (T : Int))
          clear ht ht6 hl hr5 hr6
          go_wp2
          go_ret
          exact ⟨ret_int HT.out, HBL.out _ (b4.trans (b5.trans b6))⟩
        | false =>
          rw [hs62] at ht
          simp only [Bool.false_eq_true, if_false] at ht
          have HT := Lib.hid ht
          clear ht hl hr5 hr6
          go_wp2
          go_ret
          exact ⟨ret_int (by rw [HT.out]; rfl), HBL.out _ (b4.trans (b5.trans b6))⟩
      | false =>
        rw [hcl] at ht hl
        have ha : Sc.tagBody false r3.data.toList = Sc.attrs (r3.data.toList.length + 1) r3.data.toList := rfl
        rw [ha] at ht hl
        have A := attributes_any w.heap.size r3 _ HZ3 a4
        cases hat : Sc.attrs (r3.data.toList.length + 1) r3.data.toList with
        | none =>
          rw [hat] at A ht
          have HT : Hid (T = 0) := ht
          clear ht hl hn hr2 hat ha
          go_wp2_with fail
          refine A.mono ?_
          rintro e w5 ⟨r5, rfl, hr5, hz5, a5, b5⟩
          go_wp2
          go_ret
          exact ⟨ret_int (by rw [HT.out]; rfl), HBL.out _ (b4.trans b5)⟩
        | some x =>
          rw [hat] at A ht hl
          simp only [Option.bind_some] at ht hl
          have HT := Lib.hid ht
          have HL := Lib.hid hl
          clear ht hl hn hr2 hat ha
          go_wp2_with fail
          refine A.mono ?_
          rintro e w5 ⟨r5, rfl, hr5, hz5, a5, b5⟩
          have hr5 := hr5 x rfl
          go_wp2_with fail
          refine (white_any _ r5 _ a5).mono ?_
          rintro e w6 ⟨r6, rfl, hr6, a6, b6⟩
          go_wp2_with fail
          refine (sign_47 _ r6 _ a6).mono ?_
          rintro e w7 ⟨r7, rfl, hr7, a7, b7⟩
          go_wp2_with fail
          refine (sign_62 _ r7 _ a7).mono ?_
          rintro e w8 ⟨r8, rfl, hr8, a8, b8⟩
          have c8 := a8.cell
          have f8 := a8.free
          have ht : T = _ := HT.out
          have hl := HL.out
          simp only [Sc.tagEnd, Bool.false_eq_true, if_false] at ht hl
          rw [← hr5, ← hr6, ← hr7, ← hr8] at ht hl
          have bb := b4.trans (b5.trans (b6.trans (b7.trans b8)))
          cases hs62 : (Sc.sign 62 r7.data.toList).1 with
          | true =>
            rw [hs62] at ht hl
            have hl8 : r8.data.toList.length ≤ L := hl _ rfl
            have ht8 : T = L - r8.data.toList.length := ht
            rw [Sc.len_size] at ht8 hl8 hl0
            have HT : Hid ((L : Int) - (r8.size : Int) = (T : Int)) := (by omega : (L : Int) - (r8.size : Int) = (T : Int))
            clear ht ht8 hl hr5 hr6 hr7 hr8
            go_wp2
            go_ret
            exact ⟨ret_int HT.out, HBL.out _ bb⟩
          | false =>
            rw [hs62] at ht
            have HT : Hid (T = 0) := ht
            clear ht hl hr5 hr6 hr7 hr8
            go_wp2
            go_ret
            exact ⟨ret_int (by rw [HT.out]; rfl), HBL.out _ bb⟩
end Go.Proofs.YtokhibghnpcogaaGreatDoor
