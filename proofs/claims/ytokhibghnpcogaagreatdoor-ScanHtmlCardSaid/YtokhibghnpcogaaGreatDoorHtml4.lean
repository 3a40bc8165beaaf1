/- The walk of scan.HtmlEnds. -/
import Derived.Test.YtokhibghnpcogaaGreatDoorLaw1
open Go Go.RowKit
set_option linter.unusedVariables false
set_option linter.unusedSimpArgs false
set_option maxRecDepth 100000
namespace Go.Proofs.YtokhibghnpcogaaGreatDoor
open Wk
namespace Sc
def rawEnds : List (List UInt8) := [[60, 47, 115, 99, 114, 105, 112, 116, 62], [60, 47, 112, 114, 101, 62], [60, 47, 115, 116, 121, 108, 101, 62], [60, 47, 116, 101, 120, 116, 97, 114, 101, 97, 62]]
def htmlEnds (l : List UInt8) (k : Int) : Bool :=
  if k = 1 then Lib.contains (lower l) [60, 47, 115, 99, 114, 105, 112, 116, 62] || (Lib.contains (lower l) [60, 47, 112, 114, 101, 62] || (Lib.contains (lower l) [60, 47, 115, 116, 121, 108, 101, 62] || Lib.contains (lower l) [60, 47, 116, 101, 120, 116, 97, 114, 101, 97, 62]))
  else if k = 2 then Lib.contains l [45, 45, 62]
  else if k = 3 then Lib.contains l [63, 62]
  else if k = 4 then Lib.contains l [62]
  else if k = 5 then Lib.contains l [93, 93, 62]
  else if k = 6 ∨ k = 7 then blanks l
  else false
end Sc
theorem contains_any (s sub : ByteArray) (w : World) (hs : Small s) (hE : Env w) :
    Calls Tryz.prog 63 #[.string s, .string sub] w fun e w' => e = .returned (.bool (Lib.contains s.data.toList sub.data.toList)) ∧ w = w' := by
  obtain ⟨m, hm⟩ := hE.ml
  exact (Go.Proofs.Any.strings_Contains { Tryz.laysM144 with } s sub m w (by unfold Small at hs; omega) hm).mono fun _ _ h => ⟨h.1, h.2.symm⟩
theorem lower_len (l : List UInt8) : (Sc.lower l).length = l.length := by unfold Sc.lower; simp
set_option maxHeartbeats 4000000 in
theorem htmlEnds_any (s : ByteArray) (k : Int) (w : World) (hs : Small s) (hE : Env w) :
    Calls Tryz.prog 25 #[.string s, .int .i64 k] w fun e w' => e = .returned (.bool (Sc.htmlEnds s.data.toList k)) ∧ Below w.heap.size w w' := by
  have CT := fun (t sub : ByteArray) w (ht : Small t) hE => contains_any t sub w ht hE
  by_cases k1 : k = 1
  · subst k1
    have F : Sc.htmlEnds s.data.toList 1 = (Lib.contains (Sc.lower s.data.toList) [60, 47, 115, 99, 114, 105, 112, 116, 62] || (Lib.contains (Sc.lower s.data.toList) [60, 47, 112, 114, 101, 62] || (Lib.contains (Sc.lower s.data.toList) [60, 47, 115, 116, 121, 108, 101, 62] || Lib.contains (Sc.lower s.data.toList) [60, 47, 116, 101, 120, 116, 97, 114, 101, 97, 62]))) := rfl
    have LW := fun w => lower_any s w hs
    have hls : Small (mk (Sc.lower s.data.toList)) := by unfold Small at *; rw [mk_size, lower_len, Sc.len_size]; exact hs
    have C1 : ∀ w, Env w → Calls Tryz.prog 63 #[.string (mk (Sc.lower s.data.toList)), .string ⟨#[60, 47, 115, 99, 114, 105, 112, 116, 62]⟩] w fun e w' => e = .returned (.bool (Lib.contains (Sc.lower s.data.toList) [60, 47, 115, 99, 114, 105, 112, 116, 62])) ∧ w = w' := fun w hE => CT _ _ w hls hE
    have C2 : ∀ w, Env w → Calls Tryz.prog 63 #[.string (mk (Sc.lower s.data.toList)), .string ⟨#[60, 47, 112, 114, 101, 62]⟩] w fun e w' => e = .returned (.bool (Lib.contains (Sc.lower s.data.toList) [60, 47, 112, 114, 101, 62])) ∧ w = w' := fun w hE => CT _ _ w hls hE
    have C3 : ∀ w, Env w → Calls Tryz.prog 63 #[.string (mk (Sc.lower s.data.toList)), .string ⟨#[60, 47, 115, 116, 121, 108, 101, 62]⟩] w fun e w' => e = .returned (.bool (Lib.contains (Sc.lower s.data.toList) [60, 47, 115, 116, 121, 108, 101, 62])) ∧ w = w' := fun w hE => CT _ _ w hls hE
    have C4 : ∀ w, Env w → Calls Tryz.prog 63 #[.string (mk (Sc.lower s.data.toList)), .string ⟨#[60, 47, 116, 101, 120, 116, 97, 114, 101, 97, 62]⟩] w fun e w' => e = .returned (.bool (Lib.contains (Sc.lower s.data.toList) [60, 47, 116, 101, 120, 116, 97, 114, 101, 97, 62])) ∧ w = w' := fun w hE => CT _ _ w hls hE
    clear CT
    generalize Sc.htmlEnds s.data.toList 1 = X at *
    generalize Lib.contains (Sc.lower s.data.toList) [60, 47, 115, 99, 114, 105, 112, 116, 62] = c1 at *
    generalize Lib.contains (Sc.lower s.data.toList) [60, 47, 112, 114, 101, 62] = c2 at *
    generalize Lib.contains (Sc.lower s.data.toList) [60, 47, 115, 116, 121, 108, 101, 62] = c3 at *
    generalize Lib.contains (Sc.lower s.data.toList) [60, 47, 116, 101, 120, 116, 97, 114, 101, 97, 62] = c4 at *
    generalize mk (Sc.lower s.data.toList) = ls at *
    have HF := Lib.hid F
    clear F
    go_enter Tryz.func25, Tryz.ntmps25
    go_wp2_with (go_at_call 62; (with_reducible refine (LW _).mono ?_); rintro e w1 ⟨rfl, b1⟩)
    have Bw := b1.alloc b1.size (.cells #[.string ⟨#[60, 47, 115, 99, 114, 105, 112, 116, 62]⟩, .string ⟨#[60, 47, 112, 114, 101, 62]⟩, .string ⟨#[60, 47, 115, 116, 121, 108, 101, 62]⟩, .string ⟨#[60, 47, 116, 101, 120, 116, 97, 114, 101, 97, 62]⟩] 9)
    have hE0 := hE.below Bw
    have C : ∀ j v, (#[.string ⟨#[60, 47, 115, 99, 114, 105, 112, 116, 62]⟩, .string ⟨#[60, 47, 112, 114, 101, 62]⟩, .string ⟨#[60, 47, 115, 116, 121, 108, 101, 62]⟩, .string ⟨#[60, 47, 116, 101, 120, 116, 97, 114, 101, 97, 62]⟩] : Array Value)[j]? = some v → (w1.alloc (.cells #[.string ⟨#[60, 47, 115, 99, 114, 105, 112, 116, 62]⟩, .string ⟨#[60, 47, 112, 114, 101, 62]⟩, .string ⟨#[60, 47, 115, 116, 121, 108, 101, 62]⟩, .string ⟨#[60, 47, 116, 101, 120, 116, 97, 114, 101, 97, 62]⟩] 9)).cell? ⟨w1.heap.size, j, none⟩ = some v := by
      intro j v h
      have := World.cell?_alloc_new w1 #[.string ⟨#[60, 47, 115, 99, 114, 105, 112, 116, 62]⟩, .string ⟨#[60, 47, 112, 114, 101, 62]⟩, .string ⟨#[60, 47, 115, 116, 121, 108, 101, 62]⟩, .string ⟨#[60, 47, 116, 101, 120, 116, 97, 114, 101, 97, 62]⟩] 9 j
      rw [this, h]
    have Q0 := C 0 _ rfl
    have Q1 := C 1 _ rfl
    have Q2 := C 2 _ rfl
    have Q3 := C 3 _ rfl
    clear C
    generalize hw0 : w1.alloc (.cells #[.string ⟨#[60, 47, 115, 99, 114, 105, 112, 116, 62]⟩, .string ⟨#[60, 47, 112, 114, 101, 62]⟩, .string ⟨#[60, 47, 115, 116, 121, 108, 101, 62]⟩, .string ⟨#[60, 47, 116, 101, 120, 116, 97, 114, 101, 97, 62]⟩] 9) = w0 at *
    clear hw0
    generalize w1.heap.size = g at *
    refine wp_loop_rounds 5 ?_
    rw [rounds_succ]
    cases c1 with
    | true =>
      go_wp2_with (go_at_call 63; (with_reducible refine (C1 _ hE0).mono ?_); rintro e w2 ⟨rfl, rfl⟩)
      go_ret
      exact ⟨ret_bool (by rw [HF.out] <;> simp), Bw⟩
    | false =>
      go_wp2_with (go_at_call 63; (with_reducible refine (C1 _ hE0).mono ?_); rintro e w2 ⟨rfl, rfl⟩)
      rw [rounds_succ]
      cases c2 with
      | true =>
        go_wp2_with (go_at_call 63; (with_reducible refine (C2 _ hE0).mono ?_); rintro e w2 ⟨rfl, rfl⟩)
        go_ret
        exact ⟨ret_bool (by rw [HF.out] <;> simp), Bw⟩
      | false =>
        go_wp2_with (go_at_call 63; (with_reducible refine (C2 _ hE0).mono ?_); rintro e w2 ⟨rfl, rfl⟩)
        rw [rounds_succ]
        cases c3 with
        | true =>
          go_wp2_with (go_at_call 63; (with_reducible refine (C3 _ hE0).mono ?_); rintro e w2 ⟨rfl, rfl⟩)
          go_ret
          exact ⟨ret_bool (by rw [HF.out] <;> simp), Bw⟩
        | false =>
          go_wp2_with (go_at_call 63; (with_reducible refine (C3 _ hE0).mono ?_); rintro e w2 ⟨rfl, rfl⟩)
          rw [rounds_succ]
          cases c4 with
          | true =>
            go_wp2_with (go_at_call 63; (with_reducible refine (C4 _ hE0).mono ?_); rintro e w2 ⟨rfl, rfl⟩)
            go_ret
            exact ⟨ret_bool (by rw [HF.out] <;> simp), Bw⟩
          | false =>
            go_wp2_with (go_at_call 63; (with_reducible refine (C4 _ hE0).mono ?_); rintro e w2 ⟨rfl, rfl⟩)
            rw [rounds_succ]
            go_wp2
            go_ret
            exact ⟨ret_bool (by rw [HF.out] <;> simp), Bw⟩
  have n1 : (k == 1) = false := by simpa using k1
  by_cases k2 : k = 2
  · subst k2
    have C1 : ∀ w, Env w → Calls Tryz.prog 63 #[.string s, .string ⟨#[45, 45, 62]⟩] w fun e w' => e = .returned (.bool (Lib.contains s.data.toList [45, 45, 62])) ∧ w = w' := fun w hE => CT _ _ w hs hE
    have F : Sc.htmlEnds s.data.toList 2 = Lib.contains s.data.toList [45, 45, 62] := rfl
    clear CT
    generalize Sc.htmlEnds s.data.toList 2 = X at *
    generalize Lib.contains s.data.toList [45, 45, 62] = c1 at *
    have HF := Lib.hid F
    clear F
    go_enter Tryz.func25, Tryz.ntmps25
    go_wp2
    have Bw := (Below.refl w.heap.size w).alloc (Nat.le_refl _) (.cells #[.string ⟨#[45, 45, 62]⟩] 9)
    have hE0 := hE.below Bw
    have C : ∀ j v, (#[.string ⟨#[45, 45, 62]⟩] : Array Value)[j]? = some v → (w.alloc (.cells #[.string ⟨#[45, 45, 62]⟩] 9)).cell? ⟨w.heap.size, j, none⟩ = some v := by
      intro j v h
      have := World.cell?_alloc_new w #[.string ⟨#[45, 45, 62]⟩] 9 j
      rw [this, h]
    have Q0 := C 0 _ rfl
    clear C
    generalize hw0 : w.alloc (.cells #[.string ⟨#[45, 45, 62]⟩] 9) = w0 at *
    clear hw0
    have hww : w.heap.size = w.heap.size := rfl
    refine wp_loop_rounds 2 ?_
    rw [rounds_succ]
    cases c1 with
    | true =>
      go_wp2_with (go_at_call 63; (with_reducible refine (C1 _ hE0).mono ?_); rintro e w2 ⟨rfl, rfl⟩)
      go_ret
      exact ⟨ret_bool (by rw [HF.out] <;> simp), Bw⟩
    | false =>
      go_wp2_with (go_at_call 63; (with_reducible refine (C1 _ hE0).mono ?_); rintro e w2 ⟨rfl, rfl⟩)
      rw [rounds_succ]
      go_wp2
      go_ret
      exact ⟨ret_bool (by rw [HF.out]), Bw⟩
  have n2 : (k == 2) = false := by simpa using k2
  by_cases k3 : k = 3
  · subst k3
    have C1 : ∀ w, Env w → Calls Tryz.prog 63 #[.string s, .string ⟨#[63, 62]⟩] w fun e w' => e = .returned (.bool (Lib.contains s.data.toList [63, 62])) ∧ w = w' := fun w hE => CT _ _ w hs hE
    have F : Sc.htmlEnds s.data.toList 3 = Lib.contains s.data.toList [63, 62] := rfl
    clear CT
    generalize Sc.htmlEnds s.data.toList 3 = X at *
    generalize Lib.contains s.data.toList [63, 62] = c1 at *
    have HF := Lib.hid F
    clear F
    go_enter Tryz.func25, Tryz.ntmps25
    go_wp2
    have Bw := (Below.refl w.heap.size w).alloc (Nat.le_refl _) (.cells #[.string ⟨#[63, 62]⟩] 9)
    have hE0 := hE.below Bw
    have C : ∀ j v, (#[.string ⟨#[63, 62]⟩] : Array Value)[j]? = some v → (w.alloc (.cells #[.string ⟨#[63, 62]⟩] 9)).cell? ⟨w.heap.size, j, none⟩ = some v := by
      intro j v h
      have := World.cell?_alloc_new w #[.string ⟨#[63, 62]⟩] 9 j
      rw [this, h]
    have Q0 := C 0 _ rfl
    clear C
    generalize hw0 : w.alloc (.cells #[.string ⟨#[63, 62]⟩] 9) = w0 at *
    clear hw0
    have hww : w.heap.size = w.heap.size := rfl
    refine wp_loop_rounds 2 ?_
    rw [rounds_succ]
    cases c1 with
    | true =>
      go_wp2_with (go_at_call 63; (with_reducible refine (C1 _ hE0).mono ?_); rintro e w2 ⟨rfl, rfl⟩)
      go_ret
      exact ⟨ret_bool (by rw [HF.out] <;> simp), Bw⟩
    | false =>
      go_wp2_with (go_at_call 63; (with_reducible refine (C1 _ hE0).mono ?_); rintro e w2 ⟨rfl, rfl⟩)
      rw [rounds_succ]
      go_wp2
      go_ret
      exact ⟨ret_bool (by rw [HF.out]), Bw⟩
  have n3 : (k == 3) = false := by simpa using k3
  by_cases k4 : k = 4
  · subst k4
    have C1 : ∀ w, Env w → Calls Tryz.prog 63 #[.string s, .string ⟨#[62]⟩] w fun e w' => e = .returned (.bool (Lib.contains s.data.toList [62])) ∧ w = w' := fun w hE => CT _ _ w hs hE
    have F : Sc.htmlEnds s.data.toList 4 = Lib.contains s.data.toList [62] := rfl
    clear CT
    generalize Sc.htmlEnds s.data.toList 4 = X at *
    generalize Lib.contains s.data.toList [62] = c1 at *
    have HF := Lib.hid F
    clear F
    go_enter Tryz.func25, Tryz.ntmps25
    go_wp2
    have Bw := (Below.refl w.heap.size w).alloc (Nat.le_refl _) (.cells #[.string ⟨#[62]⟩] 9)
    have hE0 := hE.below Bw
    have C : ∀ j v, (#[.string ⟨#[62]⟩] : Array Value)[j]? = some v → (w.alloc (.cells #[.string ⟨#[62]⟩] 9)).cell? ⟨w.heap.size, j, none⟩ = some v := by
      intro j v h
      have := World.cell?_alloc_new w #[.string ⟨#[62]⟩] 9 j
      rw [this, h]
    have Q0 := C 0 _ rfl
    clear C
    generalize hw0 : w.alloc (.cells #[.string ⟨#[62]⟩] 9) = w0 at *
    clear hw0
    have hww : w.heap.size = w.heap.size := rfl
    refine wp_loop_rounds 2 ?_
    rw [rounds_succ]
    cases c1 with
    | true =>
      go_wp2_with (go_at_call 63; (with_reducible refine (C1 _ hE0).mono ?_); rintro e w2 ⟨rfl, rfl⟩)
      go_ret
      exact ⟨ret_bool (by rw [HF.out] <;> simp), Bw⟩
    | false =>
      go_wp2_with (go_at_call 63; (with_reducible refine (C1 _ hE0).mono ?_); rintro e w2 ⟨rfl, rfl⟩)
      rw [rounds_succ]
      go_wp2
      go_ret
      exact ⟨ret_bool (by rw [HF.out]), Bw⟩
  have n4 : (k == 4) = false := by simpa using k4
  by_cases k5 : k = 5
  · subst k5
    have C1 : ∀ w, Env w → Calls Tryz.prog 63 #[.string s, .string ⟨#[93, 93, 62]⟩] w fun e w' => e = .returned (.bool (Lib.contains s.data.toList [93, 93, 62])) ∧ w = w' := fun w hE => CT _ _ w hs hE
    have F : Sc.htmlEnds s.data.toList 5 = Lib.contains s.data.toList [93, 93, 62] := rfl
    clear CT
    generalize Sc.htmlEnds s.data.toList 5 = X at *
    generalize Lib.contains s.data.toList [93, 93, 62] = c1 at *
    have HF := Lib.hid F
    clear F
    go_enter Tryz.func25, Tryz.ntmps25
    go_wp2
    have Bw := (Below.refl w.heap.size w).alloc (Nat.le_refl _) (.cells #[.string ⟨#[93, 93, 62]⟩] 9)
    have hE0 := hE.below Bw
    have C : ∀ j v, (#[.string ⟨#[93, 93, 62]⟩] : Array Value)[j]? = some v → (w.alloc (.cells #[.string ⟨#[93, 93, 62]⟩] 9)).cell? ⟨w.heap.size, j, none⟩ = some v := by
      intro j v h
      have := World.cell?_alloc_new w #[.string ⟨#[93, 93, 62]⟩] 9 j
      rw [this, h]
    have Q0 := C 0 _ rfl
    clear C
    generalize hw0 : w.alloc (.cells #[.string ⟨#[93, 93, 62]⟩] 9) = w0 at *
    clear hw0
    have hww : w.heap.size = w.heap.size := rfl
    refine wp_loop_rounds 2 ?_
    rw [rounds_succ]
    cases c1 with
    | true =>
      go_wp2_with (go_at_call 63; (with_reducible refine (C1 _ hE0).mono ?_); rintro e w2 ⟨rfl, rfl⟩)
      go_ret
      exact ⟨ret_bool (by rw [HF.out] <;> simp), Bw⟩
    | false =>
      go_wp2_with (go_at_call 63; (with_reducible refine (C1 _ hE0).mono ?_); rintro e w2 ⟨rfl, rfl⟩)
      rw [rounds_succ]
      go_wp2
      go_ret
      exact ⟨ret_bool (by rw [HF.out]), Bw⟩
  have n5 : (k == 5) = false := by simpa using k5
  by_cases k6 : k = 6
  · subst k6
    have BL := fun w => blank_any s w hs
    have F := Lib.hid (show Sc.htmlEnds s.data.toList 6 = Sc.blanks s.data.toList from rfl)
    go_enter Tryz.func25, Tryz.ntmps25
    go_wp2_with (go_at_call 50; (with_reducible refine (BL _).mono ?_); rintro e w1 ⟨rfl, b1⟩)
    go_ret
    exact ⟨by rw [F.out]; rfl, b1⟩
  have n6 : (k == 6) = false := by simpa using k6
  by_cases k7 : k = 7
  · subst k7
    have BL := fun w => blank_any s w hs
    have F := Lib.hid (show Sc.htmlEnds s.data.toList 7 = Sc.blanks s.data.toList from rfl)
    go_enter Tryz.func25, Tryz.ntmps25
    go_wp2_with (go_at_call 50; (with_reducible refine (BL _).mono ?_); rintro e w1 ⟨rfl, b1⟩)
    go_ret
    exact ⟨by rw [F.out]; rfl, b1⟩
  have n7 : (k == 7) = false := by simpa using k7
  have F := Lib.hid (show Sc.htmlEnds s.data.toList k = false by unfold Sc.htmlEnds; rw [if_neg k1, if_neg k2, if_neg k3, if_neg k4, if_neg k5, if_neg (by rintro (h | h); exact k6 h; exact k7 h)])
  clear CT k1 k2 k3 k4 k5 k6 k7
  go_enter Tryz.func25, Tryz.ntmps25
  go_wp2
  refine wp_loop_rounds 1 ?_
  rw [rounds_succ]
  go_wp2
  go_ret
  exact ⟨by rw [F.out]; rfl, Below.refl _ _⟩
end Go.Proofs.YtokhibghnpcogaaGreatDoor
