/- Walks of the scanner's methods: an attribute's value. -/
import Derived.Test.YtokhibghnpcogaaGreatDoorTag4
import Derived.Lib.SlBytesConst
open Go Go.RowKit
set_option linter.unusedVariables false
set_option maxRecDepth 100000
namespace Go.Proofs.YtokhibghnpcogaaGreatDoor
open Wk
theorem sign_lit (g : Nat) (s : ByteArray) (n : Nat) (hn : n < 256) (w : World) (h : At 35 g s w) :
    Calls Tryz.prog 27 #[.pointer (some ⟨g, 0, none⟩), .int .u8 (n : Int)] w (Left g w (Sc.sign n.toUInt8 s.data.toList)) := by
  have e : ((n.toUInt8).toNat : Int) = (n : Int) := by simp; omega
  have := sign_any g s n.toUInt8 w h
  rwa [e] at this
theorem same_text {r s : ByteArray} (h : r.data.toList = s.data.toList) : r = s := by
  cases r; cases s; congr; exact Array.toList_inj.1 h
theorem sign_false {c : UInt8} {l : List UInt8} (h : ∀ t, l ≠ c :: t) : Sc.sign c l = (false, l) := by
  cases l with
  | nil => rfl
  | cons b t => rw [Sc.sign, if_neg (fun e => h t (by rw [e]))]
def valueBare (l : List UInt8) : Option (List UInt8) := if 0 < (l.takeWhile Sc.bare).length then some (l.dropWhile Sc.bare) else none
theorem valueBare_some (l : List UInt8) : decide (0 < (l.takeWhile Sc.bare).length) = (valueBare l).isSome := by unfold valueBare; split <;> simp [*]
theorem valueBare_rest {l t : List UInt8} (h : valueBare l = some t) : l.dropWhile Sc.bare = t := by unfold valueBare at h; split at h <;> cases h; rfl
theorem value_none {l : List UInt8} (h1 : ∀ t, l ≠ 34 :: t) (h2 : ∀ t, l ≠ 39 :: t) : Sc.value l = valueBare l := by
  unfold valueBare
  cases l with
  | nil => rfl
  | cons b t =>
    rw [Sc.value, if_neg (fun e => h1 t (by rw [e])), if_neg (fun e => h2 t (by rw [e])), List.takeWhile_cons, List.dropWhile_cons]
    cases Sc.bare b <;> simp
set_option maxHeartbeats 1000000 in
theorem value_any (g : Nat) (s : ByteArray) (w : World) (hs : Small s) (h : At 35 g s w) :
    Calls Tryz.prog 69 #[.pointer (some ⟨g, 0, none⟩)] w (LeftO g w (Sc.value s.data.toList)) := by
  have kc := fun (w : World) (C : Array Value) (n c : Nat) => Lib.run_convert_bytes_const (P := Tryz.prog) w 51 5 C n c Tryz.underlying51 Tryz.underlying5
  have hA := h.alloc (.cells #[.int .u8 34, .int .u8 39] 5 (2, 3))
  have hB : But g w (w.alloc (.cells #[.int .u8 34, .int .u8 39] 5 (2, 3))) := But.refl.alloc _
  have hlt := h.lt
  have hq : (w.alloc (.cells #[.int .u8 34, .int .u8 39] 5 (2, 3))).heap[w.heap.size]? = some (.cells #[.int .u8 34, .int .u8 39] 5 (2, 3)) := by show (w.heap.push _)[w.heap.size]? = _; simp
  have hsz : (w.alloc (.cells #[.int .u8 34, .int .u8 39] 5 (2, 3))).heap.size = w.heap.size + 1 := by simp
  have q0 : ∀ (W : World), But g (w.alloc (.cells #[.int .u8 34, .int .u8 39] 5 (2, 3))) W → W.cell? ⟨w.heap.size, 1, none⟩ = some (.int .u8 39) := fun W b => (cell_blk ((b.block w.heap.size (by omega) (by omega)).trans hq) 1).trans rfl
  have Q0 := Lib.hid q0
  clear q0
  have Q1 : (w.alloc (.cells #[.int .u8 34, .int .u8 39] 5 (2, 3))).cell? ⟨w.heap.size, 0, none⟩ = some (.int .u8 34) := (cell_blk hq 0).trans rfl
  clear hq
  by_cases h34 : ∃ t, s.data.toList = 34 :: t
  · obtain ⟨t, ht⟩ := h34
    have E1 : Sc.sign (34 : Nat).toUInt8 s.data.toList = (true, t) := by rw [ht]; rfl
    have E2 : Sc.value s.data.toList = Sc.behind 34 t := by rw [ht]; rfl
    have hl : t.length ≤ s.size := by rw [← Sc.len_size, ht]; simp
    rw [E2]
    clear E2 ht
    have E1' := Lib.hid E1
    clear E1
    go_enter Tryz.func69, Tryz.ntmps69
    go_wp2
    refine wp_loop_rounds 3 ?_
    rw [rounds_succ]
    go_wp2_with (first
      | (go_at_call 27; refine (sign_lit g s 34 (by decide) _ hA).mono ?_; rw [E1'.out]; rintro e w1 ⟨r, rfl, hr, h1, b1⟩)
      | (go_at_call 88; refine (quoted_any g r 34 _ (by unfold Small at *; rw [← Sc.len_size, hr]; omega) h1).mono ?_; rw [hr]; rintro e w2 ⟨r2, rfl, hr2, hz2, h2, b2⟩))
    go_ret
    exact ⟨r2, rfl, hr2, hz2, h2, hB.trans (b1.trans b2)⟩
  · by_cases h39 : ∃ t, s.data.toList = 39 :: t
    · obtain ⟨t, ht⟩ := h39
      have E0 : Sc.sign (34 : Nat).toUInt8 s.data.toList = (false, s.data.toList) := by rw [ht]; rfl
      have E1 : Sc.sign (39 : Nat).toUInt8 s.data.toList = (true, t) := by rw [ht]; rfl
      have E2 : Sc.value s.data.toList = Sc.behind 39 t := by rw [ht]; rfl
      have hl : t.length ≤ s.size := by rw [← Sc.len_size, ht]; simp
      rw [E2]
      clear E2 ht h34
      have E0' := Lib.hid E0
      have E1' := Lib.hid E1
      clear E0 E1
      go_enter Tryz.func69, Tryz.ntmps69
      go_wp2
      refine wp_loop_rounds 3 ?_
      rw [rounds_succ]
      go_wp2_with (go_at_call 27; refine (sign_lit g s 34 (by decide) _ hA).mono ?_; rw [E0'.out]; rintro e w1 ⟨r, rfl, hr, h1, b1⟩; obtain rfl := same_text hr; have hc39 := Q0.out _ b1)
      rw [rounds_succ]
      go_wp2_with (first
        | (go_at_call 27; refine (sign_lit g _ 39 (by decide) _ h1).mono ?_; rw [E1'.out]; rintro e w2 ⟨r2, rfl, hr2, h2, b2⟩)
        | (go_at_call 88; refine (quoted_any g r2 39 _ (by unfold Small at *; rw [← Sc.len_size, hr2]; omega) h2).mono ?_; rw [hr2]; rintro e w3 ⟨r3, rfl, hr3, hz3, h3, b3⟩))
      go_ret
      exact ⟨r3, rfl, hr3, hz3, h3, hB.trans (b1.trans (b2.trans b3))⟩
    · have E0 := Lib.hid (sign_false (c := 34) (l := s.data.toList) (fun t ht => h34 ⟨t, ht⟩))
      have E1 := Lib.hid (sign_false (c := 39) (l := s.data.toList) (fun t ht => h39 ⟨t, ht⟩))
      rw [value_none (fun t ht => h34 ⟨t, ht⟩) (fun t ht => h39 ⟨t, ht⟩)]
      clear h34 h39
      go_enter Tryz.func69, Tryz.ntmps69
      go_wp2
      refine wp_loop_rounds 3 ?_
      rw [rounds_succ]
      go_wp2_with (go_at_call 27; refine (sign_lit g s 34 (by decide) _ hA).mono ?_; rw [show Sc.sign (34 : Nat).toUInt8 s.data.toList = _ from E0.out]; rintro e w1 ⟨r, rfl, hr, h1, b1⟩; obtain rfl := same_text hr; have hc39 := Q0.out _ b1)
      rw [rounds_succ]
      go_wp2_with (go_at_call 27; refine (sign_lit g _ 39 (by decide) _ h1).mono ?_; rw [show Sc.sign (39 : Nat).toUInt8 r.data.toList = _ from E1.out]; rintro e w2 ⟨r2, rfl, hr2, h2, b2⟩; obtain rfl := same_text hr2)
      rw [rounds_succ]
      go_wp2_with (go_at_call 67; refine (while_bare g _ _ hs h2).mono ?_; rintro e w3 ⟨r3, rfl, hr3, h3, b3⟩)
      go_ret
      exact ⟨r3, ret_bool (valueBare_some _), (fun t ht => hr3.trans (valueBare_rest ht)), Nat.le_trans (dropWhile_size hr3) hs, h3, hB.trans (b1.trans (b2.trans b3))⟩
end Go.Proofs.YtokhibghnpcogaaGreatDoor
