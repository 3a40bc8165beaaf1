/- The walks of the reference's Begins, among, raws and blocks. -/
import Derived.Test.YtokhibghnpcogaaGreatDoorRefJ
import Derived.Test.YtokhibghnpcogaaGreatDoorHtml4
open Go Go.RowKit
set_option linter.unusedVariables false
set_option linter.unusedSimpArgs false
set_option maxRecDepth 100000
namespace Go.Proofs.YtokhibghnpcogaaGreatDoor
open Wk
theorem begins_r (s t : ByteArray) (w : World) (hs : Small s) (ht : Small t) :
    Calls Tryz.prog 59 #[.string s, .string t] w fun e w' => e = .returned (.bool (Lib.hasPrefix s.data.toList t.data.toList)) ∧ w = w' := by
  have hP : Lib.hasPrefix s.data.toList t.data.toList = Lib.occAt s.data.toList t.data.toList 0 := by unfold Lib.hasPrefix Lib.occAt; simp
  rw [hP]
  clear hP
  unfold Small at hs ht
  by_cases hp : 0 + t.size ≤ s.size
  · have O := occ_of_slice hp
    rw [Nat.zero_add] at O hp
    rw [O]
    clear O
    generalize hq : ((s.extract 0 t.size).toList == t.toList) = q
    go_enter Tryz.func59, Tryz.ntmps59
    go_wp2
    go_ret
    exact ⟨rfl, rfl⟩
  · have O : Lib.occAt s.data.toList t.data.toList 0 = false := by
      cases ho : Lib.occAt s.data.toList t.data.toList 0 with
      | false => rfl
      | true =>
        rcases Lib.occAt_room ho with h | h
        · rw [Sc.len_size, Sc.len_size] at h; omega
        · have h2 : t.size = 0 := by rw [← Sc.len_size, h]; rfl
          omega
    rw [O]
    clear O
    go_enter Tryz.func59, Tryz.ntmps59
    go_wp2
    go_ret
    exact ⟨rfl, rfl⟩
/-- Block g holds these texts. -/
structure Strs (g : Nat) (L : List (List UInt8)) (w : World) : Prop where
  blk : ∃ T fr, w.heap[g]? = some (.cells (L.map fun x => Value.string (mk x)).toArray T fr)
theorem strs_cell {g : Nat} {L : List (List UInt8)} {w : World} (h : Strs g L w) (j : Nat) (hj : j < L.length) : w.cell? ⟨g, j, none⟩ = some (.string (mk L[j])) := by
  obtain ⟨T, fr, h1⟩ := h.blk
  rw [cell_blk h1]
  simp [hj]
theorem among_r (s : ByteArray) (g : Nat) (L : List (List UInt8)) (cap : Nat) (w : World) (h : Strs g L w) (hL : L.length ≤ 1000) :
    Calls Tryz.prog 57 #[.string s, .slice (some ⟨g, 0, none⟩) L.length cap] w fun e w' => e = .returned (.bool (L.contains s.data.toList)) ∧ w = w' := by
  generalize hX : L.contains s.data.toList = X
  have HX := Lib.hid hX.symm
  clear hX
  have HC := Lib.hid (strs_cell h)
  clear h
  obtain ⟨n, hn⟩ : ∃ n, L.length = n := ⟨_, rfl⟩
  rw [hn] at hL ⊢
  have HN := Lib.hid hn
  clear hn
  go_enter Tryz.func57, Tryz.ntmps57
  go_wp2
  go_loop [5] (fun i => ∃ k : Nat, i = .int .i64 k ∧ k ≤ n ∧ Hid (X = (L.drop k).contains s.data.toList)) (fun i => n - (intOf i).toNat)
  case atStart => exact ⟨0, rfl, Nat.zero_le _, Lib.hid HX.out⟩
  case round =>
    obtain ⟨k, rfl, hk, HK⟩ := hrel
    by_cases hp : k < n
    · have hpl : k < L.length := by rw [HN.out]; exact hp
      have hc := HC.out k hpl
      have ST : (L.drop k).contains s.data.toList = (s.data.toList == L[k] || (L.drop (k + 1)).contains s.data.toList) := by
        rw [List.drop_eq_getElem_cons hpl, List.contains_cons]
      generalize hx : L[k] = x at *
      clear hx
      have hq : ((mk x).toList == s.toList) = (s.data.toList == x) := by rw [toList_data, toList_data, mk_data, Bool.eq_iff_iff, beq_iff_eq, beq_iff_eq]; exact eq_comm
      cases hb : (s.data.toList == x) with
      | true =>
        have F := Lib.hid (show X = true by rw [HK.out, ST, hb]; rfl)
        rw [hb] at hq
        clear ST hb
        go_wp2
        go_ret
        exact ⟨by rw [F.out]; rfl, rfl⟩
      | false =>
        have HK2 := Lib.hid (show X = (L.drop (k + 1)).contains s.data.toList by rw [HK.out, ST, hb, Bool.false_or])
        rw [hb] at hq
        clear ST hb
        go_wp2
        go_round
        case rel => exact ⟨k + 1, by go_num, hp, HK2⟩
        case measure => simp [intOf]; omega
    · have F := Lib.hid (show X = false by
        rw [HK.out, List.drop_eq_nil_of_le (by rw [HN.out]; omega)]; rfl)
      go_wp2
      go_ret
      exact ⟨by rw [F.out]; rfl, rfl⟩
theorem raws_r (w : World) :
    Calls Tryz.prog 58 #[] w fun e w' => e = .returned (.slice (some ⟨w.heap.size, 0, none⟩) 4 4) ∧ Strs w.heap.size Sc.raws w' ∧ Below w.heap.size w w' := by
  go_enter Tryz.func58, Tryz.ntmps58
  go_wp2
  go_ret
  exact ⟨rfl, ⟨_, _, by show (w.heap.push _)[w.heap.size]? = _; rw [Array.getElem?_push_size]; rfl⟩, (Below.refl _ _).alloc (Nat.le_refl _) _⟩
theorem blocks_r (w : World) :
    Calls Tryz.prog 61 #[] w fun e w' => e = .returned (.slice (some ⟨w.heap.size, 0, none⟩) 62 62) ∧ Strs w.heap.size Sc.blocks w' ∧ Below w.heap.size w w' := by
  go_enter Tryz.func61, Tryz.ntmps61
  go_wp2
  go_ret
  exact ⟨rfl, ⟨_, _, by show (w.heap.push _)[w.heap.size]? = _; rw [Array.getElem?_push_size]; rfl⟩, (Below.refl _ _).alloc (Nat.le_refl _) _⟩
end Go.Proofs.YtokhibghnpcogaaGreatDoor
