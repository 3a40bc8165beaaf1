/- The walk of scan.lower; a block of bytes. -/
import Derived.Test.YtokhibghnpcogaaGreatDoorLine5
import Derived.Lib.ConvBytes
import Derived.Laws.IdiomStrings
open Go Go.RowKit
set_option linter.unusedVariables false
set_option maxRecDepth 100000
namespace Go.Proofs.YtokhibghnpcogaaGreatDoor
open Wk
/-- Block g begins with these bytes. -/
structure Bytes (g : Nat) (bs : List UInt8) (w : World) : Prop where
  blk : ∃ cs T fr, w.heap[g]? = some (.cells cs T fr) ∧ bs.length ≤ fr.1 ∧ bs.length ≤ cs.size ∧ ∀ j (h : j < bs.length), cs[j]? = some (.int .u8 bs[j].toNat)
theorem Bytes.lt {g : Nat} {bs : List UInt8} {w : World} (h : Bytes g bs w) : g < w.heap.size := by
  obtain ⟨cs, T, fr, h1, _⟩ := h.blk
  exact (Array.getElem?_eq_some_iff.1 h1).1
theorem Bytes.cell {g : Nat} {bs : List UInt8} {w : World} (h : Bytes g bs w) (j : Nat) (hj : j < bs.length) : w.cell? ⟨g, j, none⟩ = some (.int .u8 bs[j].toNat) := by
  obtain ⟨cs, T, fr, h1, _, _, h2⟩ := h.blk
  rw [cell_blk h1, h2 j hj]
theorem Bytes.free {g : Nat} {bs : List UInt8} {w : World} (h : Bytes g bs w) (j : Nat) (hj : j < bs.length) : w.frozen? ⟨g, j, none⟩ = false := by
  obtain ⟨cs, T, fr, h1, h2, _⟩ := h.blk
  unfold World.frozen?
  rw [h1]
  simp
  intro h; omega
theorem Bytes.set {g : Nat} {bs : List UInt8} {w : World} (h : Bytes g bs w) (j : Nat) (hj : j < bs.length) (b : UInt8) : Bytes g (bs.set j b) (w.setCell ⟨g, j, none⟩ (.int .u8 b.toNat)) := by
  obtain ⟨cs, T, fr, h1, h2, h3, h4⟩ := h.blk
  refine ⟨cs.setIfInBounds j (.int .u8 b.toNat), T, fr, by simp [World.setCell, Array.getElem?_modify, h1], by simpa using h2, by simpa using h3, fun i hi => ?_⟩
  simp only [List.length_set] at hi
  rw [Array.getElem?_setIfInBounds]
  by_cases e : j = i
  · subst e
    rw [if_pos rfl, if_pos (by omega)]
    simp
  · rw [if_neg e, h4 i hi, List.getElem_set_ne e]
theorem Bytes.below {g : Nat} {bs : List UInt8} {w w' : World} (h : Bytes g bs w) (hb : Below w.heap.size w w') : Bytes g bs w' := by
  obtain ⟨cs, T, fr, h1, h2⟩ := h.blk
  exact ⟨cs, T, fr, (hb.block g h.lt).trans h1, h2⟩
theorem Bytes.conv (w : World) (s : ByteArray) : Bytes w.heap.size s.data.toList (Lib.bytesWorld w 5 s) := by
  refine ⟨_, _, _, Lib.bytesWorld_at_new w 5 s, ?_, ?_, fun j hj => ?_⟩
  · show s.data.toList.length ≤ (Lib.bytesCells w 5 s).size
    simp [Lib.bytesCells]
  · simp [Lib.bytesCells]
  · have hj' : j < s.size := by simpa using hj
    simp [Lib.bytesCells, Array.getElem?_append, hj']
namespace Sc
def low (b : UInt8) : UInt8 := if letter b then b ||| 32 else b
def lower (l : List UInt8) : List UInt8 := l.map low
def lowTo (k : Nat) (l : List UInt8) : List UInt8 := (l.take k).map low ++ l.drop k
theorem lowTo_len (k : Nat) (l : List UInt8) : (lowTo k l).length = l.length := by unfold lowTo; simp; omega
theorem lowTo_get (k : Nat) (l : List UInt8) (i : Nat) : (lowTo k l)[i]? = l[i]?.map fun b => if i < k then low b else b := by
  unfold lowTo
  rw [List.getElem?_append]
  simp only [List.length_map, List.length_take, List.getElem?_map, List.getElem?_take, List.getElem?_drop]
  by_cases h : i < k
  · by_cases hl : i < l.length
    · rw [if_pos (by omega), if_pos h]; simp only [if_pos h]
    · rw [if_neg (by omega), List.getElem?_eq_none (by omega), List.getElem?_eq_none (by omega)]; rfl
  · rw [if_neg (by omega)]
    by_cases hl : k ≤ l.length
    · have e : k + (i - min k l.length) = i := by omega
      rw [e]
      cases l[i]? <;> simp [h]
    · rw [List.getElem?_eq_none (by omega), List.getElem?_eq_none (by omega)]; rfl
theorem lowTo_step (k : Nat) (l : List UInt8) (h : k < l.length) : lowTo (k + 1) l = (lowTo k l).set k (low l[k]) := by
  apply List.ext_getElem?
  intro i
  rw [lowTo_get, List.getElem?_set, lowTo_len, lowTo_get]
  by_cases e : k = i
  · subst e; rw [if_pos rfl, if_pos h, List.getElem?_eq_getElem h]; simp
  · rw [if_neg e]
    have : (i < k + 1) ↔ (i < k) := by omega
    simp only [this]
theorem lowTo_at (k : Nat) (l : List UInt8) (h : k < l.length) : (lowTo k l)[k]'(by rw [lowTo_len]; exact h) = l[k] := by
  have := lowTo_get k l k
  rw [List.getElem?_eq_getElem (by rw [lowTo_len]; exact h), List.getElem?_eq_getElem h] at this
  simpa using this
theorem lowTo_all (l : List UInt8) : lowTo l.length l = lower l := by unfold lowTo lower; simp
theorem lowTo_zero (l : List UInt8) : lowTo 0 l = l := by unfold lowTo; simp
end Sc
theorem low_bits (b : UInt8) (h : Sc.letter b = true) : bits .or .u8 (b.toNat : Int) 32 = ((Sc.low b).toNat : Int) := by
  have key : ∀ n : Fin 256, Sc.letter n.val.toUInt8 = true → bits .or .u8 (n.val : Int) 32 = ((Sc.low n.val.toUInt8).toNat : Int) := by decide +kernel
  have := key ⟨b.toNat, b.toNat_lt⟩
  simp only [Nat.toUInt8, UInt8.ofNat_toNat] at this
  exact this h
theorem lower_any (s : ByteArray) (w : World) (hs : Small s) :
    Calls Tryz.prog 62 #[.string s] w fun e w' => e = .returned (.string (mk (Sc.lower s.data.toList))) ∧ Below w.heap.size w w' := by
  have kc := Lib.run_convert_string_bytes (P := Tryz.prog) w 9 51 5 s Tryz.underlying9 Tryz.underlying51 Tryz.underlying5
  have hB := Bytes.conv w s
  have hb := Lib.bytesWorld_below w 5 s
  have hz := Lib.bytesWorld_size w 5 s
  generalize Lib.bytesWorld w 5 s = w1 at *
  generalize grownCap w s.size 0 5 = cap at *
  have hl := Sc.len_size s
  unfold Small at hs
  go_enter Tryz.func62, Tryz.ntmps62
  go_wp2
  go_loopw [4, 5, 10] (fun _ _ i wr => ∃ k : Nat, i = .int .i64 k ∧ k ≤ s.size ∧ Bytes w.heap.size (Sc.lowTo k s.data.toList) wr ∧ Below w.heap.size w wr) (fun _ _ i _ => s.size - (intOf i).toNat)
  case atStart => exact ⟨0, rfl, Nat.zero_le _, by rw [Sc.lowTo_zero]; exact hB, hb⟩
  case round =>
    obtain ⟨k, rfl, hk, hR, hbr⟩ := hrel
    by_cases hp : k < s.size
    · have hkl : k < s.data.toList.length := by omega
      have hc := hR.cell k (by rw [Sc.lowTo_len]; exact hkl)
      rw [Sc.lowTo_at k _ hkl] at hc
      have hf := hR.free k (by rw [Sc.lowTo_len]; exact hkl)
      have hst := Lib.hid (Sc.lowTo_step k s.data.toList hkl)
      have hR2 := hR.set k (by rw [Sc.lowTo_len]; exact hkl) (Sc.low s.data.toList[k])
      generalize hbe : s.data.toList[k] = b at *
      have hbe := Lib.hid hbe
      cases hq : Sc.letter b with
      | true =>
        have hlb := low_bits b hq
        go_wp2_with (go_at_call 53; (with_reducible refine (letter_b b _).mono ?_); rintro e w2 ⟨rfl, rfl⟩)
        go_roundw
        case rel => exact ⟨k + 1, by go_num, by omega, by rw [hst.out]; exact hR2, hbr.setCell (Nat.le_refl _) _⟩
        case measure => simp [intOf]; omega
      | false =>
        have hlb : Sc.low b = b := by unfold Sc.low; rw [hq]; rfl
        have hR3 : Bytes w.heap.size (Sc.lowTo (k + 1) s.data.toList) wr := by
          rw [hst.out, hlb]
          have e : (Sc.lowTo k s.data.toList).set k b = Sc.lowTo k s.data.toList := by
            apply List.ext_getElem?
            intro i
            rw [List.getElem?_set, Sc.lowTo_len]
            by_cases e : k = i
            · subst e
              rw [if_pos rfl, if_pos hkl, List.getElem?_eq_getElem (by rw [Sc.lowTo_len]; exact hkl), Sc.lowTo_at k _ hkl, hbe.out]
            · rw [if_neg e]
          rw [e]; exact hR
        clear hR2 hst
        go_wp2_with (go_at_call 53; (with_reducible refine (letter_b b _).mono ?_); rintro e w2 ⟨rfl, rfl⟩)
        go_roundw
        case rel => exact ⟨k + 1, by go_num, by omega, hR3, hbr⟩
        case measure => simp [intOf]; omega
    · have hk' : k = s.data.toList.length := by omega
      have hcv : (convert 51 9 (.slice (some ⟨w.heap.size, 0, none⟩) s.size cap)).run Tryz.prog wr = .ok (.string (mk (Sc.lower s.data.toList))) wr := by
        have hlen : (Sc.lower s.data.toList).length = s.size := by unfold Sc.lower; simp
        rw [hk', Sc.lowTo_all] at hR
        have := run_convert_bytes_back (P := Tryz.prog) wr 51 9 5 ⟨w.heap.size, 0, none⟩ cap (Sc.lower s.data.toList) Tryz.underlying51 Tryz.underlying5 Tryz.underlying9 (fun j hj => by
          have e : (⟨w.heap.size, 0, none⟩ : Addr).add j = ⟨w.heap.size, j, none⟩ := by unfold Addr.add; split <;> simp_all
          rw [e, hR.cell j hj])
        rw [hlen] at this
        exact this
      clear hk'
      go_wp2
      go_ret
      exact ⟨rfl, hbr⟩
end Go.Proofs.YtokhibghnpcogaaGreatDoor
