/- Small words for the walks of this seat: a struct's one string in its block, a world that is as it was but for one block, closers. -/
import Derived.Test.YtokhibghnpcogaaGreatDoorProg
import Derived.WalkKit
import Derived.WalkSpells
import Derived.WalkLawsBesides
import Derived.Handy
import Derived.Deep.LoopGhost
import Derived.Deep.QuietTactic
import Derived.BigQuiet
import Derived.Deep.RegionHeld3
import Derived.Lib.Hide
import Derived.Laws.RangeString
import Derived.Lib.OthersKept
open Go Go.RowKit
namespace Go.Proofs.YtokhibghnpcogaaGreatDoor
namespace Wk

/-- Block g holds one string. -/
structure At (T g : Nat) (s : ByteArray) (w : World) : Prop where
  blk : w.heap[g]? = some (.cells #[.string s] T (0, 0))
/-- w' is w but for block g, and with more blocks. -/
structure But (g : Nat) (w w' : World) : Prop where
  os : w'.os = w.os
  tape : w'.tape = w.tape
  output : w'.output = w.output
  size : w.heap.size ≤ w'.heap.size
  block : ∀ k, k < w.heap.size → k ≠ g → w'.heap[k]? = w.heap[k]?

variable {T g : Nat} {s : ByteArray} {w w' w'' : World}
theorem At.lt (h : At T g s w) : g < w.heap.size := (Array.getElem?_eq_some_iff.1 h.blk).1
theorem At.cell (h : At T g s w) : w.cell? ⟨g, 0, none⟩ = some (.string s) := by simp [World.cell?, h.blk]
theorem At.free (h : At T g s w) : w.frozen? ⟨g, 0, none⟩ = false := by simp [World.frozen?, h.blk]
theorem At.set (h : At T g s w) (r : ByteArray) : At T g r (w.setCell ⟨g, 0, none⟩ (.string r)) := ⟨by simp [World.setCell, Array.getElem?_modify, h.blk]⟩
theorem At.drew (h : At T g s w) : At T g s w.drew := ⟨h.blk⟩
theorem At.alloc (h : At T g s w) (o : Obj) : At T g s (w.alloc o) := ⟨by rw [Below.heap_alloc w o g h.lt]; exact h.blk⟩
theorem At.below (h : At T g s w) (hb : Below w.heap.size w w') : At T g s w' := ⟨(hb.block g h.lt).trans h.blk⟩
theorem At.new (w : World) (T : Nat) (s : ByteArray) : At T w.heap.size s (w.alloc (.cells #[.string s] T)) := ⟨by show (w.heap.push _)[w.heap.size]? = _; simp⟩

theorem But.refl : But g w w := ⟨rfl, rfl, rfl, Nat.le_refl _, fun _ _ _ => rfl⟩
theorem But.trans (a : But g w w') (b : But g w' w'') : But g w w'' :=
  ⟨b.os.trans a.os, b.tape.trans a.tape, b.output.trans a.output, Nat.le_trans a.size b.size, fun k h n => (b.block k (Nat.lt_of_lt_of_le h a.size) n).trans (a.block k h n)⟩
theorem But.set (a : But g w w') (o : Nat) (v : Value) : But g w (w'.setCell ⟨g, o, none⟩ v) :=
  a.trans ⟨rfl, rfl, rfl, by simp [World.setCell], fun k _ n => Below.heap_setCell w' ⟨g, o, none⟩ v k n⟩
theorem But.drew (a : But g w w') : But g w w'.drew := ⟨a.os, a.tape, a.output, a.size, a.block⟩
theorem But.of_below (hb : Below w.heap.size w w') : But g w w' := ⟨hb.os, hb.tape, hb.output, hb.size, fun k h _ => hb.block k h⟩
theorem But.alloc (a : But g w w') (o : Obj) : But g w (w'.alloc o) := a.trans (But.of_below ((Below.refl _ _).alloc (Nat.le_refl _) o))
theorem But.below {B : Nat} (a : But g w w') (h1 : B ≤ w.heap.size) (h2 : B ≤ g) : Below B w w' :=
  ⟨a.os, a.tape, a.output, a.size, fun k h => a.block k (by omega) (by omega)⟩

theorem cell_blk {w : World} {g T : Nat} {cs : Array Value} {fr : Nat × Nat} (h : w.heap[g]? = some (.cells cs T fr)) (i : Nat) : w.cell? ⟨g, i, none⟩ = cs[i]? := by unfold World.cell?; rw [h]; rfl
/-- What a byte is, there and back. -/
theorem byte_back (b : UInt8) : ((b.toNat : Int)).toNat.toUInt8 = b := by simp
theorem ret_bool {a b : Bool} (h : a = b) : Ending.returned (.bool a) = .returned (.bool b) := by rw [h]
theorem ret_int {k : IntKind} {a b : Int} (h : a = b) : Ending.returned (.int k a) = .returned (.int k b) := by rw [h]
theorem ret_eq {a b : Value} (h : a = b) : Ending.returned a = .returned b := by rw [h]
theorem toList_data (s : ByteArray) : s.toList = s.data.toList := ByteArray.toList_eq s
theorem empty_iff (s : ByteArray) : s.toList.isEmpty = decide (s.data.toList = []) := by
  rw [toList_data]; cases s.data.toList <;> simp
/-- A test of a byte against a number, as one between bytes: laid ahead of a walk, it turns the walk's own tests. -/
theorem beq_u8 (b : UInt8) (n : Nat) (h : n < 256) : ((b.toNat : Int) == (n : Int)) = (b == n.toUInt8) := by
  rw [Bool.eq_iff_iff, beq_iff_eq, beq_iff_eq, ← UInt8.toNat_inj]
  simp [Nat.toUInt8, UInt8.toNat_ofNat']
  omega
theorem bne_u8 (b : UInt8) (n : Nat) (h : n < 256) : ((b.toNat : Int) != (n : Int)) = (b != n.toUInt8) := by
  simp only [bne, beq_u8 b n h]
theorem beq_uu (b c : UInt8) : ((b.toNat : Int) == (c.toNat : Int)) = (b == c) := by
  rw [Bool.eq_iff_iff, beq_iff_eq, beq_iff_eq, ← UInt8.toNat_inj]; omega
theorem not_of_false {b : Bool} (h : (!b) = false) : b = true := by simpa using h
theorem not_of_true {b : Bool} (h : (!b) = true) : b = false := by simpa using h
theorem drewN_below (w : World) (n : Nat) : Below w.heap.size w (w.drewN n) := below_drewN (Below.refl _ _) n
end Wk
end Go.Proofs.YtokhibghnpcogaaGreatDoor
