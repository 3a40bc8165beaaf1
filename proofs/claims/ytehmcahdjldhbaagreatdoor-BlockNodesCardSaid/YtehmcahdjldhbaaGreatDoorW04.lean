/- Parts of this session's proof, one behind the other: J3 G5 G6 LN. -/
import Derived.Test.YtehmcahdjldhbaaGreatDoorW02
import Derived.Test.YtehmcahdjldhbaaGreatDoorW03
import Derived.Test.YtehmcahdjldhbaaGreatDoorZ12
import Derived.StillTailTactics
import Derived.Test.YtehmcahdjldhbaaGreatDoorZ15
section
open Go Go.RowKit Go.Proofs.YtehmcahdjldhbaaGreatDoorW.PrintWords
set_option linter.unusedVariables false
set_option linter.unusedSimpArgs false
set_option maxRecDepth 100000
namespace Go.Proofs.YtehmcahdjldhbaaGreatDoor
open Wk
namespace Bk
mutual
def toN : Tr → S71
  | .mk kind S T N M flag first last kids => ⟨kind, mk S, mk T, N, M, flag, toNs kids⟩
def toNs : List Tr → List S71
  | [] => []
  | t :: r => toN t :: toNs r
end
theorem toNs_map : ∀ l : List Tr, toNs l = l.map toN
  | [] => by rw [toNs]; rfl
  | t :: r => by rw [toNs, toNs_map r]; rfl
theorem toNs_len (l : List Tr) : (toNs l).length = l.length := by rw [toNs_map, List.length_map]
theorem toNs_app (a b : List Tr) : toNs (a ++ b) = toNs a ++ toNs b := by rw [toNs_map, toNs_map, toNs_map, List.map_append]
theorem no_le {k m : Nat} (h : k ≤ m) (y0 : List S71) (y1 : List S32) (y2 y3 : Int) {r : List S71} (e : block_Nodes.l0 k y0 y1 y2 y3 = some r) : block_Nodes.l0 m y0 y1 y2 y3 = some r := by
  induction h with
  | refl => exact e
  | step _ ih => exact (block_Nodes.mono_l _).2 _ _ _ _ _ ih
theorem rn_le {k m : Nat} (h : k ≤ m) (y0 : List S63) (y1 : List S71) (y2 : Int) {r : List S71} (e : incipitref11_Nodes.l0 k y0 y1 y2 = some r) : incipitref11_Nodes.l0 m y0 y1 y2 = some r := by
  induction h with
  | refl => exact e
  | step _ ih => exact (incipitref11_Nodes.mono_l _).2 _ _ _ _ ih
theorem nodes_l0 {r : List Tr} (h : Small r) : ∀ pre : List Tr, pre.length + r.length ≤ 1000000000000 → ∃ k, block_Nodes.l0 k (toNs pre) (toSs (pre ++ r)) ((pre ++ r).length : Nat) pre.length = some (toNs (pre ++ r)) := by
  induction h with
  | nil =>
    intro pre _
    refine ⟨1, ?_⟩
    unfold block_Nodes.l0
    rw [List.append_nil, if_neg (by omega)]
  | @cons kind S T N M flag f l kids r hf hl hk hr hz ihk ihr =>
    intro pre hL
    rw [List.length_cons] at hL
    obtain ⟨k1, e1⟩ := ihk [] (by have := hk.len; simpa using this)
    obtain ⟨k2, e2⟩ := ihr (pre ++ [Tr.mk kind S T N M flag f l kids]) (by rw [List.length_append]; show pre.length + 1 + r.length ≤ _; omega)
    rw [List.append_assoc, List.singleton_append] at e2
    have e2 : block_Nodes.l0 k2 (toNs (pre ++ [Tr.mk kind S T N M flag f l kids])) (toSs (pre ++ Tr.mk kind S T N M flag f l kids :: r)) ((pre ++ Tr.mk kind S T N M flag f l kids :: r).length : Nat) ((pre.length + 1 : Nat) : Int) = some (toNs (pre ++ Tr.mk kind S T N M flag f l kids :: r)) := by
      have e : (pre ++ [Tr.mk kind S T N M flag f l kids]).length = pre.length + 1 := by simp
      rw [e] at e2; exact e2
    have e1 : block_Nodes.l0 k1 [] (toSs kids) (kids.length : Nat) 0 = some (toNs kids) := by simpa [toNs] using e1
    obtain ⟨K, hK1, hK2⟩ : ∃ K, k1 ≤ K ∧ k2 ≤ K := ⟨k1 + k2, by omega, by omega⟩
    have e1 := no_le hK1 _ _ _ _ e1
    have e2 := no_le (show k2 ≤ K + 1 by omega) _ _ _ _ e2
    have hlen : (pre.length : Int) < ((toSs (pre ++ Tr.mk kind S T N M flag f l kids :: r)).length : Int) := by
      rw [toSs_length, List.length_append, List.length_cons]; omega
    have hlen2 : (pre.length : Int) < (((pre ++ Tr.mk kind S T N M flag f l kids :: r).length : Nat) : Int) := by
      rw [List.length_append, List.length_cons]; omega
    refine ⟨K + 2, ?_⟩
    have hw : wrap64 ((pre.length : Int) + 1) = ((pre.length + 1 : Nat) : Int) := by unfold wrap64; omega
    have ef : block_Nodes.f (K + 1) (toSs kids) = some (toNs kids) := by rw [block_Nodes.f, toSs_length]; exact e1
    have h0 : (0 : Int) ≤ (pre.length : Int) := Int.natCast_nonneg _
    have hb : (toNs pre).length < 1599289640401 := by rw [toNs_len]; omega
    rw [block_Nodes.l0, if_pos hlen2, if_pos h0, if_pos hlen, rdT, hw]
    show ((block_Nodes.f (K + 1) (toSs kids)).bind fun t => _) = _
    rw [ef]
    show (if (toNs pre).length < 1599289640401 then _ else none) = _
    rw [if_pos hb]
    rw [toNs_app pre [Tr.mk kind S T N M flag f l kids]] at e2
    exact e2
theorem nodes_f {l : List Tr} (h : Small l) : ∃ k, block_Nodes.f k (toSs l) = some (toNs l) := by
  obtain ⟨k, e⟩ := nodes_l0 h [] (by have := h.len; simpa using this)
  exact ⟨k + 1, by rw [block_Nodes.f, toSs_length]; simpa [toNs] using e⟩
theorem rnodes_l0 {r : List Tr} (h : Small r) : ∀ pre : List Tr, pre.length + r.length ≤ 1000000000000 → ∃ k, incipitref11_Nodes.l0 k (toBs 0 (pre ++ r)) (toNs pre) pre.length = some (toNs (pre ++ r)) := by
  induction h with
  | nil =>
    intro pre _
    refine ⟨1, ?_⟩
    unfold incipitref11_Nodes.l0
    rw [if_neg (by rw [toBs_len, List.append_nil]; omega), List.append_nil]
  | @cons kind S T N M flag f l kids r hf hl hk hr hz ihk ihr =>
    intro pre hL
    rw [List.length_cons] at hL
    obtain ⟨k1, e1⟩ := ihk [] (by have := hk.len; simpa using this)
    obtain ⟨k2, e2⟩ := ihr (pre ++ [Tr.mk kind S T N M flag f l kids]) (by rw [List.length_append]; show pre.length + 1 + r.length ≤ _; omega)
    rw [List.append_assoc, List.singleton_append, List.length_append] at e2
    have e2 : incipitref11_Nodes.l0 k2 (toBs 0 (pre ++ Tr.mk kind S T N M flag f l kids :: r)) (toNs (pre ++ [Tr.mk kind S T N M flag f l kids])) ((pre.length + 1 : Nat) : Int) = some (toNs (pre ++ Tr.mk kind S T N M flag f l kids :: r)) := e2
    have e1 : incipitref11_Nodes.l0 k1 (toBs 0 kids) [] 0 = some (toNs kids) := by simpa [toNs] using e1
    obtain ⟨K, hK1, hK2⟩ : ∃ K, k1 ≤ K ∧ k2 ≤ K := ⟨k1 + k2, by omega, by omega⟩
    have e1 := rn_le hK1 _ _ _ e1
    have e2 := rn_le (show k2 ≤ K + 1 by omega) _ _ _ e2
    have hlen : (pre.length : Int) < ((toBs 0 (pre ++ Tr.mk kind S T N M flag f l kids :: r)).length : Int) := by
      rw [toBs_len, List.length_append, List.length_cons]; omega
    refine ⟨K + 2, ?_⟩
    have hw : wrap64 ((pre.length : Int) + 1) = ((pre.length + 1 : Nat) : Int) := by unfold wrap64; omega
    have ef : incipitref11_Nodes.f (K + 1) (toBs 0 kids) = some (toNs kids) := by rw [incipitref11_Nodes.f]; exact e1
    have h0 : (0 : Int) ≤ (pre.length : Int) := Int.natCast_nonneg _
    have hb : (toNs pre).length < 1599289640401 := by rw [toNs_len]; omega
    rw [incipitref11_Nodes.l0, if_pos hlen, if_pos h0, rdB, hw]
    show ((incipitref11_Nodes.f (K + 1) (toBs 0 kids)).bind fun t => _) = _
    rw [ef]
    show (if (toNs pre).length < 1599289640401 then _ else none) = _
    rw [if_pos hb]
    rw [toNs_app pre [Tr.mk kind S T N M flag f l kids]] at e2
    exact e2
theorem rnodes_f {l : List Tr} (h : Small l) : ∃ k, incipitref11_Nodes.f k (toBs 0 l) = some (toNs l) := by
  obtain ⟨k, e⟩ := rnodes_l0 h [] (by have := h.len; simpa using this)
  exact ⟨k + 1, by rw [incipitref11_Nodes.f]; simpa [toNs] using e⟩
end Bk
end Go.Proofs.YtehmcahdjldhbaaGreatDoor
end
section
open Go Go.RowKit Go.Proofs.YtehmcahdjldhbaaGreatDoorW.PrintWords
set_option linter.unusedVariables false
set_option linter.unusedSimpArgs false
set_option maxRecDepth 100000
namespace Go.Proofs.YtehmcahdjldhbaaGreatDoor
open Wk
namespace Bk
theorem kid_small7 : ∀ (X : List S71) (i : Nat) (x : S71), X[i]? = some x → SizeOf.sizeOf x.f6 < SizeOf.sizeOf X := fun X i x h => by
  have h1 := List.sizeOf_lt_of_mem (List.mem_of_getElem? h)
  have h2 : SizeOf.sizeOf x.f6 < SizeOf.sizeOf x := by
    cases x; simp
    try omega
  omega
set_option maxHeartbeats 16000000 in
theorem own_eq (x : S71) (A A' : Option Addr) (n n' c c' : Nat) (w : World) :
    Calls Tryz.prog 43 #[.agg #[.int .i64 x.f0, .string x.f1, .string x.f2, .int .i64 x.f3, .int .i64 x.f4, .bool x.f5, .slice A n c], .agg #[.int .i64 x.f0, .string x.f1, .string x.f2, .int .i64 x.f3, .int .i64 x.f4, .bool x.f5, .slice A' n' c']] w fun e w' => e = .returned (.bool true) ∧ Below w.heap.size w w' := by
  have b : Below w.heap.size w ((w.alloc (.cells #[.int .i64 x.f0, .string x.f1, .string x.f2, .int .i64 x.f3, .int .i64 x.f4, .bool x.f5, .slice A n c] 71)).alloc (.cells #[.int .i64 x.f0, .string x.f1, .string x.f2, .int .i64 x.f3, .int .i64 x.f4, .bool x.f5, .slice A' n' c'] 71)) := ((Below.refl _ w).alloc (Nat.le_refl _) _).alloc (by simp) _
  go_enter Tryz.func43, Tryz.ntmps43
  go_wp2
  go_ret
  exact ⟨rfl, b⟩
theorem rowAt71 {w : World} {A : Option Addr} {n : Nat} {xs : List S71} (h : Kd.C k71 w A n xs) (i : Nat) (h1 : i < n) (x : S71) (hx : xs[i]? = some x) : ∃ ad A6 c6, A = some ad ∧ w.cell? (ad.add (i * 7)) = some (.int .i64 x.f0) ∧ w.cell? ⟨(ad.add (i * 7)).block, (ad.add (i * 7)).off + 1, none⟩ = some (.string x.f1) ∧ w.cell? ⟨(ad.add (i * 7)).block, (ad.add (i * 7)).off + 2, none⟩ = some (.string x.f2) ∧
    w.cell? ⟨(ad.add (i * 7)).block, (ad.add (i * 7)).off + 3, none⟩ = some (.int .i64 x.f3) ∧ w.cell? ⟨(ad.add (i * 7)).block, (ad.add (i * 7)).off + 4, none⟩ = some (.int .i64 x.f4) ∧ w.cell? ⟨(ad.add (i * 7)).block, (ad.add (i * 7)).off + 5, none⟩ = some (.bool x.f5) ∧ w.cell? ⟨(ad.add (i * 7)).block, (ad.add (i * 7)).off + 6, none⟩ = some (.slice A6 x.f6.length c6) ∧ x.f6.length ≤ c6 ∧ Kd.C k71 w A6 x.f6.length x.f6 := by
  obtain ⟨ad, A6, c6, e, a0, a1, a2, a3, a4, a5, a6, l6, C⟩ := at_T71 h i (by omega) (by omega)
  have er : rd_T71 xs (i : Int) = x := by
    unfold rd_T71
    rw [Int.toNat_natCast, List.getD_eq_getElem?_getD, hx]; rfl
  rw [er, Int.toNat_natCast] at a0 a1 a2 a3 a4 a5 a6
  rw [er] at l6 C
  exact ⟨ad, A6, c6, e, a0, a1, a2, a3, a4, a5, a6, l6, C⟩
set_option maxHeartbeats 16000000 in
theorem same_node : ∀ (m : Nat) (x : S71), SizeOf.sizeOf x.f6 < m → ∀ (w : World) (A A' : Option Addr) (c c' : Nat), Kd.C k71 w A x.f6.length x.f6 → Kd.C k71 w A' x.f6.length x.f6 →
    Calls Tryz.prog 31 #[.agg #[.int .i64 x.f0, .string x.f1, .string x.f2, .int .i64 x.f3, .int .i64 x.f4, .bool x.f5, .slice A x.f6.length c], .agg #[.int .i64 x.f0, .string x.f1, .string x.f2, .int .i64 x.f3, .int .i64 x.f4, .bool x.f5, .slice A' x.f6.length c']] w fun e w' => e = .returned (.bool true) ∧ Below w.heap.size w w'
  | 0, x, h, _, _, _, _, _, _, _ => absurd h (Nat.not_lt_zero _)
  | m + 1, x, h, w, A, A', c, c', hA, hB => by
    have IH := Lib.hid (same_node m)
    have hmax := hA.2.1
    have OE := fun w1 => own_eq x A A' x.f6.length x.f6.length c c' w1
    have b : Below w.heap.size w ((w.alloc (.cells #[.int .i64 x.f0, .string x.f1, .string x.f2, .int .i64 x.f3, .int .i64 x.f4, .bool x.f5, .slice A x.f6.length c] 71)).alloc (.cells #[.int .i64 x.f0, .string x.f1, .string x.f2, .int .i64 x.f3, .int .i64 x.f4, .bool x.f5, .slice A' x.f6.length c'] 71)) := ((Below.refl _ w).alloc (Nat.le_refl _) _).alloc (by simp) _
    have n1 : ((w.alloc (.cells #[.int .i64 x.f0, .string x.f1, .string x.f2, .int .i64 x.f3, .int .i64 x.f4, .bool x.f5, .slice A x.f6.length c] 71)).alloc (.cells #[.int .i64 x.f0, .string x.f1, .string x.f2, .int .i64 x.f3, .int .i64 x.f4, .bool x.f5, .slice A' x.f6.length c'] 71)).heap[w.heap.size]? = some (.cells #[.int .i64 x.f0, .string x.f1, .string x.f2, .int .i64 x.f3, .int .i64 x.f4, .bool x.f5, .slice A x.f6.length c] 71 (0, 0)) := by
      rw [Below.heap_alloc _ _ _ (by simp)]
      exact heap_alloc_new w _
    have n2 : ((w.alloc (.cells #[.int .i64 x.f0, .string x.f1, .string x.f2, .int .i64 x.f3, .int .i64 x.f4, .bool x.f5, .slice A x.f6.length c] 71)).alloc (.cells #[.int .i64 x.f0, .string x.f1, .string x.f2, .int .i64 x.f3, .int .i64 x.f4, .bool x.f5, .slice A' x.f6.length c'] 71)).heap[w.heap.size + 1]? = some (.cells #[.int .i64 x.f0, .string x.f1, .string x.f2, .int .i64 x.f3, .int .i64 x.f4, .bool x.f5, .slice A' x.f6.length c'] 71 (0, 0)) := by
      have := heap_alloc_new (w.alloc (.cells #[.int .i64 x.f0, .string x.f1, .string x.f2, .int .i64 x.f3, .int .i64 x.f4, .bool x.f5, .slice A x.f6.length c] 71)) (.cells #[.int .i64 x.f0, .string x.f1, .string x.f2, .int .i64 x.f3, .int .i64 x.f4, .bool x.f5, .slice A' x.f6.length c'] 71)
      have e : (w.alloc (.cells #[.int .i64 x.f0, .string x.f1, .string x.f2, .int .i64 x.f3, .int .i64 x.f4, .bool x.f5, .slice A x.f6.length c] 71)).heap.size = w.heap.size + 1 := by simp
      rw [e] at this; exact this
    go_enter Tryz.func31, Tryz.ntmps31
    go_wp2_with (go_at_call 43; (with_reducible refine (OE _).mono ?_); rintro e w1 ⟨rfl, b1⟩; have n1 := blk_below n1 b1; have n2 := blk_below n2 b1; have b2 := b.trans (b1.mono b.size); have d1 : w1.cell? ⟨w.heap.size, 6, none⟩ = some (.slice A x.f6.length c) := (cell_blk n1 6).trans rfl; have d2 : w1.cell? ⟨w.heap.size + 1, 6, none⟩ = some (.slice A' x.f6.length c') := (cell_blk n2 6).trans rfl)
    clear OE b b1 n1 n2
    go_loopw [5] (fun kv wr => ∃ k : Nat, kv = .int .i64 k ∧ k ≤ x.f6.length ∧ Below w1.heap.size w1 wr) (fun kv _ => x.f6.length - (intOf kv).toNat)
    case atStart => exact ⟨0, rfl, Nat.zero_le _, Below.refl _ _⟩
    case round =>
      obtain ⟨k, rfl, hk, hb⟩ := hrel
      have e1 : wr.cell? ⟨w.heap.size, 6, none⟩ = some (.slice A x.f6.length c) := (hb.cell (World.block_lt_of_cell? _ _ d1)).trans d1
      have e2 : wr.cell? ⟨w.heap.size + 1, 6, none⟩ = some (.slice A' x.f6.length c') := (hb.cell (World.block_lt_of_cell? _ _ d2)).trans d2
      by_cases hlt : k < x.f6.length
      · have hx : x.f6[k]? = some x.f6[k] := List.getElem?_eq_getElem hlt
        have hbb := b2.trans (hb.mono b2.size)
        obtain ⟨ad, A6, c6, rfl, a0, a1, a2, a3, a4, a5, a6, l6, C6⟩ := rowAt71 (Kd.C_below hA hbb) k hlt _ hx
        obtain ⟨ad', B6, d6, rfl, q0, q1, q2, q3, q4, q5, q6, m6, D6⟩ := rowAt71 (Kd.C_below hB hbb) k hlt _ hx
        have hsz := Lib.hid (kid_small7 x.f6 k _ hx)
        obtain ⟨y, hy⟩ : ∃ y, x.f6[k] = y := ⟨_, rfl⟩
        rw [hy] at a0 a1 a2 a3 a4 a5 a6 l6 C6 hx hsz q0 q1 q2 q3 q4 q5 q6 m6 D6
        have CC := fun w5 (h : Below wr.heap.size wr w5) => IH.out y (by have := hsz.out; omega) w5 A6 B6 c6 d6 (Kd.C_below C6 h) (Kd.C_below D6 h)
        clear hx hy C6 D6 l6 m6 hA hB hbb IH d1 d2
        go_wp2
        go_still_tail 10, (by kernel_rfl)
        change wpList _ _ _ _ _ wr.drew
        have CD := CC wr.drew ((Below.refl _ _).drew)
        have hbd := hb.drew
        clear CC e1 e2 a0 a1 a2 a3 a4 a5 a6 q0 q1 q2 q3 q4 q5 q6
        have hsd := hb.size
        generalize wr.drew = w2 at *
        go_wp2_with (go_at_call 31; (with_reducible refine CD.mono ?_); rintro e w3 ⟨rfl, b3⟩; have b4 := hbd.trans (b3.mono hbd.size))
        go_roundw
        case rel => exact ⟨k + 1, by go_num, by omega, b4⟩
        case measure => simp [intOf]; omega
      · have hke : k = x.f6.length := by omega
        subst hke
        go_wp2
        go_ret
        exact ⟨rfl, b2.trans (hb.mono b2.size)⟩
set_option maxHeartbeats 4000000 in
theorem sameall_any (X : List S71) (w : World) (A A' : Option Addr) (c c' : Nat) (hA : Kd.C k71 w A X.length X) (hB : Kd.C k71 w A' X.length X) :
    Calls Tryz.prog 22 #[.slice A X.length c, .slice A' X.length c'] w fun e w' => e = .returned (.bool true) ∧ Below w.heap.size w w' := by
  have SN := same_node (SizeOf.sizeOf X + 1) ⟨0, ⟨#[]⟩, ⟨#[]⟩, 0, 0, false, X⟩ (Nat.lt_succ_self _) w A A' c c' hA hB
  clear hA hB
  dsimp only at SN
  go_enter Tryz.func22, Tryz.ntmps22
  go_wp2_with (go_at_call 31; (with_reducible refine SN.mono ?_); rintro e w3 ⟨rfl, b3⟩)
  go_ret
  exact ⟨rfl, b3⟩
end Bk
end Go.Proofs.YtehmcahdjldhbaaGreatDoor
end
section
open Go Go.RowKit
set_option linter.unusedVariables false
set_option linter.unusedSimpArgs false
set_option maxRecDepth 100000
namespace Go.Proofs.YtehmcahdjldhbaaGreatDoor
open Wk
namespace Bk
theorem tw_take {p : UInt8 → Bool} : ∀ (r : Bs) (n : Nat), n ≤ r.length → (∀ j b, j < n → r[j]? = some b → p b = true) → (∀ b, r[n]? = some b → p b = false) → r.takeWhile p = r.take n ∧ r.dropWhile p = r.drop n
  | [], n, h, _, _ => by have : n = 0 := by simpa using h
                         subst this; exact ⟨rfl, rfl⟩
  | b :: t, 0, _, _, h2 => by
    have := h2 b rfl
    rw [List.takeWhile_cons, List.dropWhile_cons, this]; exact ⟨rfl, rfl⟩
  | b :: t, n + 1, h, h1, h2 => by
    have hb := h1 0 b (by omega) rfl
    have ih := tw_take t n (by simpa using h) (fun j c hj hc => h1 (j + 1) c (by omega) (by rw [List.getElem?_cons_succ]; exact hc)) (fun c hc => h2 c (by rw [List.getElem?_cons_succ]; exact hc))
    rw [List.takeWhile_cons, List.dropWhile_cons, hb]
    exact ⟨by rw [if_pos rfl, ih.1]; rfl, by rw [if_pos rfl, ih.2]; rfl⟩
theorem byte_at (S : ByteArray) (k : Nat) (h : k < S.size) : S.data.toList[k]? = some S[k] := by
  rw [List.getElem?_eq_getElem (by rw [Array.length_toList]; exact h)]; rfl
theorem label_is (S : ByteArray) (k : Nat) (h2 : 2 ≤ S.size) (h0 : S[0] = 91) (h1 : S[1] = 94) (hk : 2 ≤ k) (hkS : k ≤ S.size) (hA : ∀ j (h : j < S.size), 2 ≤ j → j < k → stopsLabel S[j] = false) (hE : ∀ h : k < S.size, stopsLabel S[k] = true) :
    label S.data.toList = (if k = 2 then ([], 0) else match (S.data.toList.drop k) with | 93 :: 58 :: _ => ((S.data.toList.drop 2).take (k - 2), 2 + (k - 2) + 2) | _ => ([], 0)) := by
  have e0 := byte_at S 0 (by omega)
  have e1 := byte_at S 1 (by omega)
  obtain ⟨r, hr⟩ : ∃ r, S.data.toList = 91 :: 94 :: r := by
    rw [h0] at e0; rw [h1] at e1
    match hl : S.data.toList, e0, e1 with
    | a :: b :: r, e0, e1 => exact ⟨r, by cases e0; cases e1; rfl⟩
  have hlen : S.size = r.length + 2 := by
    have : S.data.toList.length = S.size := by rw [Array.length_toList]; rfl
    rw [hr] at this; simp at this; omega
  have hb : ∀ j, j < r.length → ∃ h : j + 2 < S.size, r[j]? = some S[j + 2] := fun j hj => by
    refine ⟨by omega, ?_⟩
    have := byte_at S (j + 2) (by omega)
    rw [hr, List.getElem?_cons_succ, List.getElem?_cons_succ] at this
    exact this
  have T := tw_take (p := fun b => !stopsLabel b) r (k - 2) (by omega) (fun j b hj hb' => by
    obtain ⟨h, e⟩ := hb j (by omega)
    rw [e] at hb'; cases hb'
    rw [hA (j + 2) h (by omega) (by omega)]; rfl) (fun b hb' => by
    have hj : k - 2 < r.length := (List.getElem?_eq_some_iff.1 hb').1
    obtain ⟨h, e⟩ := hb (k - 2) hj
    rw [e] at hb'
    have ek : k - 2 + 2 = k := by omega
    have := hE (by omega)
    cases hb'
    have e3 : S[k - 2 + 2] = S[k] := by congr 1
    rw [e3, this]; rfl)
  have d2 : S.data.toList.drop 2 = r := by rw [hr]; rfl
  have dk : S.data.toList.drop k = r.drop (k - 2) := by
    rw [hr, show k = (k - 2) + 2 by omega]; rfl
  rw [d2, dk, hr]
  show labelAt r = _
  unfold labelAt
  rw [T.1, T.2]
  have hl : (r.take (k - 2)).length = k - 2 := by rw [List.length_take]; omega
  by_cases e : k = 2
  · rw [if_pos e]; subst e; rfl
  · rw [if_neg e]
    have : (r.take (k - 2)).isEmpty = false := by
      cases hh : r.take (k - 2) with
      | nil => rw [hh] at hl; simp at hl; omega
      | cons _ _ => rfl
    dsimp only
    rw [this, if_neg Bool.false_ne_true, hl]
    split
    · rename_i heq; rw [heq]; rfl
    · rename_i hne
      split
      · rename_i heq; exact absurd heq (hne _)
      · rfl
theorem label_not (S : ByteArray) (h : S.size < 2 ∨ (∃ h : 0 < S.size, S[0] ≠ 91) ∨ ∃ h : 1 < S.size, S[1] ≠ 94) : label S.data.toList = ([], 0) := by
  unfold label
  split
  · rename_i l e
    exfalso
    have hlen : S.data.toList.length = S.size := by rw [Array.length_toList]; rfl
    rcases h with h | ⟨h, h'⟩ | ⟨h, h'⟩
    · rw [e] at hlen; simp at hlen; omega
    · have := byte_at S 0 h
      rw [e] at this; exact h' (Option.some.inj this).symm
    · have := byte_at S 1 h
      rw [e] at this; exact h' (Option.some.inj this).symm
  · rfl
theorem nez (b n : UInt8) : (((b.toNat : Nat) : Int) != ((n.toNat : Nat) : Int)) = (b != n) := by
  show (!(((b.toNat : Nat) : Int) == ((n.toNat : Nat) : Int))) = (!(b == n))
  rw [beq_uu b n]
def notStop (b : UInt8) : Prop := b ≠ 32 ∧ b ≠ 9 ∧ b ≠ 10 ∧ b ≠ 91 ∧ b ≠ 93
theorem stops_no {b : UInt8} (h : notStop b) : stopsLabel b = false := by
  obtain ⟨a, c, d, e, f⟩ := h
  unfold stopsLabel; simp [a, c, d, e, f]
theorem ext_mid (S : ByteArray) (i j : Nat) (h : i ≤ j) : S.extract i j = mk ((S.data.toList.drop i).take (j - i)) := mk_of (by
  simp [ByteArray.data_extract, List.extract_eq_take_drop])
set_option maxHeartbeats 16000000 in
theorem rlabel_any (S : ByteArray) (w : World) (hS : S.size ≤ 1000000) :
    Calls Tryz.prog 21 #[.string S] w fun e w' => e = .returned (.tuple #[.string (mk (label S.data.toList).1), .int .i64 (label S.data.toList).2]) ∧ w' = w := by
  by_cases h2 : S.size < 2
  · have hL := label_not S (.inl h2)
    rw [hL]
    clear hL
    go_enter Tryz.func21, Tryz.ntmps21
    go_wp2
    go_ret2
    exact ⟨rfl, rfl⟩
  · have hp0 : 0 < S.size := by omega
    have hp1 : 1 < S.size := by omega
    by_cases h0 : S[0] = 91
    · have z0 : ((S[0].toNat : Int) != 91) = false := by rw [h0]; rfl
      by_cases h1 : S[1] = 94
      · have z1 : ((S[1].toNat : Int) != 94) = false := by rw [h1]; rfl
        have LI := fun k hk hkS hA hE => label_is S k (by omega) h0 h1 hk hkS hA hE
        generalize label S.data.toList = R at *
        clear h0 h1
        go_enter Tryz.func21, Tryz.ntmps21
        go_wp2
        go_loopw [4] (fun kv wr => ∃ k : Nat, kv = .int .i64 k ∧ 2 ≤ k ∧ k ≤ S.size ∧ Hid (∀ j (h : j < S.size), 2 ≤ j → j < k → stopsLabel S[j] = false) ∧ wr = w) (fun kv _ => S.size - (intOf kv).toNat)
        case atStart => exact ⟨2, rfl, Nat.le_refl _, by omega, Lib.hid (fun j h h1 h2 => by omega), rfl⟩
        case round =>
          obtain ⟨k, rfl, hk2, hk, hA, hw⟩ := hrel
          subst wr
          by_cases hlt : k < S.size
          · have hne : ∀ n : UInt8, S[k] ≠ n → ((S[k].toNat : Int) != ((n.toNat : Nat) : Int)) = true := fun n h => by rw [nez]; simpa using h
            have heq : ∀ n : UInt8, S[k] = n → ((S[k].toNat : Int) != ((n.toNat : Nat) : Int)) = false := fun n h => by rw [h]; simp
            by_cases hs : notStop S[k]
            · have d1 : ((S[k].toNat : Int) != 32) = true := hne 32 hs.1
              have d2 : ((S[k].toNat : Int) != 9) = true := hne 9 hs.2.1
              have d3 : ((S[k].toNat : Int) != 10) = true := hne 10 hs.2.2.1
              have d4 : ((S[k].toNat : Int) != 91) = true := hne 91 hs.2.2.2.1
              have d5 : ((S[k].toNat : Int) != 93) = true := hne 93 hs.2.2.2.2
              have hA2 : Hid (∀ j (h : j < S.size), 2 ≤ j → j < k + 1 → stopsLabel S[j] = false) := Lib.hid (fun j h h1 h2' => by
                by_cases e : j = k
                · subst e; exact stops_no hs
                · exact hA.out j h h1 (by omega))
              clear hA hs hne heq
              go_wp2
              go_roundw
              case rel => exact ⟨k + 1, by go_num, by omega, by omega, hA2, by first | rfl | trivial⟩
              case measure => simp [intOf]; omega
            · have hst : stopsLabel S[k] = true := by
                unfold notStop at hs
                unfold stopsLabel
                rw [Bool.or_eq_true, Bool.or_eq_true, Bool.or_eq_true, Bool.or_eq_true, beq_iff_eq, beq_iff_eq, beq_iff_eq, beq_iff_eq, beq_iff_eq]
                by_cases e1 : S[k] = 32
                · exact .inl (.inl (.inl (.inl e1)))
                · by_cases e2 : S[k] = 9
                  · exact .inl (.inl (.inl (.inr e2)))
                  · by_cases e3 : S[k] = 10
                    · exact .inl (.inl (.inr e3))
                    · by_cases e4 : S[k] = 91
                      · exact .inl (.inr e4)
                      · exact .inr (Classical.not_not.1 fun e5 => hs ⟨e1, e2, e3, e4, e5⟩)
              have L := LI k hk2 hk hA.out (fun _ => hst)
              have hd : S.data.toList.drop k = S[k] :: S.data.toList.drop (k + 1) := by
                rw [List.drop_eq_getElem_cons (by rw [Array.length_toList]; exact hlt)]; rfl
              rw [hd] at L
              have other : S[k] ≠ 93 → R = ([], 0) := fun h => by
                rw [L]
                split
                · rfl
                · split
                  · rename_i heq'; injection heq' with x _; exact absurd x h
                  · rfl
              by_cases e93 : S[k] = 93
              · have d1 : ((S[k].toNat : Int) != 32) = true := by rw [e93]; rfl
                have d2 : ((S[k].toNat : Int) != 9) = true := by rw [e93]; rfl
                have d3 : ((S[k].toNat : Int) != 10) = true := by rw [e93]; rfl
                have d4 : ((S[k].toNat : Int) != 91) = true := by rw [e93]; rfl
                have d5 : ((S[k].toNat : Int) != 93) = false := by rw [e93]; rfl
                by_cases ek2 : k = 2
                · have hR : R = ([], 0) := by rw [L, if_pos ek2]
                  subst hR
                  clear L LI hA hst other hd hne heq hs e93
                  subst ek2
                  go_wp2
                  all_goals (go_ret2; exact ⟨rfl, rfl⟩)
                · rw [if_neg ek2] at L
                  by_cases hk1 : k + 1 < S.size
                  · have hd1 : S.data.toList.drop (k + 1) = S[k + 1] :: S.data.toList.drop (k + 2) := by
                      rw [List.drop_eq_getElem_cons (by rw [Array.length_toList]; exact hk1)]; rfl
                    rw [hd1, e93] at L
                    by_cases e58 : S[k + 1] = 58
                    · have d6 : ((S[k + 1].toNat : Int) != 58) = false := by rw [e58]; rfl
                      rw [e58] at L
                      have L2 : R = ((S.data.toList.drop 2).take (k - 2), 2 + (k - 2) + 2) := L
                      subst L2
                      have hx : mk ((S.data.toList.drop 2).take (k - 2)) = S.extract 2 k := (ext_mid S 2 k hk2).symm
                      have hi : (((2 + (k - 2) + 2 : Nat)) : Int) = (k : Int) + 2 := by omega
                      have HX := Lib.hid hx
                      clear L LI hA hst other hd hne heq hs e93 hd1 e58 hx hi
                      go_wp2
                      · rename_i h
                        exfalso
                        rcases h with h | h
                        · have := of_decide_eq_true h; omega
                        · omega
                      · go_ret2
                        exact ⟨by rw [HX.out]; rfl, rfl⟩
                    · have d6 : ((S[k + 1].toNat : Int) != 58) = true := by
                        have := nez S[k + 1] 58
                        have e : (((58 : UInt8).toNat : Nat) : Int) = 58 := rfl
                        rw [e] at this; rw [this]; simpa using e58
                      have hR : R = ([], 0) := by
                        rw [L]
                        split
                        · rename_i heq'; injection heq' with _ x; injection x with x _; exact absurd x e58
                        · rfl
                      subst hR
                      clear L LI hA hst other hd hne heq hs e93 hd1 e58
                      go_wp2
                      all_goals (go_ret2; exact ⟨rfl, rfl⟩)
                  · have hR : R = ([], 0) := by
                      rw [L, List.drop_eq_nil_of_le (by rw [Array.length_toList]; show S.size ≤ _; omega), e93]; rfl
                    subst hR
                    clear L LI hA hst other hd hne heq hs e93
                    go_wp2
                    all_goals (go_ret2; exact ⟨rfl, rfl⟩)
              · have hR := other e93
                subst hR
                have d5 : ((S[k].toNat : Int) != 93) = true := hne 93 e93
                by_cases e1 : S[k] = 32
                · have d1 : ((S[k].toNat : Int) != 32) = false := heq 32 e1
                  clear L LI hA hst other hd hne heq hs e93 e1
                  go_wp2
                  all_goals (go_ret2; exact ⟨rfl, rfl⟩)
                · have d1 : ((S[k].toNat : Int) != 32) = true := hne 32 e1
                  by_cases e2 : S[k] = 9
                  · have d2 : ((S[k].toNat : Int) != 9) = false := heq 9 e2
                    clear L LI hA hst other hd hne heq hs e93 e1 e2
                    go_wp2
                    all_goals (go_ret2; exact ⟨rfl, rfl⟩)
                  · have d2 : ((S[k].toNat : Int) != 9) = true := hne 9 e2
                    by_cases e3 : S[k] = 10
                    · have d3 : ((S[k].toNat : Int) != 10) = false := heq 10 e3
                      clear L LI hA hst other hd hne heq hs e93 e1 e2 e3
                      go_wp2
                      all_goals (go_ret2; exact ⟨rfl, rfl⟩)
                    · have d3 : ((S[k].toNat : Int) != 10) = true := hne 10 e3
                      by_cases e4 : S[k] = 91
                      · have d4 : ((S[k].toNat : Int) != 91) = false := heq 91 e4
                        clear L LI hA hst other hd hne heq hs e93 e1 e2 e3 e4
                        go_wp2
                        all_goals (go_ret2; exact ⟨rfl, rfl⟩)
                      · exact absurd ⟨e1, e2, e3, e4, e93⟩ hs
          · have hke : k = S.size := by omega
            have L := LI k hk2 hk hA.out (fun h => absurd h hlt)
            have hR : R = ([], 0) := by
              rw [L, hke, List.drop_eq_nil_of_le (by rw [Array.length_toList]; exact Nat.le_refl _)]
              split <;> rfl
            subst hR
            subst hke
            clear L LI hA
            go_wp2
            all_goals (go_ret2; exact ⟨rfl, rfl⟩)
      · have z1 : ((S[1].toNat : Int) != 94) = true := by
          have := nez S[1] 94
          have e : (((94 : UInt8).toNat : Nat) : Int) = 94 := rfl
          rw [e] at this; rw [this]; simpa using h1
        have hL := label_not S (.inr (.inr ⟨hp1, h1⟩))
        rw [hL]
        clear hL h0 h1
        go_enter Tryz.func21, Tryz.ntmps21
        go_wp2
        go_ret2
        exact ⟨rfl, rfl⟩
    · have z0 : ((S[0].toNat : Int) != 91) = true := by
        have := nez S[0] 91
        have e : (((91 : UInt8).toNat : Nat) : Int) = 91 := rfl
        rw [e] at this; rw [this]; simpa using h0
      have hL := label_not S (.inr (.inl ⟨hp0, h0⟩))
      rw [hL]
      clear hL h0
      go_enter Tryz.func21, Tryz.ntmps21
      go_wp2
      go_ret2
      exact ⟨rfl, rfl⟩
end Bk
end Go.Proofs.YtehmcahdjldhbaaGreatDoor
end
section
open Go Go.RowKit Go.Proofs.YtehmcahdjldhbaaGreatDoorW.PrintWords
set_option linter.unusedVariables false
set_option linter.unusedSimpArgs false
set_option maxRecDepth 100000
namespace Go.Proofs.YtehmcahdjldhbaaGreatDoor
open Wk
namespace Tx
open Bk (strV TS LinesAt NilOk ParsePost parse toSs toBs toS k32 k63 k71 TBk Tr RefRow)
theorem nodes_any (X : List Tr) (hS : Bk.Small X) (w : World) (A : Option Addr) (c : Nat) (hA : Kd.C k32 w A (toSs X).length (toSs X)) (hc : (toSs X).length ≤ c) :
    Calls Tryz.prog 23 #[.slice A (toSs X).length c] w fun e w' => ∃ A' c', e = .returned (.slice A' (Bk.toNs X).length c') ∧ (Bk.toNs X).length ≤ c' ∧ Kd.C k71 w' A' (Bk.toNs X).length (Bk.toNs X) ∧ Below w.heap.size w w' := by
  obtain ⟨k, hk⟩ := Bk.nodes_f hS
  refine (Bk.block_Nodes.calls k A c (toSs X) (Bk.toNs X) w hA hc hk).mono ?_
  rintro e w' ⟨v, rfl, R, b⟩
  obtain ⟨A', c', rfl, hc', C⟩ := Kd.R_reads R
  exact ⟨A', c', rfl, hc', C, b⟩
theorem rnodes_any (X : List Tr) (hS : Bk.Small X) (w : World) (A : Option Addr) (c : Nat) (hA : Kd.C k63 w A (toBs 0 X).length (toBs 0 X)) (hc : (toBs 0 X).length ≤ c) :
    Calls Tryz.prog 24 #[.slice A (toBs 0 X).length c] w fun e w' => ∃ A' c', e = .returned (.slice A' (Bk.toNs X).length c') ∧ (Bk.toNs X).length ≤ c' ∧ Kd.C k71 w' A' (Bk.toNs X).length (Bk.toNs X) ∧ Below w.heap.size w w' := by
  obtain ⟨k, hk⟩ := Bk.rnodes_f hS
  refine (Bk.incipitref11_Nodes.calls k A c (toBs 0 X) (Bk.toNs X) w hA hc hk).mono ?_
  rintro e w' ⟨v, rfl, R, b⟩
  obtain ⟨A', c', rfl, hc', C⟩ := Kd.R_reads R
  exact ⟨A', c', rfl, hc', C, b⟩
theorem label_any (S : ByteArray) (w : World) (hS : S.size ≤ 1000000) :
    Calls Tryz.prog 20 #[.string S] w fun e w' => e = .returned (.tuple #[.string (mk (Bk.label S.data.toList).1), .int .i64 (Bk.label S.data.toList).2]) ∧ Below w.heap.size w w' := by
  have h := rest.label S.data.toList (by rw [Array.length_toList]; exact hS)
  unfold Bk.LabelC at h
  have h := h w
  rw [mk_self] at h
  exact h
set_option maxHeartbeats 16000000 in
theorem nodes_row (v : Value) (l : List Bs) (mask : Int) (S : ByteArray) (w : World) (hE : Env w) (hv : LinesAt w v l) (hn : NilOk v) (h3 : -9223372036854775808 ≤ mask) (h4 : mask ≤ 9223372036854775807) (hS : S.size ≤ 140737488351232) :
    Calls Tryz.prog 10 #[v, .int .i64 mask, .string S] w fun e w' => e = .returned (.bool true) ∧ Below w.heap.size w w' := by
  obtain ⟨A, c, rfl⟩ := hv.form
  have AW := awake_any w hE
  have FE := fun w1 (hb : Below w.heap.size w w1) => few_any w1 _ l (hv.below hb)
  cases hf : few l with
  | false =>
    rw [hf] at FE
    go_enter Tryz.func10, Tryz.ntmps10
    go_wp2_with (first
      | (go_at_call 11; (with_reducible refine AW.mono ?_); rintro e w1 ⟨rfl, b1⟩)
      | (go_at_call 12; (with_reducible refine (FE _ b1).mono ?_); rintro e w2 ⟨rfl, b2⟩; have b3 := b1.trans (b2.mono b1.size)))
    go_ret
    exact ⟨rfl, b3⟩
  | true =>
    rw [hf] at FE
    have hf2 : l.length ≤ 40 ∧ ∀ s ∈ l, s.length ≤ 80 := by
      unfold few at hf
      simpa using hf
    by_cases hz : S.size ≤ 1000
    · have hs1 : ∀ s ∈ l, s.length ≤ 200 := fun s h => by have := hf2.2 s h; omega
      have PA := fun w1 (hb : Below w.heap.size w w1) => parse_at w1 (hE.below hb) l _ (hv.below hb) mask (by omega) hs1
      have q1 := small_parse (Bk.notesOf mask) l hs1 (by omega)
      unfold ParsePost at PA
      unfold FF at PA q1
      generalize (parse (allR unescF) unescF (Bk.notesOf mask) l).1 = X at *
      generalize (parse (allR unescF) unescF (Bk.notesOf mask) l).2 = Y at *
      have LB := fun w1 => label_any S w1 (by omega)
      have RB := fun w1 => Bk.rlabel_any S w1 (by omega)
      have NA := nodes_any X q1
      have TA := theirs_any X q1
      have RN := rnodes_any X q1
      have SA := Bk.sameall_any (Bk.toNs X)
      generalize (Bk.label S.data.toList).1 = L1 at *
      generalize (Bk.label S.data.toList).2 = L2 at *
      have hbe : ((L2 : Int) == (L2 : Int)) = true := beq_self_eq_true _
      clear hf2 hf hs1 hv hn q1
      go_enter Tryz.func10, Tryz.ntmps10
      go_wp2_with (first
        | (go_at_call 11; (with_reducible refine AW.mono ?_); rintro e w1 ⟨rfl, b1⟩)
        | (go_at_call 12; (with_reducible refine (FE _ b1).mono ?_); rintro e w2 ⟨rfl, b2⟩; have b3 := b1.trans (b2.mono b1.size))
        | (go_at_call 13; (with_reducible refine (PA _ b3).mono ?_); rintro e w3 ⟨v1, v2, rfl, R1, S1, b4⟩; have b5 := b3.trans (b4.mono b3.size); obtain ⟨A1, c1, rfl, hc1, C1⟩ := Kd.R_reads R1; obtain ⟨Ar, cr, rfl, hcr⟩ := Bk.own_form S1.1; clear R1 S1)
        | (go_at_call 20; (with_reducible refine (LB _).mono ?_); rintro e w4 ⟨rfl, b6⟩; have b7 := b5.trans (b6.mono b5.size); replace C1 := Kd.C_below C1 b6)
        | (go_at_call 21; (with_reducible refine (RB _).mono ?_); rintro e w5 ⟨rfl, rfl⟩)
        | (go_at_call 23; (with_reducible refine (NA _ _ _ C1 hc1).mono ?_); rintro e w6 ⟨A2, c2, rfl, hc2, C2, b8⟩; have b9 := b7.trans (b8.mono b7.size); replace C1 := Kd.C_below C1 b8)
        | (go_at_call 17; (with_reducible refine (TA _ _ _ C1 hc1).mono ?_); rintro e w7 ⟨A3, c3, rfl, hc3, C3, b10⟩; have b11 := b9.trans (b10.mono b9.size); replace C2 := Kd.C_below C2 b10)
        | (go_at_call 24; (with_reducible refine (RN _ _ _ C3 hc3).mono ?_); rintro e w8 ⟨A4, c4, rfl, hc4, C4, b12⟩; have b13 := b11.trans (b12.mono b11.size); replace C2 := Kd.C_below C2 b12)
        | (go_at_call 22; (with_reducible refine (SA _ _ _ _ _ C2 C4).mono ?_); rintro e w9 ⟨rfl, b14⟩; have b15 := b13.trans (b14.mono b13.size)))
      go_ret
      exact ⟨rfl, b15⟩
    · have hz' : (1000 : Int) < (S.size : Int) := by omega
      clear hf2
      go_enter Tryz.func10, Tryz.ntmps10
      go_wp2_with (first
        | (go_at_call 11; (with_reducible refine AW.mono ?_); rintro e w1 ⟨rfl, b1⟩)
        | (go_at_call 12; (with_reducible refine (FE _ b1).mono ?_); rintro e w2 ⟨rfl, b2⟩; have b3 := b1.trans (b2.mono b1.size)))
      go_ret
      exact ⟨rfl, b3⟩
end Tx
end Go.Proofs.YtehmcahdjldhbaaGreatDoor
end
