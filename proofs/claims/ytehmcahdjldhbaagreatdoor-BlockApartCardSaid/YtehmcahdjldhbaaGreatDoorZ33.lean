/- Parts of this session's proof, one behind the other: G3 J1. -/
import Derived.Test.YtehmcahdjldhbaaGreatDoorZ31
import Derived.Test.YtehmcahdjldhbaaGreatDoorZ12
import Derived.Test.YtehmcahdjldhbaaGreatDoorZ26
import Derived.Test.YtehmcahdjldhbaaGreatDoorZ27
section
/- incipitref11.Same: true of what is the same. -/
open Go Go.RowKit Go.Proofs.YtehmcahdjldhbaaGreatDoorW.PrintWords
set_option linter.unusedVariables false
set_option linter.unusedSimpArgs false
set_option maxRecDepth 100000
namespace Go.Proofs.YtehmcahdjldhbaaGreatDoor
open Wk
namespace Bk
theorem kid_small : ∀ (X : List S63) (i : Nat) (x : S63), X[i]? = some x → SizeOf.sizeOf x.f8 < SizeOf.sizeOf X := fun X i x h => by
  have h1 := List.sizeOf_lt_of_mem (List.mem_of_getElem? h)
  have h2 : SizeOf.sizeOf x.f8 < SizeOf.sizeOf x := by
    cases x; simp; omega
  omega
/-- A row's block, whatever its number. -/
theorem rowAt63 {w : World} {A : Option Addr} {n : Nat} {xs : List S63} (h : Kd.C k63 w A n xs) (i : Nat) (h1 : i < n) (x : S63) (hx : xs[i]? = some x) : ∃ ad A8 c8, A = some ad ∧ w.cell? (ad.add (i * 9)) = some (.int .i64 x.f0) ∧ w.cell? ⟨(ad.add (i * 9)).block, (ad.add (i * 9)).off + 1, none⟩ = some (.string x.f1) ∧ w.cell? ⟨(ad.add (i * 9)).block, (ad.add (i * 9)).off + 2, none⟩ = some (.string x.f2) ∧
    w.cell? ⟨(ad.add (i * 9)).block, (ad.add (i * 9)).off + 3, none⟩ = some (.int .i64 x.f3) ∧ w.cell? ⟨(ad.add (i * 9)).block, (ad.add (i * 9)).off + 4, none⟩ = some (.int .i64 x.f4) ∧ w.cell? ⟨(ad.add (i * 9)).block, (ad.add (i * 9)).off + 5, none⟩ = some (.bool x.f5) ∧ w.cell? ⟨(ad.add (i * 9)).block, (ad.add (i * 9)).off + 6, none⟩ = some (.int .i64 x.f6) ∧ w.cell? ⟨(ad.add (i * 9)).block, (ad.add (i * 9)).off + 7, none⟩ = some (.int .i64 x.f7) ∧
    w.cell? ⟨(ad.add (i * 9)).block, (ad.add (i * 9)).off + 8, none⟩ = some (.slice A8 x.f8.length c8) ∧ x.f8.length ≤ c8 ∧ Kd.C k63 w A8 x.f8.length x.f8 := by
  obtain ⟨ad, A8, c8, e, a0, a1, a2, a3, a4, a5, a6, a7, a8, l8, C⟩ := at_T63 h i (by omega) (by omega)
  have er : rd_T63 xs (i : Int) = x := by
    unfold rd_T63
    rw [Int.toNat_natCast, List.getD_eq_getElem?_getD, hx]; rfl
  rw [er, Int.toNat_natCast] at a0 a1 a2 a3 a4 a5 a6 a7 a8
  rw [er] at l8 C
  exact ⟨ad, A8, c8, e, a0, a1, a2, a3, a4, a5, a6, a7, a8, l8, C⟩
set_option maxHeartbeats 16000000 in
theorem same_eq : ∀ (m : Nat) (X : List S63), SizeOf.sizeOf X < m → ∀ (w : World) (A A' : Option Addr) (c c' : Nat), X.length ≤ 9223372036854775807 → Kd.C k63 w A X.length X → Kd.C k63 w A' X.length X →
    Calls Tryz.prog 16 #[.slice A X.length c, .slice A' X.length c'] w fun e w' => e = .returned (.bool true) ∧ Below w.heap.size w w'
  | 0, X, h, _, _, _, _, _, _, _, _ => absurd h (Nat.not_lt_zero _)
  | m + 1, X, h, w, A, A', c, c', hl, hA, hB => by
    have IH := Lib.hid (same_eq m)
    go_enter Tryz.func16, Tryz.ntmps16
    go_wp2
    go_loopw [5] (fun kv wr => ∃ k : Nat, kv = .int .i64 k ∧ k ≤ X.length ∧ Below w.heap.size w wr) (fun kv _ => X.length - (intOf kv).toNat)
    case atStart => exact ⟨0, rfl, Nat.zero_le _, Below.refl _ _⟩
    case round =>
      obtain ⟨k, rfl, hk, hb⟩ := hrel
      by_cases hlt : k < X.length
      · have hx : X[k]? = some X[k] := List.getElem?_eq_getElem hlt
        obtain ⟨ad, A8, c8, rfl, a0, a1, a2, a3, a4, a5, a6, a7, a8, l8, C8⟩ := rowAt63 (Kd.C_below hA hb) k hlt _ hx
        have hsz := Lib.hid (kid_small X k _ hx)
        obtain ⟨x, hx0⟩ : ∃ x, X[k] = x := ⟨_, rfl⟩
        rw [hx0] at a0 a1 a2 a3 a4 a5 a6 a7 a8 l8 C8 hx hsz
        have hb1 : Below w.heap.size w (wr.alloc (.cells #[.int .i64 x.f0, .string x.f1, .string x.f2, .int .i64 x.f3, .int .i64 x.f4, .bool x.f5, .int .i64 x.f6, .int .i64 x.f7, .slice A8 x.f8.length c8] 63)) := hb.alloc hb.size _
        obtain ⟨ad', B8, d8, rfl, b0, b1, b2, b3, b4, b5, b6, b7, b8, m8, D8⟩ := rowAt63 (Kd.C_below hB hb1) k hlt x hx
        have hb2 : Below w.heap.size w ((wr.alloc (.cells #[.int .i64 x.f0, .string x.f1, .string x.f2, .int .i64 x.f3, .int .i64 x.f4, .bool x.f5, .int .i64 x.f6, .int .i64 x.f7, .slice A8 x.f8.length c8] 63)).alloc (.cells #[.int .i64 x.f0, .string x.f1, .string x.f2, .int .i64 x.f3, .int .i64 x.f4, .bool x.f5, .int .i64 x.f6, .int .i64 x.f7, .slice B8 x.f8.length d8] 63)) := hb1.alloc hb1.size _
        have hbw2 : Below wr.heap.size wr ((wr.alloc (.cells #[.int .i64 x.f0, .string x.f1, .string x.f2, .int .i64 x.f3, .int .i64 x.f4, .bool x.f5, .int .i64 x.f6, .int .i64 x.f7, .slice A8 x.f8.length c8] 63)).alloc (.cells #[.int .i64 x.f0, .string x.f1, .string x.f2, .int .i64 x.f3, .int .i64 x.f4, .bool x.f5, .int .i64 x.f6, .int .i64 x.f7, .slice B8 x.f8.length d8] 63)) := ((Below.refl _ wr).alloc (Nat.le_refl _) _).alloc (by simp) _
        have CC := IH.out x.f8 (by have := hsz.out; omega) _ A8 B8 c8 d8 C8.2.1 (Kd.C_below C8 hbw2) (Kd.C_below D8 ((Below.refl _ _).alloc (Nat.le_refl _) _))
        clear hx hx0 C8 D8 l8 m8 hb1 hbw2 hA hB
        go_wp2_with (go_at_call 16; (with_reducible refine CC.mono ?_); rintro e w5 ⟨rfl, b5⟩)
        go_roundw
        case rel => exact ⟨k + 1, by go_num, by omega, hb2.trans (b5.mono hb2.size)⟩
        case measure => simp [intOf]; omega
      · have hke : k = X.length := by omega
        subst hke
        go_wp2
        go_ret
        exact ⟨rfl, hb⟩
end Bk
end Go.Proofs.YtehmcahdjldhbaaGreatDoor
end
section
/- Law 11: what theirs and shift make of parsed blocks. -/
open Go Go.RowKit Go.Proofs.YtehmcahdjldhbaaGreatDoorW.PrintWords
set_option linter.unusedVariables false
set_option linter.unusedSimpArgs false
set_option maxRecDepth 100000
namespace Go.Proofs.YtehmcahdjldhbaaGreatDoor
open Wk
namespace Bk
mutual
def toB (dl : Nat) : Tr → S63
  | .mk kind S T N M flag first last kids => ⟨kind, mk S, mk T, N, M, flag, ((first + dl : Nat) : Int), ((last + dl : Nat) : Int), toBs dl kids⟩
def toBs (dl : Nat) : List Tr → List S63
  | [] => []
  | t :: r => toB dl t :: toBs dl r
end
theorem toBs_map (dl : Nat) : ∀ l : List Tr, toBs dl l = l.map (toB dl)
  | [] => by rw [toBs]; rfl
  | t :: r => by rw [toBs, toBs_map dl r]; rfl
theorem toBs_len (dl : Nat) (l : List Tr) : (toBs dl l).length = l.length := by rw [toBs_map, List.length_map]
theorem toBs_app (dl : Nat) (a b : List Tr) : toBs dl (a ++ b) = toBs dl a ++ toBs dl b := by rw [toBs_map, toBs_map, toBs_map, List.map_append]
/-- Trees of lists of no great length, whose lines are no great numbers. -/
inductive Small : List Tr → Prop
  | nil : Small []
  | cons {kind : Nat} {S T : Bs} {N M : Nat} {flag : Bool} {f l : Nat} {kids r : List Tr} (hf : f ≤ 1000) (hl : l ≤ 1000) (hk : Small kids) (hr : Small r) (hz : r.length < 1000000000000) : Small (Tr.mk kind S T N M flag f l kids :: r)
theorem InsL.small {a hi : Nat} {b : Bool} {l : List Tr} (h : InsL a hi b l) (hh : hi ≤ 1000) : Small l := by
  induction h with
  | nil => exact .nil
  | cons h1 h2 h3 h4 h5 hk hr hz ihk ihr => exact .cons (by omega) (by omega) (ihk (by omega)) (ihr hh) hz
theorem Small.len {l : List Tr} (h : Small l) : l.length ≤ 1000000000000 := by
  cases h with
  | nil => exact Nat.zero_le _
  | cons hf hl hk hr hz => rw [List.length_cons]; omega
theorem th_le {k m : Nat} (h : k ≤ m) (y0 : List S32) (y1 : List S63) (y2 : Int) {r : List S63} (e : incipitlaw11_theirs.l0 k y0 y1 y2 = some r) : incipitlaw11_theirs.l0 m y0 y1 y2 = some r := by
  induction h with
  | refl => exact e
  | step _ ih => exact (incipitlaw11_theirs.mono_l _).2 _ _ _ _ ih
theorem rdT (pre : List Tr) (t : Tr) (r : List Tr) : rd_T32 (toSs (pre ++ t :: r)) (pre.length : Int) = toS t := by
  unfold rd_T32
  rw [toSs_map, Int.toNat_natCast, List.map_append, List.map_cons, List.getD_eq_getElem?_getD, List.getElem?_append_right (by rw [List.length_map]; exact Nat.le_refl _), List.length_map, Nat.sub_self]
  rfl
theorem rdB (dl : Nat) (pre : List Tr) (t : Tr) (r : List Tr) : rd_T63 (toBs dl (pre ++ t :: r)) (pre.length : Int) = toB dl t := by
  unfold rd_T63
  rw [toBs_map, Int.toNat_natCast, List.map_append, List.map_cons, List.getD_eq_getElem?_getD, List.getElem?_append_right (by rw [List.length_map]; exact Nat.le_refl _), List.length_map, Nat.sub_self]
  rfl
theorem theirs_l0 {r : List Tr} (h : Small r) : ∀ pre : List Tr, pre.length + r.length ≤ 1000000000000 → ∃ k, incipitlaw11_theirs.l0 k (toSs (pre ++ r)) (toBs 0 pre) pre.length = some (toBs 0 (pre ++ r)) := by
  induction h with
  | nil =>
    intro pre _
    refine ⟨1, ?_⟩
    unfold incipitlaw11_theirs.l0
    rw [if_neg (by rw [toSs_length, List.append_nil]; omega), List.append_nil]
  | @cons kind S T N M flag f l kids r hf hl hk hr hz ihk ihr =>
    intro pre hL
    rw [List.length_cons] at hL
    obtain ⟨k1, e1⟩ := ihk [] (by have := hk.len; simpa using this)
    obtain ⟨k2, e2⟩ := ihr (pre ++ [Tr.mk kind S T N M flag f l kids]) (by rw [List.length_append]; show pre.length + 1 + r.length ≤ _; omega)
    rw [List.append_assoc, List.singleton_append, List.length_append] at e2
    have e2 : incipitlaw11_theirs.l0 k2 (toSs (pre ++ Tr.mk kind S T N M flag f l kids :: r)) (toBs 0 (pre ++ [Tr.mk kind S T N M flag f l kids])) ((pre.length + 1 : Nat) : Int) = some (toBs 0 (pre ++ Tr.mk kind S T N M flag f l kids :: r)) := e2
    have e1 : incipitlaw11_theirs.l0 k1 (toSs kids) [] 0 = some (toBs 0 kids) := by simpa [toBs] using e1
    obtain ⟨K, hK1, hK2⟩ : ∃ K, k1 ≤ K ∧ k2 ≤ K := ⟨k1 + k2, by omega, by omega⟩
    have e1 := th_le hK1 _ _ _ e1
    have e2 := th_le (show k2 ≤ K + 1 by omega) _ _ _ e2
    have hlen : (pre.length : Int) < ((toSs (pre ++ Tr.mk kind S T N M flag f l kids :: r)).length : Int) := by
      rw [toSs_length, List.length_append, List.length_cons]; omega
    refine ⟨K + 2, ?_⟩
    have hw : wrap64 ((pre.length : Int) + 1) = ((pre.length + 1 : Nat) : Int) := by unfold wrap64; omega
    have ef : incipitlaw11_theirs.f (K + 1) (toSs kids) = some (toBs 0 kids) := by rw [incipitlaw11_theirs.f]; exact e1
    have h0 : (0 : Int) ≤ (pre.length : Int) := Int.natCast_nonneg _
    have hb : (toBs 0 pre).length < 1353245080339 := by rw [toBs_len]; omega
    rw [incipitlaw11_theirs.l0, if_pos hlen, if_pos h0, rdT, hw]
    show ((incipitlaw11_theirs.f (K + 1) (toSs kids)).bind fun t => _) = _
    rw [ef]
    show (if (toBs 0 pre).length < 1353245080339 then _ else none) = _
    rw [if_pos hb]
    rw [toBs_app] at e2
    exact e2
theorem theirs_f {l : List Tr} (h : Small l) : ∃ k, incipitlaw11_theirs.f k (toSs l) = some (toBs 0 l) := by
  obtain ⟨k, e⟩ := theirs_l0 h [] (by have := h.len; simpa using this)
  exact ⟨k + 1, by rw [incipitlaw11_theirs.f]; simpa [toBs] using e⟩
theorem sh_le {k m : Nat} (h : k ≤ m) (y0 : List S63) (y1 : Int) (y2 : List S63) (y3 : Int) {r : List S63} (e : incipitlaw11_shift.l0 k y0 y1 y2 y3 = some r) : incipitlaw11_shift.l0 m y0 y1 y2 y3 = some r := by
  induction h with
  | refl => exact e
  | step _ ih => exact (incipitlaw11_shift.mono_l _).2 _ _ _ _ _ ih
theorem shift_l0 {r : List Tr} (h : Small r) : ∀ pre : List Tr, pre.length + r.length ≤ 1000000000000 → ∃ k, incipitlaw11_shift.l0 k (toBs 0 (pre ++ r)) 2 (toBs 2 pre) pre.length = some (toBs 2 (pre ++ r)) := by
  induction h with
  | nil =>
    intro pre _
    refine ⟨1, ?_⟩
    unfold incipitlaw11_shift.l0
    rw [if_neg (by rw [toBs_len, List.append_nil]; omega), List.append_nil]
  | @cons kind S T N M flag f l kids r hf hl hk hr hz ihk ihr =>
    intro pre hL
    rw [List.length_cons] at hL
    obtain ⟨k1, e1⟩ := ihk [] (by have := hk.len; simpa using this)
    obtain ⟨k2, e2⟩ := ihr (pre ++ [Tr.mk kind S T N M flag f l kids]) (by rw [List.length_append]; show pre.length + 1 + r.length ≤ _; omega)
    rw [List.append_assoc, List.singleton_append, List.length_append] at e2
    have e2 : incipitlaw11_shift.l0 k2 (toBs 0 (pre ++ Tr.mk kind S T N M flag f l kids :: r)) 2 (toBs 2 (pre ++ [Tr.mk kind S T N M flag f l kids])) ((pre.length + 1 : Nat) : Int) = some (toBs 2 (pre ++ Tr.mk kind S T N M flag f l kids :: r)) := e2
    have e1 : incipitlaw11_shift.l0 k1 (toBs 0 kids) 2 [] 0 = some (toBs 2 kids) := by simpa [toBs] using e1
    obtain ⟨K, hK1, hK2⟩ : ∃ K, k1 ≤ K ∧ k2 ≤ K := ⟨k1 + k2, by omega, by omega⟩
    have e1 := sh_le hK1 _ _ _ _ e1
    have e2 := sh_le (show k2 ≤ K + 1 by omega) _ _ _ _ e2
    have hlen : (pre.length : Int) < ((toBs 0 (pre ++ Tr.mk kind S T N M flag f l kids :: r)).length : Int) := by
      rw [toBs_len, List.length_append, List.length_cons]; omega
    refine ⟨K + 2, ?_⟩
    have hw : wrap64 ((pre.length : Int) + 1) = ((pre.length + 1 : Nat) : Int) := by unfold wrap64; omega
    have ef : incipitlaw11_shift.f (K + 1) (toBs 0 kids) 2 = some (toBs 2 kids) := by rw [incipitlaw11_shift.f]; exact e1
    have h0 : (0 : Int) ≤ (pre.length : Int) := Int.natCast_nonneg _
    have hb : (toBs 2 pre).length < 1353245080339 := by rw [toBs_len]; omega
    have w1 : wrap64 (((f + 0 : Nat) : Int) + 2) = ((f + 2 : Nat) : Int) := by unfold wrap64; omega
    have w2 : wrap64 (((l + 0 : Nat) : Int) + 2) = ((l + 2 : Nat) : Int) := by unfold wrap64; omega
    rw [incipitlaw11_shift.l0, if_pos hlen, if_pos h0, rdB, hw]
    show ((incipitlaw11_shift.f (K + 1) (toBs 0 kids) 2).bind fun t => _) = _
    rw [ef]
    show (if (toBs 2 pre).length < 1353245080339 then incipitlaw11_shift.l0 (K + 1) (toBs 0 (pre ++ Tr.mk kind S T N M flag f l kids :: r)) 2 (toBs 2 pre ++ [(⟨(kind : Int), mk S, mk T, (N : Int), (M : Int), flag, wrap64 (((f + 0 : Nat) : Int) + 2), wrap64 (((l + 0 : Nat) : Int) + 2), toBs 2 kids⟩ : S63)]) ((pre.length + 1 : Nat) : Int) else none) = _
    rw [if_pos hb, w1, w2]
    rw [toBs_app 2 pre [Tr.mk kind S T N M flag f l kids]] at e2
    exact e2
theorem shift_f {l : List Tr} (h : Small l) : ∃ k, incipitlaw11_shift.f k (toBs 0 l) 2 = some (toBs 2 l) := by
  obtain ⟨k, e⟩ := shift_l0 h [] (by have := h.len; simpa using this)
  exact ⟨k + 1, by rw [incipitlaw11_shift.f]; simpa [toBs] using e⟩
mutual
theorem toB_shift (dl : Nat) : ∀ t : Tr, toB 0 (trS dl t) = toB dl t
  | .mk kind S T N M flag first last kids => by
    have := toBs_shift dl kids
    simp only [trS, toB, this, Nat.add_zero]
theorem toBs_shift (dl : Nat) : ∀ l : List Tr, toBs 0 (trSs dl l) = toBs dl l
  | [] => by simp only [trSs, toBs]
  | t :: r => by
    simp only [trSs, toBs, toB_shift dl t, toBs_shift dl r]
end
end Bk
end Go.Proofs.YtehmcahdjldhbaaGreatDoor
end
