/- Parts of this session's proof, one behind the other: I6 I7 I8. -/
import Derived.Test.YtehmcahdjldhbaaGreatDoorZ26
import Derived.Test.YtehmcahdjldhbaaGreatDoorZ23
import Derived.Test.YtehmcahdjldhbaaGreatDoorZ22
section
/- Law 11: inside answers true of parsed blocks. -/
open Go Go.RowKit Go.Proofs.YtehmcahdjldhbaaGreatDoorW.PrintWords
set_option linter.unusedVariables false
set_option linter.unusedSimpArgs false
set_option maxRecDepth 100000
namespace Go.Proofs.YtehmcahdjldhbaaGreatDoor
open Wk
namespace Bk
theorem InsL.len {a hi : Nat} {b : Bool} {l : List Tr} (h : InsL a hi b l) : l.length ≤ 1000000000000 := by
  cases h with
  | nil => exact Nat.zero_le _
  | cons h1 h2 h3 h4 h5 hk hr hz => rw [List.length_cons]; omega
theorem l0_le {k m : Nat} (h : k ≤ m) (y0 : List S32) (y1 : Int) (y2 : Bool) (y3 y4 : Int) {r : Bool} (e : incipitlaw11_inside.l0 k y0 y1 y2 y3 y4 = some r) : incipitlaw11_inside.l0 m y0 y1 y2 y3 y4 = some r := by
  induction h with
  | refl => exact e
  | step _ ih => exact (incipitlaw11_inside.mono_l _).2.1 _ _ _ _ _ _ ih
theorem rd_at (pre : List Tr) (t : Tr) (r : List Tr) : rd_T32 (toSs (pre ++ t :: r)) (pre.length : Int) = toS t := by
  unfold rd_T32
  rw [toSs_map, Int.toNat_natCast, List.map_append, List.map_cons, List.getD_eq_getElem?_getD, List.getElem?_append_right (by rw [List.length_map]; exact Nat.le_refl _), List.length_map, Nat.sub_self]
  rfl
theorem ins_l0 {a hi : Nat} {b : Bool} {r : List Tr} (h : InsL a hi b r) : ∀ pre : List Tr, pre.length + r.length ≤ 1000000000000 → ∃ k, incipitlaw11_inside.l0 k (toSs (pre ++ r)) hi b a pre.length = some true := by
  induction h with
  | nil a hi b =>
    intro pre _
    refine ⟨1, ?_⟩
    unfold incipitlaw11_inside.l0
    rw [if_neg (by rw [toSs_length, List.append_nil]; omega)]
  | @cons a hi b kind S T N M flag f l kids r h1 h2 h3 h4 h5 hk hr hz ihk ihr =>
    intro pre hL
    rw [List.length_cons] at hL
    obtain ⟨k1, e1⟩ := ihk [] (by have := hk.len; simpa using this)
    obtain ⟨k2, e2⟩ := ihr (pre ++ [Tr.mk kind S T N M flag f l kids]) (by rw [List.length_append]; show pre.length + 1 + r.length ≤ _; omega)
    rw [List.append_assoc, List.singleton_append, List.length_append] at e2
    have e2 : incipitlaw11_inside.l0 k2 (toSs (pre ++ Tr.mk kind S T N M flag f l kids :: r)) hi b f ((pre.length + 1 : Nat) : Int) = some true := e2
    have e1 : incipitlaw11_inside.l0 k1 (toSs kids) l (decide (kind = 3)) f 0 = some true := e1
    obtain ⟨K, hK1, hK2⟩ : ∃ K, k1 ≤ K ∧ k2 ≤ K := ⟨k1 + k2, by omega, by omega⟩
    have e1 := l0_le hK1 _ _ _ _ _ e1
    have e2 := l0_le (show k2 ≤ K + 1 by omega) _ _ _ _ _ e2
    have hlen : (pre.length : Int) < ((toSs (pre ++ Tr.mk kind S T N M flag f l kids :: r)).length : Int) := by
      rw [toSs_length, List.length_append, List.length_cons]; omega
    refine ⟨K + 3, ?_⟩
    have hw : wrap64 ((pre.length : Int) + 1) = ((pre.length + 1 : Nat) : Int) := by unfold wrap64; omega
    have ef : incipitlaw11_inside.f (K + 1) (toSs kids) f l (((kind : Nat) : Int) == 3) = some true := by
      have e3 : (((kind : Nat) : Int) == 3) = decide (kind = 3) := by rw [Bool.eq_iff_iff]; simp; omega
      rw [e3, incipitlaw11_inside.f]
      exact e1
    have ex : ((((kind : Nat) : Int) == 4) != b) = false := by
      have e4 : (((kind : Nat) : Int) == 4) = b := by rw [Bool.eq_iff_iff]; rw [beq_iff_eq, ← h4]; omega
      rw [e4]; cases b <;> rfl
    rw [incipitlaw11_inside.l0]
    have h0 : (0 : Int) ≤ (pre.length : Int) := Int.natCast_nonneg _
    have g1 : ¬ ((f : Nat) : Int) < (a : Int) := by omega
    have g2 : ¬ ((l : Nat) : Int) < ((f : Nat) : Int) := by omega
    have g3 : ¬ ((l : Nat) : Int) > (hi : Int) := by omega
    rw [if_pos hlen, if_pos h0, rd_at]
    show (if ((f : Nat) : Int) < (a : Int) then _ else if ((l : Nat) : Int) < ((f : Nat) : Int) then _ else if ((l : Nat) : Int) > (hi : Int) then _ else incipitlaw11_inside.j1 (K + 2) (toSs (pre ++ Tr.mk kind S T N M flag f l kids :: r)) hi b pre.length ((((kind : Nat) : Int) == 4) != b) kind (mk S) (mk T) N M flag f l (toSs kids)) = some true
    rw [if_neg g1, if_neg g2, if_neg g3, ex, incipitlaw11_inside.j1]
    rw [if_neg Bool.false_ne_true, ef, hw]
    have fin : (some true : Option Bool).bind (fun t => if t = true then incipitlaw11_inside.l0 (K + 1) (toSs (pre ++ Tr.mk kind S T N M flag f l kids :: r)) hi b f ((pre.length + 1 : Nat) : Int) else some false) = some true := by
      rw [Option.bind_some, if_pos rfl]; exact e2
    rw [fin]
    split
    · rfl
    · split
      · rfl
      · split
        · rfl
        · split
          · rfl
          · rename_i n2 n3 n4 n13
            rcases h5 with h5 | h5
            · unfold holdsB at h5; omega
            · rw [if_neg (by rw [h5]; decide)]
theorem inside_true (F : Bs → List Ref × Bs) (U : Bs → Bs) (nt : Bool) (l : List Bs) (hs : ∀ s ∈ l, phi s ≤ 1000) (hl : l.length ≤ 200) :
    ∃ k, incipitlaw11_inside.f k (toSs (parse F U nt l).1) 0 ((l.length : Int) - 1) false = some true := by
  by_cases h0 : l = []
  · subst h0
    refine ⟨2, ?_⟩
    rw [incipitlaw11_inside.f, incipitlaw11_inside.l0]
    exact if_neg (by show ¬ ((0 : Int) < 0); omega)
  · have I := parse_ins F U nt l hs hl
    obtain ⟨k, e⟩ := ins_l0 I [] (by have := I.len; simpa using this)
    refine ⟨k + 1, ?_⟩
    have hp : 0 < l.length := List.length_pos_iff.2 h0
    have : ((l.length - 1 : Nat) : Int) = (l.length : Int) - 1 := by omega
    rw [this] at e
    rw [incipitlaw11_inside.f]
    exact e
end Bk
end Go.Proofs.YtehmcahdjldhbaaGreatDoor
end
section
/- Law 11: BlockInside answers true. -/
open Go Go.RowKit Go.Proofs.YtehmcahdjldhbaaGreatDoorW.PrintWords
set_option linter.unusedVariables false
set_option linter.unusedSimpArgs false
set_option maxRecDepth 100000
namespace Go.Proofs.YtehmcahdjldhbaaGreatDoor
open Wk
namespace Tx
open Bk (LinesAt ParsePost parse toSs k32 TBk)
set_option maxHeartbeats 4000000 in
theorem inside_law (w : World) (hE : Env w) (v : Value) (l : List Bs) (hv : LinesAt w v l) (mask : Int) :
    Calls Tryz.prog 3 #[v, .int .i64 mask] w fun e w' => e = .returned (.bool true) ∧ Below w.heap.size w w' := by
  obtain ⟨A, c, rfl⟩ : ∃ A c, v = .slice A l.length c := hv.form
  have AW := awake_any w hE
  have FE := fun w1 (hb : Below w.heap.size w w1) => few_any w1 _ l (hv.below hb)
  cases hf : few l with
  | false =>
    rw [hf] at FE
    go_enter Tryz.func3, Tryz.ntmps3
    go_wp2_with (first
      | (go_at_call 11; (with_reducible refine AW.mono ?_); rintro e w1 ⟨rfl, b1⟩)
      | (go_at_call 12; (with_reducible refine (FE _ b1).mono ?_); rintro e w2 ⟨rfl, b2⟩; have b3 := b1.trans (b2.mono b1.size)))
    go_ret
    exact ⟨rfl, b3⟩
  | true =>
    rw [hf] at FE
    have hf2 : l.length ≤ 40 ∧ ∀ s ∈ l, s.length ≤ 80 := by
      unfold few at hf
      simpa using hf
    have PA := fun w1 (hb : Below w.heap.size w w1) => parse_at w1 (hE.below hb) l _ (hv.below hb) mask (by omega) (fun s h => by have := hf2.2 s h; omega)
    unfold ParsePost at PA
    obtain ⟨k, hk⟩ := Bk.inside_true FF unescF (Bk.notesOf mask) l (fun s h => by have := hf2.2 s h; have := phi_four s; omega) (by omega)
    generalize (parse FF unescF (Bk.notesOf mask) l).1 = X at *
    generalize (parse FF unescF (Bk.notesOf mask) l).2 = Y at *
    have hl40 : l.length ≤ 40 := hf2.1
    clear hf2 hf
    go_enter Tryz.func3, Tryz.ntmps3
    go_wp2_with (first
      | (go_at_call 11; (with_reducible refine AW.mono ?_); rintro e w1 ⟨rfl, b1⟩)
      | (go_at_call 12; (with_reducible refine (FE _ b1).mono ?_); rintro e w2 ⟨rfl, b2⟩; have b3 := b1.trans (b2.mono b1.size))
      | (go_at_call 13; (with_reducible refine (PA _ b3).mono ?_); rintro e w4 ⟨v1, v2, rfl, R1, -, b4⟩; have b5 := b3.trans (b4.mono b3.size); obtain ⟨A1, c1, rfl, hc1, C1⟩ := Kd.R_reads R1)
      | (go_at_call 14; (with_reducible refine (Bk.incipitlaw11_inside.calls k A1 c1 _ _ _ _ true w4 C1 hc1 hk).mono ?_); rintro e w6 ⟨rfl, b6⟩; have b7 := b5.trans (b6.mono b5.size)))
    go_ret
    exact ⟨rfl, b7⟩
end Tx
end Go.Proofs.YtehmcahdjldhbaaGreatDoor
end
section
/- BlockInside, as its row asks for it. -/
open Go Go.RowKit
set_option linter.unusedVariables false
namespace Go.Proofs.YtehmcahdjldhbaaGreatDoor
open Wk
namespace Tx
open Bk (LinesAt NilOk)
theorem inside_row (v : Value) (l : List Bs) (mask : Int) (w : World) (hE : Env w) (hv : LinesAt w v l) (hn : NilOk v) (h1 : -9223372036854775808 ≤ mask) (h2 : mask ≤ 9223372036854775807) :
    Calls Tryz.prog 3 #[v, .int .i64 mask] w fun e w' => e = .returned (.bool true) ∧ Below w.heap.size w w' := inside_law w hE v l hv mask
end Tx
end Go.Proofs.YtehmcahdjldhbaaGreatDoor
end
