/- Parts of this session's proof, one behind the other: I1. -/
import Derived.Test.YtehmcahdjldhbaaGreatDoorZ13
import Derived.Test.YtehmcahdjldhbaaGreatDoorZ01
import Derived.OrdersHeld
import Derived.Laws.BitsLemmas
import Derived.RowKit3
import Derived.BigQuiet
import Derived.WideLaws
import Derived.Deep.QuietTactic
import Derived.Deep.DeepCutAuto
import Derived.Deep.CutBlock
import Derived.Deep.RegionHeld3
import Derived.Deep.LoopGhost
import Derived.Lib.AppendStr
import Derived.ArgAppend
import Derived.Laws.IdiomCopy
import Derived.Lib.ConvBytes
import Derived.Laws.BytesArg
section
/- Printed by the kit's print.sh for this seat. -/
namespace Go.Proofs.YtehmcahdjldhbaaGreatDoor.Bk
open Go.RowKit Go.Proofs.YtehmcahdjldhbaaGreatDoorW.PrintWords
set_option linter.unusedVariables false
set_option linter.unusedSimpArgs false
/-! ### incipitlaw11_inside: function 14 -/
mutual
def incipitlaw11_inside.l0 : Nat → List (S32) → Int → Bool → Int → Int → Option (Bool)
  | 0, _, _, _, _, _ => none
  | k + 1, x0, x2, x3, x9, x10 => if x10 < (x0.length : Int) then (if 0 ≤ x10 then (if ((rd_T32 x0 x10).f6) < x9 then (incipitlaw11_inside.j1 k x0 x2 x3 x10 true ((rd_T32 x0 x10).f0) ((rd_T32 x0 x10).f1) ((rd_T32 x0 x10).f2) ((rd_T32 x0 x10).f3) ((rd_T32 x0 x10).f4) ((rd_T32 x0 x10).f5) ((rd_T32 x0 x10).f6) ((rd_T32 x0 x10).f7) ((rd_T32 x0 x10).f8)) else (if ((rd_T32 x0 x10).f7) < ((rd_T32 x0 x10).f6) then (incipitlaw11_inside.j1 k x0 x2 x3 x10 true ((rd_T32 x0 x10).f0) ((rd_T32 x0 x10).f1) ((rd_T32 x0 x10).f2) ((rd_T32 x0 x10).f3) ((rd_T32 x0 x10).f4) ((rd_T32 x0 x10).f5) ((rd_T32 x0 x10).f6) ((rd_T32 x0 x10).f7) ((rd_T32 x0 x10).f8)) else (if ((rd_T32 x0 x10).f7) > x2 then (incipitlaw11_inside.j1 k x0 x2 x3 x10 true ((rd_T32 x0 x10).f0) ((rd_T32 x0 x10).f1) ((rd_T32 x0 x10).f2) ((rd_T32 x0 x10).f3) ((rd_T32 x0 x10).f4) ((rd_T32 x0 x10).f5) ((rd_T32 x0 x10).f6) ((rd_T32 x0 x10).f7) ((rd_T32 x0 x10).f8)) else (incipitlaw11_inside.j1 k x0 x2 x3 x10 ((((rd_T32 x0 x10).f0) == 4) != x3) ((rd_T32 x0 x10).f0) ((rd_T32 x0 x10).f1) ((rd_T32 x0 x10).f2) ((rd_T32 x0 x10).f3) ((rd_T32 x0 x10).f4) ((rd_T32 x0 x10).f5) ((rd_T32 x0 x10).f6) ((rd_T32 x0 x10).f7) ((rd_T32 x0 x10).f8))))) else (none)) else (some true)
def incipitlaw11_inside.j1 : Nat → List (S32) → Int → Bool → Int → Bool → Int → ByteArray → ByteArray → Int → Int → Bool → Int → Int → List (S32) → Option (Bool)
  | 0, _, _, _, _, _, _, _, _, _, _, _, _, _, _ => none
  | k + 1, x0, x2, x3, x10, x47, x188000, x188001, x188002, x188003, x188004, x188005, x188006, x188007, x188008 => if x47 = true then (some false) else (if x188000 = 2 then ((incipitlaw11_inside.f k x188008 x188006 x188007 (x188000 == 3)).bind fun t188 => (if t188 = true then (incipitlaw11_inside.l0 k x0 x2 x3 x188006 (wrap64 (x10 + 1))) else (some false))) else (if x188000 = 3 then ((incipitlaw11_inside.f k x188008 x188006 x188007 (x188000 == 3)).bind fun t189 => (if t189 = true then (incipitlaw11_inside.l0 k x0 x2 x3 x188006 (wrap64 (x10 + 1))) else (some false))) else (if x188000 = 4 then ((incipitlaw11_inside.f k x188008 x188006 x188007 (x188000 == 3)).bind fun t190 => (if t190 = true then (incipitlaw11_inside.l0 k x0 x2 x3 x188006 (wrap64 (x10 + 1))) else (some false))) else (if x188000 = 13 then ((incipitlaw11_inside.f k x188008 x188006 x188007 (x188000 == 3)).bind fun t191 => (if t191 = true then (incipitlaw11_inside.l0 k x0 x2 x3 x188006 (wrap64 (x10 + 1))) else (some false))) else (if (x188008.length : Int) > 0 then (some false) else ((incipitlaw11_inside.f k x188008 x188006 x188007 (x188000 == 3)).bind fun t192 => (if t192 = true then (incipitlaw11_inside.l0 k x0 x2 x3 x188006 (wrap64 (x10 + 1))) else (some false))))))))
def incipitlaw11_inside.f : Nat → List (S32) → Int → Int → Bool → Option (Bool)
  | 0, _, _, _, _ => none
  | k + 1, l0, a1, a2, a3 => incipitlaw11_inside.l0 k l0 a2 a3 a1 0
end
theorem incipitlaw11_inside.mono_l : ∀ k, (∀ y0 y1 y2 y3, LeO (incipitlaw11_inside.f k y0 y1 y2 y3) (incipitlaw11_inside.f (k + 1) y0 y1 y2 y3)) ∧ (∀ y0 y1 y2 y3 y4, LeO (incipitlaw11_inside.l0 k y0 y1 y2 y3 y4) (incipitlaw11_inside.l0 (k + 1) y0 y1 y2 y3 y4)) ∧ (∀ y0 y1 y2 y3 y4 y5 y6 y7 y8 y9 y10 y11 y12 y13, LeO (incipitlaw11_inside.j1 k y0 y1 y2 y3 y4 y5 y6 y7 y8 y9 y10 y11 y12 y13) (incipitlaw11_inside.j1 (k + 1) y0 y1 y2 y3 y4 y5 y6 y7 y8 y9 y10 y11 y12 y13))
  | 0 => ⟨fun _ _ _ _ r h => by simp [incipitlaw11_inside.f] at h, fun _ _ _ _ _ r h => by simp [incipitlaw11_inside.l0] at h, fun _ _ _ _ _ _ _ _ _ _ _ _ _ _ r h => by simp [incipitlaw11_inside.j1] at h⟩
  | k + 1 => by
    obtain ⟨ih0, ih1, ih2⟩ := incipitlaw11_inside.mono_l k
    refine ⟨?_, ?_, ?_⟩
    · intro y0 y1 y2 y3
      unfold incipitlaw11_inside.f
      repeat' first
      | (with_reducible exact ih0 _ _ _ _)
      | (with_reducible exact ih1 _ _ _ _ _)
      | (with_reducible exact ih2 _ _ _ _ _ _ _ _ _ _ _ _ _ _)
      | (with_reducible exact LeO.refl _)
      | (with_reducible exact LeO.none _)
      | (with_reducible refine LeO.ite ?_ ?_)
      | (with_reducible refine LeO.bind ?_ (fun _ => ?_))
      | exact ih0 _ _ _ _
      | exact ih1 _ _ _ _ _
      | exact ih2 _ _ _ _ _ _ _ _ _ _ _ _ _ _
      | exact LeO.none _
      | refine LeO.ite ?_ ?_
      | refine LeO.bind ?_ (fun _ => ?_)
    · intro y0 y1 y2 y3 y4
      unfold incipitlaw11_inside.l0
      repeat' first
      | (with_reducible exact ih0 _ _ _ _)
      | (with_reducible exact ih1 _ _ _ _ _)
      | (with_reducible exact ih2 _ _ _ _ _ _ _ _ _ _ _ _ _ _)
      | (with_reducible exact LeO.refl _)
      | (with_reducible exact LeO.none _)
      | (with_reducible refine LeO.ite ?_ ?_)
      | (with_reducible refine LeO.bind ?_ (fun _ => ?_))
      | exact ih0 _ _ _ _
      | exact ih1 _ _ _ _ _
      | exact ih2 _ _ _ _ _ _ _ _ _ _ _ _ _ _
      | exact LeO.none _
      | refine LeO.ite ?_ ?_
      | refine LeO.bind ?_ (fun _ => ?_)
    · intro y0 y1 y2 y3 y4 y5 y6 y7 y8 y9 y10 y11 y12 y13
      unfold incipitlaw11_inside.j1
      repeat' first
      | (with_reducible exact ih0 _ _ _ _)
      | (with_reducible exact ih1 _ _ _ _ _)
      | (with_reducible exact ih2 _ _ _ _ _ _ _ _ _ _ _ _ _ _)
      | (with_reducible exact LeO.refl _)
      | (with_reducible exact LeO.none _)
      | (with_reducible refine LeO.ite ?_ ?_)
      | (with_reducible refine LeO.bind ?_ (fun _ => ?_))
      | exact ih0 _ _ _ _
      | exact ih1 _ _ _ _ _
      | exact ih2 _ _ _ _ _ _ _ _ _ _ _ _ _ _
      | exact LeO.none _
      | refine LeO.ite ?_ ?_
      | refine LeO.bind ?_ (fun _ => ?_)
theorem incipitlaw11_inside.mono : ∀ a0 a1 a2 a3 k, LeO (incipitlaw11_inside.f k a0 a1 a2 a3) (incipitlaw11_inside.f (k + 1) a0 a1 a2 a3) := by
  intro a0 a1 a2 a3 k
  obtain ⟨ih0, ih1, ih2⟩ := incipitlaw11_inside.mono_l k
  exact ih0 a0 a1 a2 a3
set_option maxHeartbeats 8000000 in
set_option maxRecDepth 100000 in
theorem incipitlaw11_inside.calls (k : Nat) : ∀ (A0 : Option Addr) (c0 : Nat) (l0 : List (S32)) (a1 : Int) (a2 : Int) (a3 : Bool) (r : Bool) (w : World) (hr0 : Kd.C k32 w A0 l0.length l0) (hc0 : l0.length ≤ c0) (h : incipitlaw11_inside.f k l0 a1 a2 a3 = some r),
    Calls Tryz.prog 14 #[.slice A0 l0.length c0, .int .i64 a1, .int .i64 a2, .bool a3] w fun e w' => e = .returned (.bool r) ∧ Below w.heap.size w w' := by
  induction k using Nat.strongRecOn with
  | _ k ih =>
  intro A0 c0 l0 a1 a2 a3 r w hr0 hc0 h
  cases k with
  | zero => exact absurd h (by simp [incipitlaw11_inside.f])
  | succ k =>
  simp only [incipitlaw11_inside.f] at h
  have hu32 := Tryz.underlying32
  have HR0 := Aside0.mk hr0
  have HC0 := Aside0.mk hc0
  clear hr0 hc0
  have HB := Aside0.mk (Below.refl w.heap.size w)
  have H : (incipitlaw11_inside.l0 k l0 a2 a3 a1 0) = some r := h
  clear h
  have H' := Aside0.mk H
  clear H
  go_enter Tryz.func14, Tryz.ntmps14
  go_wp2
  go_loopg [9, 10] k (fun kq v9 v10 w' => ∃ (x9_1 : Int) (x10_1 : Int), v9 = .int .i64 x9_1 ∧ v10 = .int .i64 x10_1 ∧ Aside0 (incipitlaw11_inside.l0 kq l0 a2 a3 x9_1 x10_1 = some r) ∧ Aside0 (kq ≤ k) ∧ Aside0 (Below w.heap.size w w'))
  case atStart => exact ⟨(a1), (0), (by first | rfl | (simp; done) | (simp [*]; done)), (by first | rfl | (simp; done) | (simp [*]; done)), H', ⟨Nat.le_refl _⟩, ⟨by repeat (first | (with_reducible first | exact HB.out | apply below_alloc | apply pw_below_drewN | apply below_drew1) | exact HB.out)⟩⟩
  case round =>
    clear H'
    try clear c1
    try clear p2
    obtain ⟨x9_1, x10_1, rfl, rfl, HA, HK1, HB⟩ := hrel
    cases gk with
    | zero => exact absurd HA.out (by simp [incipitlaw11_inside.l0])
    | succ k1 =>
      have H := HA.out
      clear HA
      simp only [incipitlaw11_inside.l0] at H
      by_cases c5 : x10_1 < (l0.length : Int)
      · rw [if_pos c5] at H
        have c5b0 : decide (x10_1 < (l0.length : Int)) = true := decide_eq_true c5
        clear c5
        by_cases c6 : 0 ≤ x10_1
        · rw [if_pos c6] at H
          have c6b0 : decide (0 ≤ x10_1) = true := decide_eq_true c6
          clear c6
          have HC7 := Aside0.mk H
          clear H
          have p186 : 0 ≤ (x10_1 : Int) := of_decide_eq_true (by first | (with_reducible assumption) | assumption)
          have q186 : x10_1 < (l0.length : Int) := of_decide_eq_true (by first | (with_reducible assumption) | assumption)
          obtain ⟨ad186, A186_8, c186_8, e186, hx186_0, hx186_1, hx186_2, hx186_3, hx186_4, hx186_5, hx186_6, hx186_7, hx186_8, hl186_8, hi186_8⟩ := at_T32 HR0.out x10_1 p186 q186
          cases e186
          replace hx186_0 := (HB.out.cell (World.block_lt_of_cell? w _ hx186_0)).trans hx186_0
          replace hx186_1 := (HB.out.cell (World.block_lt_of_cell? w _ hx186_1)).trans hx186_1
          replace hx186_2 := (HB.out.cell (World.block_lt_of_cell? w _ hx186_2)).trans hx186_2
          replace hx186_3 := (HB.out.cell (World.block_lt_of_cell? w _ hx186_3)).trans hx186_3
          replace hx186_4 := (HB.out.cell (World.block_lt_of_cell? w _ hx186_4)).trans hx186_4
          replace hx186_5 := (HB.out.cell (World.block_lt_of_cell? w _ hx186_5)).trans hx186_5
          replace hx186_6 := (HB.out.cell (World.block_lt_of_cell? w _ hx186_6)).trans hx186_6
          replace hx186_7 := (HB.out.cell (World.block_lt_of_cell? w _ hx186_7)).trans hx186_7
          replace hx186_8 := (HB.out.cell (World.block_lt_of_cell? w _ hx186_8)).trans hx186_8
          have HR186_8 := Aside0.mk hi186_8
          have HC186_8 := Aside0.mk hl186_8
          clear hi186_8 hl186_8
          replace p186 := eq_true p186
          replace q186 := eq_true q186
          go_upto_region 6 with (first | ((with_reducible refine gate_dst (N := 11) rfl ?_); (try (refine gate_guard (by rfl) ?_; dsimp only)); refine box_event ?hg (N := 11) ?hd (cs := #[.int .i64 0, .string (⟨#[]⟩ : ByteArray), .string (⟨#[]⟩ : ByteArray), .int .i64 0, .int .i64 0, .bool false, .int .i64 0, .int .i64 0, .slice none 0 0]) (t := 32) ?hr ?_; (case hd => rfl); (case hg => rfl); (case hr => first | (go_simp; done) | (go_simp; rfl)); intro gb187 hg w8 hbox hb; have n0_ := Aside0.mk (below_step (by repeat (first | (with_reducible first | exact HB.out | apply below_alloc | apply pw_below_drewN | apply below_drew1) | exact HB.out)) hb); have n1_ := Aside0.mk (hbox); have n2_ := Aside0.mk ((by rw [hg]; exact (below_size (by repeat (first | (with_reducible first | exact HB.out | apply below_alloc | apply pw_below_drewN | apply below_drew1) | exact HB.out))) : w.heap.size ≤ gb187)); have n3_ := Aside0.mk ((by rw [hg]; exact (below_size (by repeat (first | (with_reducible first | exact HB.out | apply below_alloc | apply pw_below_drewN | apply below_drew1) | exact HB.out))) : w.heap.size ≤ gb187)); clear HB; have HB := n0_; have BK187 := n1_; have GW187 := n2_; have GE187 := n3_; clear n0_ n1_ n2_ n3_; clear hb hbox hg; have hcz9_0 : w8.cell? ⟨gb187, 0, none⟩ = some (.int .i64 0) := (blk_cell BK187.out 0).trans rfl; have hcz9_1 : w8.cell? ⟨gb187, 1, none⟩ = some (.string (⟨#[]⟩ : ByteArray)) := (blk_cell BK187.out 1).trans rfl; have hcz9_2 : w8.cell? ⟨gb187, 2, none⟩ = some (.string (⟨#[]⟩ : ByteArray)) := (blk_cell BK187.out 2).trans rfl; have hcz9_3 : w8.cell? ⟨gb187, 3, none⟩ = some (.int .i64 0) := (blk_cell BK187.out 3).trans rfl; have hcz9_4 : w8.cell? ⟨gb187, 4, none⟩ = some (.int .i64 0) := (blk_cell BK187.out 4).trans rfl; have hcz9_5 : w8.cell? ⟨gb187, 5, none⟩ = some (.bool false) := (blk_cell BK187.out 5).trans rfl; have hcz9_6 : w8.cell? ⟨gb187, 6, none⟩ = some (.int .i64 0) := (blk_cell BK187.out 6).trans rfl; have hcz9_7 : w8.cell? ⟨gb187, 7, none⟩ = some (.int .i64 0) := (blk_cell BK187.out 7).trans rfl; have hcz9_8 : w8.cell? ⟨gb187, 8, none⟩ = some (.slice none 0 0) := (blk_cell BK187.out 8).trans rfl; have hfz9_0 := blk_frozen BK187.out 0; have hfz9_1 := blk_frozen BK187.out 1; have hfz9_2 := blk_frozen BK187.out 2; have hfz9_3 := blk_frozen BK187.out 3; have hfz9_4 := blk_frozen BK187.out 4; have hfz9_5 := blk_frozen BK187.out 5; have hfz9_6 := blk_frozen BK187.out 6; have hfz9_7 := blk_frozen BK187.out 7; have hfz9_8 := blk_frozen BK187.out 8))
          (try simp only [Act.put, List.setIfInBounds_toArray, List.set_cons_zero, List.set_cons_succ])
          go_cut [47] (fun v47 wc => ∃ (kq : Nat) (x47_6 : Bool), v47 = .bool x47_6 ∧ Aside0 (incipitlaw11_inside.j1 kq l0 a2 a3 x10_1 x47_6 ((rd_T32 l0 x10_1).f0) ((rd_T32 l0 x10_1).f1) ((rd_T32 l0 x10_1).f2) ((rd_T32 l0 x10_1).f3) ((rd_T32 l0 x10_1).f4) ((rd_T32 l0 x10_1).f5) ((rd_T32 l0 x10_1).f6) ((rd_T32 l0 x10_1).f7) ((rd_T32 l0 x10_1).f8) = some r) ∧ Aside0 (kq ≤ k1) ∧ Aside0 (wc.heap[gb187]? = some (.cells #[.int .i64 ((rd_T32 l0 x10_1).f0), .string ((rd_T32 l0 x10_1).f1), .string ((rd_T32 l0 x10_1).f2), .int .i64 ((rd_T32 l0 x10_1).f3), .int .i64 ((rd_T32 l0 x10_1).f4), .bool ((rd_T32 l0 x10_1).f5), .int .i64 ((rd_T32 l0 x10_1).f6), .int .i64 ((rd_T32 l0 x10_1).f7), (.slice A186_8 ((rd_T32 l0 x10_1).f8).length c186_8)] 32 (0, 0))) ∧ Aside0 (Below w.heap.size w wc))
          case first =>
            have H := HC7.out
            clear HC7
            by_cases c10 : ((rd_T32 l0 x10_1).f6) < x9_1
            · rw [if_pos c10] at H
              have c10b0 : decide (((rd_T32 l0 x10_1).f6) < x9_1) = true := decide_eq_true c10
              clear c10
              (first | rw [c10b0] | (simp only [i64_w, i32_w]; rw [c10b0]) | skip)
              have H' := Aside0.mk H
              clear H
              have hcz11_0 : w8.cell? ⟨gb187, 0, none⟩ = some (.int .i64 0) := (blk_cell BK187.out 0).trans rfl
              have hcz11_1 : w8.cell? ⟨gb187, 1, none⟩ = some (.string (⟨#[]⟩ : ByteArray)) := (blk_cell BK187.out 1).trans rfl
              have hcz11_2 : w8.cell? ⟨gb187, 2, none⟩ = some (.string (⟨#[]⟩ : ByteArray)) := (blk_cell BK187.out 2).trans rfl
              have hcz11_3 : w8.cell? ⟨gb187, 3, none⟩ = some (.int .i64 0) := (blk_cell BK187.out 3).trans rfl
              have hcz11_4 : w8.cell? ⟨gb187, 4, none⟩ = some (.int .i64 0) := (blk_cell BK187.out 4).trans rfl
              have hcz11_5 : w8.cell? ⟨gb187, 5, none⟩ = some (.bool false) := (blk_cell BK187.out 5).trans rfl
              have hcz11_6 : w8.cell? ⟨gb187, 6, none⟩ = some (.int .i64 0) := (blk_cell BK187.out 6).trans rfl
              have hcz11_7 : w8.cell? ⟨gb187, 7, none⟩ = some (.int .i64 0) := (blk_cell BK187.out 7).trans rfl
              have hcz11_8 : w8.cell? ⟨gb187, 8, none⟩ = some (.slice none 0 0) := (blk_cell BK187.out 8).trans rfl
              have hfz11_0 := blk_frozen BK187.out 0
              have hfz11_1 := blk_frozen BK187.out 1
              have hfz11_2 := blk_frozen BK187.out 2
              have hfz11_3 := blk_frozen BK187.out 3
              have hfz11_4 := blk_frozen BK187.out 4
              have hfz11_5 := blk_frozen BK187.out 5
              have hfz11_6 := blk_frozen BK187.out 6
              have hfz11_7 := blk_frozen BK187.out 7
              have hfz11_8 := blk_frozen BK187.out 8
              go_wp2
              go_meet
              case rel => exact ⟨_, (true), (by first | rfl | (simp; done) | (simp [*]; done)), H', ⟨by have := HK1.out; first | omega | exact Nat.le_refl _⟩, ⟨by (with_reducible repeat (first | refine blk_drewN ?_ _ | refine blk_drew ?_ | refine blk_alloc ?_ _)); refine blk_put (cs := #[.int .i64 ((rd_T32 l0 x10_1).f0), .string ((rd_T32 l0 x10_1).f1), .string ((rd_T32 l0 x10_1).f2), .int .i64 ((rd_T32 l0 x10_1).f3), .int .i64 ((rd_T32 l0 x10_1).f4), .bool ((rd_T32 l0 x10_1).f5), .int .i64 ((rd_T32 l0 x10_1).f6), .int .i64 ((rd_T32 l0 x10_1).f7), .slice none 0 0]) ?_ 8 _ rfl; (with_reducible repeat (first | refine blk_drewN ?_ _ | refine blk_drew ?_ | refine blk_alloc ?_ _)); refine blk_put (cs := #[.int .i64 ((rd_T32 l0 x10_1).f0), .string ((rd_T32 l0 x10_1).f1), .string ((rd_T32 l0 x10_1).f2), .int .i64 ((rd_T32 l0 x10_1).f3), .int .i64 ((rd_T32 l0 x10_1).f4), .bool ((rd_T32 l0 x10_1).f5), .int .i64 ((rd_T32 l0 x10_1).f6), .int .i64 0, .slice none 0 0]) ?_ 7 _ rfl; (with_reducible repeat (first | refine blk_drewN ?_ _ | refine blk_drew ?_ | refine blk_alloc ?_ _)); refine blk_put (cs := #[.int .i64 ((rd_T32 l0 x10_1).f0), .string ((rd_T32 l0 x10_1).f1), .string ((rd_T32 l0 x10_1).f2), .int .i64 ((rd_T32 l0 x10_1).f3), .int .i64 ((rd_T32 l0 x10_1).f4), .bool ((rd_T32 l0 x10_1).f5), .int .i64 0, .int .i64 0, .slice none 0 0]) ?_ 6 _ rfl; (with_reducible repeat (first | refine blk_drewN ?_ _ | refine blk_drew ?_ | refine blk_alloc ?_ _)); refine blk_put (cs := #[.int .i64 ((rd_T32 l0 x10_1).f0), .string ((rd_T32 l0 x10_1).f1), .string ((rd_T32 l0 x10_1).f2), .int .i64 ((rd_T32 l0 x10_1).f3), .int .i64 ((rd_T32 l0 x10_1).f4), .bool false, .int .i64 0, .int .i64 0, .slice none 0 0]) ?_ 5 _ rfl; (with_reducible repeat (first | refine blk_drewN ?_ _ | refine blk_drew ?_ | refine blk_alloc ?_ _)); refine blk_put (cs := #[.int .i64 ((rd_T32 l0 x10_1).f0), .string ((rd_T32 l0 x10_1).f1), .string ((rd_T32 l0 x10_1).f2), .int .i64 ((rd_T32 l0 x10_1).f3), .int .i64 0, .bool false, .int .i64 0, .int .i64 0, .slice none 0 0]) ?_ 4 _ rfl; (with_reducible repeat (first | refine blk_drewN ?_ _ | refine blk_drew ?_ | refine blk_alloc ?_ _)); refine blk_put (cs := #[.int .i64 ((rd_T32 l0 x10_1).f0), .string ((rd_T32 l0 x10_1).f1), .string ((rd_T32 l0 x10_1).f2), .int .i64 0, .int .i64 0, .bool false, .int .i64 0, .int .i64 0, .slice none 0 0]) ?_ 3 _ rfl; (with_reducible repeat (first | refine blk_drewN ?_ _ | refine blk_drew ?_ | refine blk_alloc ?_ _)); refine blk_put (cs := #[.int .i64 ((rd_T32 l0 x10_1).f0), .string ((rd_T32 l0 x10_1).f1), .string (⟨#[]⟩ : ByteArray), .int .i64 0, .int .i64 0, .bool false, .int .i64 0, .int .i64 0, .slice none 0 0]) ?_ 2 _ rfl; (with_reducible repeat (first | refine blk_drewN ?_ _ | refine blk_drew ?_ | refine blk_alloc ?_ _)); refine blk_put (cs := #[.int .i64 ((rd_T32 l0 x10_1).f0), .string (⟨#[]⟩ : ByteArray), .string (⟨#[]⟩ : ByteArray), .int .i64 0, .int .i64 0, .bool false, .int .i64 0, .int .i64 0, .slice none 0 0]) ?_ 1 _ rfl; (with_reducible repeat (first | refine blk_drewN ?_ _ | refine blk_drew ?_ | refine blk_alloc ?_ _)); refine blk_put (cs := #[.int .i64 0, .string (⟨#[]⟩ : ByteArray), .string (⟨#[]⟩ : ByteArray), .int .i64 0, .int .i64 0, .bool false, .int .i64 0, .int .i64 0, .slice none 0 0]) ?_ 0 _ rfl; (with_reducible repeat (first | refine blk_drewN ?_ _ | refine blk_drew ?_ | refine blk_alloc ?_ _)); exact BK187.out⟩, ⟨by repeat (first | (with_reducible first | exact HB.out | apply below_alloc | apply pw_below_drewN | apply below_drew1 | refine below_set ?_ GE187.out) | exact HB.out)⟩⟩
            · rw [if_neg c10] at H
              have c10b0 : decide (((rd_T32 l0 x10_1).f6) < x9_1) = false := decide_eq_false c10
              clear c10
              (first | rw [c10b0] | (simp only [i64_w, i32_w]; rw [c10b0]) | skip)
              by_cases c12 : ((rd_T32 l0 x10_1).f7) < ((rd_T32 l0 x10_1).f6)
              · rw [if_pos c12] at H
                have c12b0 : decide (((rd_T32 l0 x10_1).f7) < ((rd_T32 l0 x10_1).f6)) = true := decide_eq_true c12
                clear c12
                have H' := Aside0.mk H
                clear H
                have hcz13_0 : w8.cell? ⟨gb187, 0, none⟩ = some (.int .i64 0) := (blk_cell BK187.out 0).trans rfl
                have hcz13_1 : w8.cell? ⟨gb187, 1, none⟩ = some (.string (⟨#[]⟩ : ByteArray)) := (blk_cell BK187.out 1).trans rfl
                have hcz13_2 : w8.cell? ⟨gb187, 2, none⟩ = some (.string (⟨#[]⟩ : ByteArray)) := (blk_cell BK187.out 2).trans rfl
                have hcz13_3 : w8.cell? ⟨gb187, 3, none⟩ = some (.int .i64 0) := (blk_cell BK187.out 3).trans rfl
                have hcz13_4 : w8.cell? ⟨gb187, 4, none⟩ = some (.int .i64 0) := (blk_cell BK187.out 4).trans rfl
                have hcz13_5 : w8.cell? ⟨gb187, 5, none⟩ = some (.bool false) := (blk_cell BK187.out 5).trans rfl
                have hcz13_6 : w8.cell? ⟨gb187, 6, none⟩ = some (.int .i64 0) := (blk_cell BK187.out 6).trans rfl
                have hcz13_7 : w8.cell? ⟨gb187, 7, none⟩ = some (.int .i64 0) := (blk_cell BK187.out 7).trans rfl
                have hcz13_8 : w8.cell? ⟨gb187, 8, none⟩ = some (.slice none 0 0) := (blk_cell BK187.out 8).trans rfl
                have hfz13_0 := blk_frozen BK187.out 0
                have hfz13_1 := blk_frozen BK187.out 1
                have hfz13_2 := blk_frozen BK187.out 2
                have hfz13_3 := blk_frozen BK187.out 3
                have hfz13_4 := blk_frozen BK187.out 4
                have hfz13_5 := blk_frozen BK187.out 5
                have hfz13_6 := blk_frozen BK187.out 6
                have hfz13_7 := blk_frozen BK187.out 7
                have hfz13_8 := blk_frozen BK187.out 8
                go_wp2
                go_meet
                case rel => exact ⟨_, (true), (by first | rfl | (simp; done) | (simp [*]; done)), H', ⟨by have := HK1.out; first | omega | exact Nat.le_refl _⟩, ⟨by (with_reducible repeat (first | refine blk_drewN ?_ _ | refine blk_drew ?_ | refine blk_alloc ?_ _)); refine blk_put (cs := #[.int .i64 ((rd_T32 l0 x10_1).f0), .string ((rd_T32 l0 x10_1).f1), .string ((rd_T32 l0 x10_1).f2), .int .i64 ((rd_T32 l0 x10_1).f3), .int .i64 ((rd_T32 l0 x10_1).f4), .bool ((rd_T32 l0 x10_1).f5), .int .i64 ((rd_T32 l0 x10_1).f6), .int .i64 ((rd_T32 l0 x10_1).f7), .slice none 0 0]) ?_ 8 _ rfl; (with_reducible repeat (first | refine blk_drewN ?_ _ | refine blk_drew ?_ | refine blk_alloc ?_ _)); refine blk_put (cs := #[.int .i64 ((rd_T32 l0 x10_1).f0), .string ((rd_T32 l0 x10_1).f1), .string ((rd_T32 l0 x10_1).f2), .int .i64 ((rd_T32 l0 x10_1).f3), .int .i64 ((rd_T32 l0 x10_1).f4), .bool ((rd_T32 l0 x10_1).f5), .int .i64 ((rd_T32 l0 x10_1).f6), .int .i64 0, .slice none 0 0]) ?_ 7 _ rfl; (with_reducible repeat (first | refine blk_drewN ?_ _ | refine blk_drew ?_ | refine blk_alloc ?_ _)); refine blk_put (cs := #[.int .i64 ((rd_T32 l0 x10_1).f0), .string ((rd_T32 l0 x10_1).f1), .string ((rd_T32 l0 x10_1).f2), .int .i64 ((rd_T32 l0 x10_1).f3), .int .i64 ((rd_T32 l0 x10_1).f4), .bool ((rd_T32 l0 x10_1).f5), .int .i64 0, .int .i64 0, .slice none 0 0]) ?_ 6 _ rfl; (with_reducible repeat (first | refine blk_drewN ?_ _ | refine blk_drew ?_ | refine blk_alloc ?_ _)); refine blk_put (cs := #[.int .i64 ((rd_T32 l0 x10_1).f0), .string ((rd_T32 l0 x10_1).f1), .string ((rd_T32 l0 x10_1).f2), .int .i64 ((rd_T32 l0 x10_1).f3), .int .i64 ((rd_T32 l0 x10_1).f4), .bool false, .int .i64 0, .int .i64 0, .slice none 0 0]) ?_ 5 _ rfl; (with_reducible repeat (first | refine blk_drewN ?_ _ | refine blk_drew ?_ | refine blk_alloc ?_ _)); refine blk_put (cs := #[.int .i64 ((rd_T32 l0 x10_1).f0), .string ((rd_T32 l0 x10_1).f1), .string ((rd_T32 l0 x10_1).f2), .int .i64 ((rd_T32 l0 x10_1).f3), .int .i64 0, .bool false, .int .i64 0, .int .i64 0, .slice none 0 0]) ?_ 4 _ rfl; (with_reducible repeat (first | refine blk_drewN ?_ _ | refine blk_drew ?_ | refine blk_alloc ?_ _)); refine blk_put (cs := #[.int .i64 ((rd_T32 l0 x10_1).f0), .string ((rd_T32 l0 x10_1).f1), .string ((rd_T32 l0 x10_1).f2), .int .i64 0, .int .i64 0, .bool false, .int .i64 0, .int .i64 0, .slice none 0 0]) ?_ 3 _ rfl; (with_reducible repeat (first | refine blk_drewN ?_ _ | refine blk_drew ?_ | refine blk_alloc ?_ _)); refine blk_put (cs := #[.int .i64 ((rd_T32 l0 x10_1).f0), .string ((rd_T32 l0 x10_1).f1), .string (⟨#[]⟩ : ByteArray), .int .i64 0, .int .i64 0, .bool false, .int .i64 0, .int .i64 0, .slice none 0 0]) ?_ 2 _ rfl; (with_reducible repeat (first | refine blk_drewN ?_ _ | refine blk_drew ?_ | refine blk_alloc ?_ _)); refine blk_put (cs := #[.int .i64 ((rd_T32 l0 x10_1).f0), .string (⟨#[]⟩ : ByteArray), .string (⟨#[]⟩ : ByteArray), .int .i64 0, .int .i64 0, .bool false, .int .i64 0, .int .i64 0, .slice none 0 0]) ?_ 1 _ rfl; (with_reducible repeat (first | refine blk_drewN ?_ _ | refine blk_drew ?_ | refine blk_alloc ?_ _)); refine blk_put (cs := #[.int .i64 0, .string (⟨#[]⟩ : ByteArray), .string (⟨#[]⟩ : ByteArray), .int .i64 0, .int .i64 0, .bool false, .int .i64 0, .int .i64 0, .slice none 0 0]) ?_ 0 _ rfl; (with_reducible repeat (first | refine blk_drewN ?_ _ | refine blk_drew ?_ | refine blk_alloc ?_ _)); exact BK187.out⟩, ⟨by repeat (first | (with_reducible first | exact HB.out | apply below_alloc | apply pw_below_drewN | apply below_drew1 | refine below_set ?_ GE187.out) | exact HB.out)⟩⟩
              · rw [if_neg c12] at H
                have c12b0 : decide (((rd_T32 l0 x10_1).f7) < ((rd_T32 l0 x10_1).f6)) = false := decide_eq_false c12
                clear c12
                by_cases c14 : ((rd_T32 l0 x10_1).f7) > a2
                · rw [if_pos c14] at H
                  have c14b0 : decide (a2 < ((rd_T32 l0 x10_1).f7)) = true := decide_eq_true c14
                  clear c14
                  have H' := Aside0.mk H
                  clear H
                  have hcz15_0 : w8.cell? ⟨gb187, 0, none⟩ = some (.int .i64 0) := (blk_cell BK187.out 0).trans rfl
                  have hcz15_1 : w8.cell? ⟨gb187, 1, none⟩ = some (.string (⟨#[]⟩ : ByteArray)) := (blk_cell BK187.out 1).trans rfl
                  have hcz15_2 : w8.cell? ⟨gb187, 2, none⟩ = some (.string (⟨#[]⟩ : ByteArray)) := (blk_cell BK187.out 2).trans rfl
                  have hcz15_3 : w8.cell? ⟨gb187, 3, none⟩ = some (.int .i64 0) := (blk_cell BK187.out 3).trans rfl
                  have hcz15_4 : w8.cell? ⟨gb187, 4, none⟩ = some (.int .i64 0) := (blk_cell BK187.out 4).trans rfl
                  have hcz15_5 : w8.cell? ⟨gb187, 5, none⟩ = some (.bool false) := (blk_cell BK187.out 5).trans rfl
                  have hcz15_6 : w8.cell? ⟨gb187, 6, none⟩ = some (.int .i64 0) := (blk_cell BK187.out 6).trans rfl
                  have hcz15_7 : w8.cell? ⟨gb187, 7, none⟩ = some (.int .i64 0) := (blk_cell BK187.out 7).trans rfl
                  have hcz15_8 : w8.cell? ⟨gb187, 8, none⟩ = some (.slice none 0 0) := (blk_cell BK187.out 8).trans rfl
                  have hfz15_0 := blk_frozen BK187.out 0
                  have hfz15_1 := blk_frozen BK187.out 1
                  have hfz15_2 := blk_frozen BK187.out 2
                  have hfz15_3 := blk_frozen BK187.out 3
                  have hfz15_4 := blk_frozen BK187.out 4
                  have hfz15_5 := blk_frozen BK187.out 5
                  have hfz15_6 := blk_frozen BK187.out 6
                  have hfz15_7 := blk_frozen BK187.out 7
                  have hfz15_8 := blk_frozen BK187.out 8
                  go_wp2
                  go_meet
                  case rel => exact ⟨_, (true), (by first | rfl | (simp; done) | (simp [*]; done)), H', ⟨by have := HK1.out; first | omega | exact Nat.le_refl _⟩, ⟨by (with_reducible repeat (first | refine blk_drewN ?_ _ | refine blk_drew ?_ | refine blk_alloc ?_ _)); refine blk_put (cs := #[.int .i64 ((rd_T32 l0 x10_1).f0), .string ((rd_T32 l0 x10_1).f1), .string ((rd_T32 l0 x10_1).f2), .int .i64 ((rd_T32 l0 x10_1).f3), .int .i64 ((rd_T32 l0 x10_1).f4), .bool ((rd_T32 l0 x10_1).f5), .int .i64 ((rd_T32 l0 x10_1).f6), .int .i64 ((rd_T32 l0 x10_1).f7), .slice none 0 0]) ?_ 8 _ rfl; (with_reducible repeat (first | refine blk_drewN ?_ _ | refine blk_drew ?_ | refine blk_alloc ?_ _)); refine blk_put (cs := #[.int .i64 ((rd_T32 l0 x10_1).f0), .string ((rd_T32 l0 x10_1).f1), .string ((rd_T32 l0 x10_1).f2), .int .i64 ((rd_T32 l0 x10_1).f3), .int .i64 ((rd_T32 l0 x10_1).f4), .bool ((rd_T32 l0 x10_1).f5), .int .i64 ((rd_T32 l0 x10_1).f6), .int .i64 0, .slice none 0 0]) ?_ 7 _ rfl; (with_reducible repeat (first | refine blk_drewN ?_ _ | refine blk_drew ?_ | refine blk_alloc ?_ _)); refine blk_put (cs := #[.int .i64 ((rd_T32 l0 x10_1).f0), .string ((rd_T32 l0 x10_1).f1), .string ((rd_T32 l0 x10_1).f2), .int .i64 ((rd_T32 l0 x10_1).f3), .int .i64 ((rd_T32 l0 x10_1).f4), .bool ((rd_T32 l0 x10_1).f5), .int .i64 0, .int .i64 0, .slice none 0 0]) ?_ 6 _ rfl; (with_reducible repeat (first | refine blk_drewN ?_ _ | refine blk_drew ?_ | refine blk_alloc ?_ _)); refine blk_put (cs := #[.int .i64 ((rd_T32 l0 x10_1).f0), .string ((rd_T32 l0 x10_1).f1), .string ((rd_T32 l0 x10_1).f2), .int .i64 ((rd_T32 l0 x10_1).f3), .int .i64 ((rd_T32 l0 x10_1).f4), .bool false, .int .i64 0, .int .i64 0, .slice none 0 0]) ?_ 5 _ rfl; (with_reducible repeat (first | refine blk_drewN ?_ _ | refine blk_drew ?_ | refine blk_alloc ?_ _)); refine blk_put (cs := #[.int .i64 ((rd_T32 l0 x10_1).f0), .string ((rd_T32 l0 x10_1).f1), .string ((rd_T32 l0 x10_1).f2), .int .i64 ((rd_T32 l0 x10_1).f3), .int .i64 0, .bool false, .int .i64 0, .int .i64 0, .slice none 0 0]) ?_ 4 _ rfl; (with_reducible repeat (first | refine blk_drewN ?_ _ | refine blk_drew ?_ | refine blk_alloc ?_ _)); refine blk_put (cs := #[.int .i64 ((rd_T32 l0 x10_1).f0), .string ((rd_T32 l0 x10_1).f1), .string ((rd_T32 l0 x10_1).f2), .int .i64 0, .int .i64 0, .bool false, .int .i64 0, .int .i64 0, .slice none 0 0]) ?_ 3 _ rfl; (with_reducible repeat (first | refine blk_drewN ?_ _ | refine blk_drew ?_ | refine blk_alloc ?_ _)); refine blk_put (cs := #[.int .i64 ((rd_T32 l0 x10_1).f0), .string ((rd_T32 l0 x10_1).f1), .string (⟨#[]⟩ : ByteArray), .int .i64 0, .int .i64 0, .bool false, .int .i64 0, .int .i64 0, .slice none 0 0]) ?_ 2 _ rfl; (with_reducible repeat (first | refine blk_drewN ?_ _ | refine blk_drew ?_ | refine blk_alloc ?_ _)); refine blk_put (cs := #[.int .i64 ((rd_T32 l0 x10_1).f0), .string (⟨#[]⟩ : ByteArray), .string (⟨#[]⟩ : ByteArray), .int .i64 0, .int .i64 0, .bool false, .int .i64 0, .int .i64 0, .slice none 0 0]) ?_ 1 _ rfl; (with_reducible repeat (first | refine blk_drewN ?_ _ | refine blk_drew ?_ | refine blk_alloc ?_ _)); refine blk_put (cs := #[.int .i64 0, .string (⟨#[]⟩ : ByteArray), .string (⟨#[]⟩ : ByteArray), .int .i64 0, .int .i64 0, .bool false, .int .i64 0, .int .i64 0, .slice none 0 0]) ?_ 0 _ rfl; (with_reducible repeat (first | refine blk_drewN ?_ _ | refine blk_drew ?_ | refine blk_alloc ?_ _)); exact BK187.out⟩, ⟨by repeat (first | (with_reducible first | exact HB.out | apply below_alloc | apply pw_below_drewN | apply below_drew1 | refine below_set ?_ GE187.out) | exact HB.out)⟩⟩
                · rw [if_neg c14] at H
                  have c14b0 : decide (a2 < ((rd_T32 l0 x10_1).f7)) = false := decide_eq_false c14
                  clear c14
                  have H' := Aside0.mk H
                  clear H
                  have hcz16_0 : w8.cell? ⟨gb187, 0, none⟩ = some (.int .i64 0) := (blk_cell BK187.out 0).trans rfl
                  have hcz16_1 : w8.cell? ⟨gb187, 1, none⟩ = some (.string (⟨#[]⟩ : ByteArray)) := (blk_cell BK187.out 1).trans rfl
                  have hcz16_2 : w8.cell? ⟨gb187, 2, none⟩ = some (.string (⟨#[]⟩ : ByteArray)) := (blk_cell BK187.out 2).trans rfl
                  have hcz16_3 : w8.cell? ⟨gb187, 3, none⟩ = some (.int .i64 0) := (blk_cell BK187.out 3).trans rfl
                  have hcz16_4 : w8.cell? ⟨gb187, 4, none⟩ = some (.int .i64 0) := (blk_cell BK187.out 4).trans rfl
                  have hcz16_5 : w8.cell? ⟨gb187, 5, none⟩ = some (.bool false) := (blk_cell BK187.out 5).trans rfl
                  have hcz16_6 : w8.cell? ⟨gb187, 6, none⟩ = some (.int .i64 0) := (blk_cell BK187.out 6).trans rfl
                  have hcz16_7 : w8.cell? ⟨gb187, 7, none⟩ = some (.int .i64 0) := (blk_cell BK187.out 7).trans rfl
                  have hcz16_8 : w8.cell? ⟨gb187, 8, none⟩ = some (.slice none 0 0) := (blk_cell BK187.out 8).trans rfl
                  have hfz16_0 := blk_frozen BK187.out 0
                  have hfz16_1 := blk_frozen BK187.out 1
                  have hfz16_2 := blk_frozen BK187.out 2
                  have hfz16_3 := blk_frozen BK187.out 3
                  have hfz16_4 := blk_frozen BK187.out 4
                  have hfz16_5 := blk_frozen BK187.out 5
                  have hfz16_6 := blk_frozen BK187.out 6
                  have hfz16_7 := blk_frozen BK187.out 7
                  have hfz16_8 := blk_frozen BK187.out 8
                  go_wp2
                  go_meet
                  case rel => exact ⟨_, (((((rd_T32 l0 x10_1).f0) == 4) != a3)), (by first | rfl | (simp; done) | (simp [*]; done)), H', ⟨by have := HK1.out; first | omega | exact Nat.le_refl _⟩, ⟨by (with_reducible repeat (first | refine blk_drewN ?_ _ | refine blk_drew ?_ | refine blk_alloc ?_ _)); refine blk_put (cs := #[.int .i64 ((rd_T32 l0 x10_1).f0), .string ((rd_T32 l0 x10_1).f1), .string ((rd_T32 l0 x10_1).f2), .int .i64 ((rd_T32 l0 x10_1).f3), .int .i64 ((rd_T32 l0 x10_1).f4), .bool ((rd_T32 l0 x10_1).f5), .int .i64 ((rd_T32 l0 x10_1).f6), .int .i64 ((rd_T32 l0 x10_1).f7), .slice none 0 0]) ?_ 8 _ rfl; (with_reducible repeat (first | refine blk_drewN ?_ _ | refine blk_drew ?_ | refine blk_alloc ?_ _)); refine blk_put (cs := #[.int .i64 ((rd_T32 l0 x10_1).f0), .string ((rd_T32 l0 x10_1).f1), .string ((rd_T32 l0 x10_1).f2), .int .i64 ((rd_T32 l0 x10_1).f3), .int .i64 ((rd_T32 l0 x10_1).f4), .bool ((rd_T32 l0 x10_1).f5), .int .i64 ((rd_T32 l0 x10_1).f6), .int .i64 0, .slice none 0 0]) ?_ 7 _ rfl; (with_reducible repeat (first | refine blk_drewN ?_ _ | refine blk_drew ?_ | refine blk_alloc ?_ _)); refine blk_put (cs := #[.int .i64 ((rd_T32 l0 x10_1).f0), .string ((rd_T32 l0 x10_1).f1), .string ((rd_T32 l0 x10_1).f2), .int .i64 ((rd_T32 l0 x10_1).f3), .int .i64 ((rd_T32 l0 x10_1).f4), .bool ((rd_T32 l0 x10_1).f5), .int .i64 0, .int .i64 0, .slice none 0 0]) ?_ 6 _ rfl; (with_reducible repeat (first | refine blk_drewN ?_ _ | refine blk_drew ?_ | refine blk_alloc ?_ _)); refine blk_put (cs := #[.int .i64 ((rd_T32 l0 x10_1).f0), .string ((rd_T32 l0 x10_1).f1), .string ((rd_T32 l0 x10_1).f2), .int .i64 ((rd_T32 l0 x10_1).f3), .int .i64 ((rd_T32 l0 x10_1).f4), .bool false, .int .i64 0, .int .i64 0, .slice none 0 0]) ?_ 5 _ rfl; (with_reducible repeat (first | refine blk_drewN ?_ _ | refine blk_drew ?_ | refine blk_alloc ?_ _)); refine blk_put (cs := #[.int .i64 ((rd_T32 l0 x10_1).f0), .string ((rd_T32 l0 x10_1).f1), .string ((rd_T32 l0 x10_1).f2), .int .i64 ((rd_T32 l0 x10_1).f3), .int .i64 0, .bool false, .int .i64 0, .int .i64 0, .slice none 0 0]) ?_ 4 _ rfl; (with_reducible repeat (first | refine blk_drewN ?_ _ | refine blk_drew ?_ | refine blk_alloc ?_ _)); refine blk_put (cs := #[.int .i64 ((rd_T32 l0 x10_1).f0), .string ((rd_T32 l0 x10_1).f1), .string ((rd_T32 l0 x10_1).f2), .int .i64 0, .int .i64 0, .bool false, .int .i64 0, .int .i64 0, .slice none 0 0]) ?_ 3 _ rfl; (with_reducible repeat (first | refine blk_drewN ?_ _ | refine blk_drew ?_ | refine blk_alloc ?_ _)); refine blk_put (cs := #[.int .i64 ((rd_T32 l0 x10_1).f0), .string ((rd_T32 l0 x10_1).f1), .string (⟨#[]⟩ : ByteArray), .int .i64 0, .int .i64 0, .bool false, .int .i64 0, .int .i64 0, .slice none 0 0]) ?_ 2 _ rfl; (with_reducible repeat (first | refine blk_drewN ?_ _ | refine blk_drew ?_ | refine blk_alloc ?_ _)); refine blk_put (cs := #[.int .i64 ((rd_T32 l0 x10_1).f0), .string (⟨#[]⟩ : ByteArray), .string (⟨#[]⟩ : ByteArray), .int .i64 0, .int .i64 0, .bool false, .int .i64 0, .int .i64 0, .slice none 0 0]) ?_ 1 _ rfl; (with_reducible repeat (first | refine blk_drewN ?_ _ | refine blk_drew ?_ | refine blk_alloc ?_ _)); refine blk_put (cs := #[.int .i64 0, .string (⟨#[]⟩ : ByteArray), .string (⟨#[]⟩ : ByteArray), .int .i64 0, .int .i64 0, .bool false, .int .i64 0, .int .i64 0, .slice none 0 0]) ?_ 0 _ rfl; (with_reducible repeat (first | refine blk_drewN ?_ _ | refine blk_drew ?_ | refine blk_alloc ?_ _)); exact BK187.out⟩, ⟨by repeat (first | (with_reducible first | exact HB.out | apply below_alloc | apply pw_below_drewN | apply below_drew1 | refine below_set ?_ GE187.out) | exact HB.out)⟩⟩
          case rest =>
            clear HC7
            try clear c1
            try clear p1
            try clear q1
            try clear hx1
            try clear p2
            try clear c5
            try clear c5b0
            try clear c6
            try clear c6b0
            try clear c10
            try clear c10b0
            try clear c12
            try clear c12b0
            try clear c14
            try clear c14b0
            try clear hcz11_0
            try clear hcz11_1
            try clear hcz11_2
            try clear hcz11_3
            try clear hcz11_4
            try clear hcz11_5
            try clear hcz11_6
            try clear hcz11_7
            try clear hcz11_8
            try clear hcz13_0
            try clear hcz13_1
            try clear hcz13_2
            try clear hcz13_3
            try clear hcz13_4
            try clear hcz13_5
            try clear hcz13_6
            try clear hcz13_7
            try clear hcz13_8
            try clear hcz15_0
            try clear hcz15_1
            try clear hcz15_2
            try clear hcz15_3
            try clear hcz15_4
            try clear hcz15_5
            try clear hcz15_6
            try clear hcz15_7
            try clear hcz15_8
            try clear hcz16_0
            try clear hcz16_1
            try clear hcz16_2
            try clear hcz16_3
            try clear hcz16_4
            try clear hcz16_5
            try clear hcz16_6
            try clear hcz16_7
            try clear hcz16_8
            try clear hcz9_0
            try clear hcz9_1
            try clear hcz9_2
            try clear hcz9_3
            try clear hcz9_4
            try clear hcz9_5
            try clear hcz9_6
            try clear hcz9_7
            try clear hcz9_8
            try clear hfz11_0
            try clear hfz11_1
            try clear hfz11_2
            try clear hfz11_3
            try clear hfz11_4
            try clear hfz11_5
            try clear hfz11_6
            try clear hfz11_7
            try clear hfz11_8
            try clear hfz13_0
            try clear hfz13_1
            try clear hfz13_2
            try clear hfz13_3
            try clear hfz13_4
            try clear hfz13_5
            try clear hfz13_6
            try clear hfz13_7
            try clear hfz13_8
            try clear hfz15_0
            try clear hfz15_1
            try clear hfz15_2
            try clear hfz15_3
            try clear hfz15_4
            try clear hfz15_5
            try clear hfz15_6
            try clear hfz15_7
            try clear hfz15_8
            try clear hfz16_0
            try clear hfz16_1
            try clear hfz16_2
            try clear hfz16_3
            try clear hfz16_4
            try clear hfz16_5
            try clear hfz16_6
            try clear hfz16_7
            try clear hfz16_8
            try clear hfz9_0
            try clear hfz9_1
            try clear hfz9_2
            try clear hfz9_3
            try clear hfz9_4
            try clear hfz9_5
            try clear hfz9_6
            try clear hfz9_7
            try clear hfz9_8
            try clear hx186_0
            try clear hx186_1
            try clear hx186_2
            try clear hx186_3
            try clear hx186_4
            try clear hx186_5
            try clear hx186_6
            try clear hx186_7
            try clear hx186_8
            try clear p186
            try clear p2
            try clear q186
            obtain ⟨kq, x47_6, rfl, HA, HJ6, BK187, HB⟩ := hcut
            cases kq with
            | zero => exact absurd HA.out (by simp [incipitlaw11_inside.j1])
            | succ kj6 =>
              have H := HA.out
              clear HA
              simp only [incipitlaw11_inside.j1] at H
              by_cases c17 : x47_6 = true
              · subst c17
                have H1 : (some false) = some r := by rw [if_pos rfl] at H; exact H
                clear H
                have H := H1
                clear H1
                obtain rfl := Option.some.inj H
                go_wp2
                go_ret
                exact ⟨by first | rfl | (simp [errW_none, errW_some] <;> rfl) | (simp [*, errW_none, errW_some] <;> rfl), by repeat (first | (with_reducible first | exact HB.out | apply below_alloc | apply pw_below_drewN | apply below_drew1 | refine below_set ?_ GE187.out) | exact HB.out)⟩
              · replace c17 := Bool.eq_false_iff.mpr c17
                subst c17
                have H1 : (if ((rd_T32 l0 x10_1).f0) = 2 then ((incipitlaw11_inside.f kj6 ((rd_T32 l0 x10_1).f8) ((rd_T32 l0 x10_1).f6) ((rd_T32 l0 x10_1).f7) (((rd_T32 l0 x10_1).f0) == 3)).bind fun t188 => (if t188 = true then (incipitlaw11_inside.l0 kj6 l0 a2 a3 ((rd_T32 l0 x10_1).f6) (wrap64 (x10_1 + 1))) else (some false))) else (if ((rd_T32 l0 x10_1).f0) = 3 then ((incipitlaw11_inside.f kj6 ((rd_T32 l0 x10_1).f8) ((rd_T32 l0 x10_1).f6) ((rd_T32 l0 x10_1).f7) (((rd_T32 l0 x10_1).f0) == 3)).bind fun t189 => (if t189 = true then (incipitlaw11_inside.l0 kj6 l0 a2 a3 ((rd_T32 l0 x10_1).f6) (wrap64 (x10_1 + 1))) else (some false))) else (if ((rd_T32 l0 x10_1).f0) = 4 then ((incipitlaw11_inside.f kj6 ((rd_T32 l0 x10_1).f8) ((rd_T32 l0 x10_1).f6) ((rd_T32 l0 x10_1).f7) (((rd_T32 l0 x10_1).f0) == 3)).bind fun t190 => (if t190 = true then (incipitlaw11_inside.l0 kj6 l0 a2 a3 ((rd_T32 l0 x10_1).f6) (wrap64 (x10_1 + 1))) else (some false))) else (if ((rd_T32 l0 x10_1).f0) = 13 then ((incipitlaw11_inside.f kj6 ((rd_T32 l0 x10_1).f8) ((rd_T32 l0 x10_1).f6) ((rd_T32 l0 x10_1).f7) (((rd_T32 l0 x10_1).f0) == 3)).bind fun t191 => (if t191 = true then (incipitlaw11_inside.l0 kj6 l0 a2 a3 ((rd_T32 l0 x10_1).f6) (wrap64 (x10_1 + 1))) else (some false))) else (if (((rd_T32 l0 x10_1).f8).length : Int) > 0 then (some false) else ((incipitlaw11_inside.f kj6 ((rd_T32 l0 x10_1).f8) ((rd_T32 l0 x10_1).f6) ((rd_T32 l0 x10_1).f7) (((rd_T32 l0 x10_1).f0) == 3)).bind fun t192 => (if t192 = true then (incipitlaw11_inside.l0 kj6 l0 a2 a3 ((rd_T32 l0 x10_1).f6) (wrap64 (x10_1 + 1))) else (some false)))))))) = some r := by rw [if_neg (show ¬ (false = true) by decide)] at H; exact H
                clear H
                have H := H1
                clear H1
                by_cases c18 : ((rd_T32 l0 x10_1).f0) = 2
                · rw [if_pos c18] at H
                  have c18b0 : (((rd_T32 l0 x10_1).f0) == 2) = true := beq_iff_eq.mpr c18
                  have c18b1 : (((rd_T32 l0 x10_1).f0) != 2) = false := bne_eq_false_iff_eq.mpr c18
                  clear c18
                  replace H := Option.bind_eq_some_iff.mp H
                  obtain ⟨t188, A190, H⟩ := H
                  replace H : (if t188 = true then (incipitlaw11_inside.l0 kj6 l0 a2 a3 ((rd_T32 l0 x10_1).f6) (wrap64 (x10_1 + 1))) else (some false)) = some r := H
                  have A19 := Aside0.mk A190
                  clear A190
                  by_cases c20 : t188 = true
                  · subst c20
                    have H1 : (incipitlaw11_inside.l0 kj6 l0 a2 a3 ((rd_T32 l0 x10_1).f6) (wrap64 (x10_1 + 1))) = some r := by rw [if_pos rfl] at H; exact H
                    clear H
                    have H := H1
                    clear H1
                    have H' := Aside0.mk H
                    clear H
                    have hcz21_0 : wc.cell? ⟨gb187, 0, none⟩ = some (.int .i64 ((rd_T32 l0 x10_1).f0)) := (blk_cell BK187.out 0).trans rfl
                    have hcz21_1 : wc.cell? ⟨gb187, 1, none⟩ = some (.string ((rd_T32 l0 x10_1).f1)) := (blk_cell BK187.out 1).trans rfl
                    have hcz21_2 : wc.cell? ⟨gb187, 2, none⟩ = some (.string ((rd_T32 l0 x10_1).f2)) := (blk_cell BK187.out 2).trans rfl
                    have hcz21_3 : wc.cell? ⟨gb187, 3, none⟩ = some (.int .i64 ((rd_T32 l0 x10_1).f3)) := (blk_cell BK187.out 3).trans rfl
                    have hcz21_4 : wc.cell? ⟨gb187, 4, none⟩ = some (.int .i64 ((rd_T32 l0 x10_1).f4)) := (blk_cell BK187.out 4).trans rfl
                    have hcz21_5 : wc.cell? ⟨gb187, 5, none⟩ = some (.bool ((rd_T32 l0 x10_1).f5)) := (blk_cell BK187.out 5).trans rfl
                    have hcz21_6 : wc.cell? ⟨gb187, 6, none⟩ = some (.int .i64 ((rd_T32 l0 x10_1).f6)) := (blk_cell BK187.out 6).trans rfl
                    have hcz21_7 : wc.cell? ⟨gb187, 7, none⟩ = some (.int .i64 ((rd_T32 l0 x10_1).f7)) := (blk_cell BK187.out 7).trans rfl
                    have hcz21_8 : wc.cell? ⟨gb187, 8, none⟩ = some (.slice A186_8 ((rd_T32 l0 x10_1).f8).length c186_8) := (blk_cell BK187.out 8).trans rfl
                    have hfz21_0 := blk_frozen BK187.out 0
                    have hfz21_1 := blk_frozen BK187.out 1
                    have hfz21_2 := blk_frozen BK187.out 2
                    have hfz21_3 := blk_frozen BK187.out 3
                    have hfz21_4 := blk_frozen BK187.out 4
                    have hfz21_5 := blk_frozen BK187.out 5
                    have hfz21_6 := blk_frozen BK187.out 6
                    have hfz21_7 := blk_frozen BK187.out 7
                    have hfz21_8 := blk_frozen BK187.out 8
                    go_wp2_with (first | (go_at_call 14; (with_reducible refine (ih kj6 (by have := HK1.out; have := HJ6.out; omega) _ _ ((rd_T32 l0 x10_1).f8) ((rd_T32 l0 x10_1).f6) ((rd_T32 l0 x10_1).f7) (((rd_T32 l0 x10_1).f0) == 3) true _ ?side1 ?side2 A19.out).mono ?_); (case side1 => repeat (first | exact (Kd.C_below HR186_8.out HB.out) | (with_reducible refine Kd.C_alloc ?_ _) | (with_reducible refine Kd.C_drewN ?_ _) | (with_reducible refine Kd.C_drew ?_))); (case side2 => exact HC186_8.out); rintro e w22 ⟨rfl, hb⟩; have n0_ := Aside0.mk (blk_below (g := gb187) (o := .cells #[.int .i64 ((rd_T32 l0 x10_1).f0), .string ((rd_T32 l0 x10_1).f1), .string ((rd_T32 l0 x10_1).f2), .int .i64 ((rd_T32 l0 x10_1).f3), .int .i64 ((rd_T32 l0 x10_1).f4), .bool ((rd_T32 l0 x10_1).f5), .int .i64 ((rd_T32 l0 x10_1).f6), .int .i64 ((rd_T32 l0 x10_1).f7), .slice A186_8 ((rd_T32 l0 x10_1).f8).length c186_8] 32 (0, 0)) (by (with_reducible repeat (first | refine blk_drewN ?_ _ | refine blk_drew ?_ | refine blk_alloc ?_ _)); exact BK187.out) hb); have n1_ := Aside0.mk (below_step (by repeat (first | (with_reducible first | exact HB.out | apply below_alloc | apply pw_below_drewN | apply below_drew1 | refine below_set ?_ GE187.out) | exact HB.out)) hb); clear BK187; clear HB; have BK187 := n0_; have HB := n1_; clear n0_ n1_; (try clear hb); (try clear hb2); (try clear hk); (try clear hi)))
                    go_roundg kj6
                    case measure => have := HK1.out; have := HJ6.out; omega
                    case rel => exact ⟨(((rd_T32 l0 x10_1).f6)), (wrap64 (x10_1 + 1)), (by first | rfl | (simp; done) | (simp [*]; done)), (by first | rfl | (simp; done) | (simp [*]; done)), H', ⟨by have := HK1.out; have := HJ6.out; omega⟩, ⟨by repeat (first | (with_reducible first | exact HB.out | apply below_alloc | apply pw_below_drewN | apply below_drew1 | refine below_set ?_ GE187.out) | exact HB.out)⟩⟩
                  · replace c20 := Bool.eq_false_iff.mpr c20
                    subst c20
                    have H1 : (some false) = some r := by rw [if_neg (show ¬ (false = true) by decide)] at H; exact H
                    clear H
                    have H := H1
                    clear H1
                    obtain rfl := Option.some.inj H
                    have hcz23_0 : wc.cell? ⟨gb187, 0, none⟩ = some (.int .i64 ((rd_T32 l0 x10_1).f0)) := (blk_cell BK187.out 0).trans rfl
                    have hcz23_1 : wc.cell? ⟨gb187, 1, none⟩ = some (.string ((rd_T32 l0 x10_1).f1)) := (blk_cell BK187.out 1).trans rfl
                    have hcz23_2 : wc.cell? ⟨gb187, 2, none⟩ = some (.string ((rd_T32 l0 x10_1).f2)) := (blk_cell BK187.out 2).trans rfl
                    have hcz23_3 : wc.cell? ⟨gb187, 3, none⟩ = some (.int .i64 ((rd_T32 l0 x10_1).f3)) := (blk_cell BK187.out 3).trans rfl
                    have hcz23_4 : wc.cell? ⟨gb187, 4, none⟩ = some (.int .i64 ((rd_T32 l0 x10_1).f4)) := (blk_cell BK187.out 4).trans rfl
                    have hcz23_5 : wc.cell? ⟨gb187, 5, none⟩ = some (.bool ((rd_T32 l0 x10_1).f5)) := (blk_cell BK187.out 5).trans rfl
                    have hcz23_6 : wc.cell? ⟨gb187, 6, none⟩ = some (.int .i64 ((rd_T32 l0 x10_1).f6)) := (blk_cell BK187.out 6).trans rfl
                    have hcz23_7 : wc.cell? ⟨gb187, 7, none⟩ = some (.int .i64 ((rd_T32 l0 x10_1).f7)) := (blk_cell BK187.out 7).trans rfl
                    have hcz23_8 : wc.cell? ⟨gb187, 8, none⟩ = some (.slice A186_8 ((rd_T32 l0 x10_1).f8).length c186_8) := (blk_cell BK187.out 8).trans rfl
                    have hfz23_0 := blk_frozen BK187.out 0
                    have hfz23_1 := blk_frozen BK187.out 1
                    have hfz23_2 := blk_frozen BK187.out 2
                    have hfz23_3 := blk_frozen BK187.out 3
                    have hfz23_4 := blk_frozen BK187.out 4
                    have hfz23_5 := blk_frozen BK187.out 5
                    have hfz23_6 := blk_frozen BK187.out 6
                    have hfz23_7 := blk_frozen BK187.out 7
                    have hfz23_8 := blk_frozen BK187.out 8
                    go_wp2_with (first | (go_at_call 14; (with_reducible refine (ih kj6 (by have := HK1.out; have := HJ6.out; omega) _ _ ((rd_T32 l0 x10_1).f8) ((rd_T32 l0 x10_1).f6) ((rd_T32 l0 x10_1).f7) (((rd_T32 l0 x10_1).f0) == 3) false _ ?side1 ?side2 A19.out).mono ?_); (case side1 => repeat (first | exact (Kd.C_below HR186_8.out HB.out) | (with_reducible refine Kd.C_alloc ?_ _) | (with_reducible refine Kd.C_drewN ?_ _) | (with_reducible refine Kd.C_drew ?_))); (case side2 => exact HC186_8.out); rintro e w24 ⟨rfl, hb⟩; have n0_ := Aside0.mk (blk_below (g := gb187) (o := .cells #[.int .i64 ((rd_T32 l0 x10_1).f0), .string ((rd_T32 l0 x10_1).f1), .string ((rd_T32 l0 x10_1).f2), .int .i64 ((rd_T32 l0 x10_1).f3), .int .i64 ((rd_T32 l0 x10_1).f4), .bool ((rd_T32 l0 x10_1).f5), .int .i64 ((rd_T32 l0 x10_1).f6), .int .i64 ((rd_T32 l0 x10_1).f7), .slice A186_8 ((rd_T32 l0 x10_1).f8).length c186_8] 32 (0, 0)) (by (with_reducible repeat (first | refine blk_drewN ?_ _ | refine blk_drew ?_ | refine blk_alloc ?_ _)); exact BK187.out) hb); have n1_ := Aside0.mk (below_step (by repeat (first | (with_reducible first | exact HB.out | apply below_alloc | apply pw_below_drewN | apply below_drew1 | refine below_set ?_ GE187.out) | exact HB.out)) hb); clear BK187; clear HB; have BK187 := n0_; have HB := n1_; clear n0_ n1_; (try clear hb); (try clear hb2); (try clear hk); (try clear hi)))
                    go_ret
                    exact ⟨by first | rfl | (simp [errW_none, errW_some] <;> rfl) | (simp [*, errW_none, errW_some] <;> rfl), by repeat (first | (with_reducible first | exact HB.out | apply below_alloc | apply pw_below_drewN | apply below_drew1 | refine below_set ?_ GE187.out) | exact HB.out)⟩
                · rw [if_neg c18] at H
                  have c18b0 : (((rd_T32 l0 x10_1).f0) == 2) = false := beq_eq_false_iff_ne.mpr c18
                  have c18b1 : (((rd_T32 l0 x10_1).f0) != 2) = true := bne_iff_ne.mpr c18
                  by_cases c25 : ((rd_T32 l0 x10_1).f0) = 3
                  · rw [if_pos c25] at H
                    have c25b0 : (((rd_T32 l0 x10_1).f0) == 3) = true := beq_iff_eq.mpr c25
                    have c25b1 : (((rd_T32 l0 x10_1).f0) != 3) = false := bne_eq_false_iff_eq.mpr c25
                    clear c25
                    replace H := Option.bind_eq_some_iff.mp H
                    obtain ⟨t189, A260, H⟩ := H
                    replace H : (if t189 = true then (incipitlaw11_inside.l0 kj6 l0 a2 a3 ((rd_T32 l0 x10_1).f6) (wrap64 (x10_1 + 1))) else (some false)) = some r := H
                    have A26 := Aside0.mk A260
                    clear A260
                    by_cases c27 : t189 = true
                    · subst c27
                      have H1 : (incipitlaw11_inside.l0 kj6 l0 a2 a3 ((rd_T32 l0 x10_1).f6) (wrap64 (x10_1 + 1))) = some r := by rw [if_pos rfl] at H; exact H
                      clear H
                      have H := H1
                      clear H1
                      have H' := Aside0.mk H
                      clear H
                      have hcz28_0 : wc.cell? ⟨gb187, 0, none⟩ = some (.int .i64 ((rd_T32 l0 x10_1).f0)) := (blk_cell BK187.out 0).trans rfl
                      have hcz28_1 : wc.cell? ⟨gb187, 1, none⟩ = some (.string ((rd_T32 l0 x10_1).f1)) := (blk_cell BK187.out 1).trans rfl
                      have hcz28_2 : wc.cell? ⟨gb187, 2, none⟩ = some (.string ((rd_T32 l0 x10_1).f2)) := (blk_cell BK187.out 2).trans rfl
                      have hcz28_3 : wc.cell? ⟨gb187, 3, none⟩ = some (.int .i64 ((rd_T32 l0 x10_1).f3)) := (blk_cell BK187.out 3).trans rfl
                      have hcz28_4 : wc.cell? ⟨gb187, 4, none⟩ = some (.int .i64 ((rd_T32 l0 x10_1).f4)) := (blk_cell BK187.out 4).trans rfl
                      have hcz28_5 : wc.cell? ⟨gb187, 5, none⟩ = some (.bool ((rd_T32 l0 x10_1).f5)) := (blk_cell BK187.out 5).trans rfl
                      have hcz28_6 : wc.cell? ⟨gb187, 6, none⟩ = some (.int .i64 ((rd_T32 l0 x10_1).f6)) := (blk_cell BK187.out 6).trans rfl
                      have hcz28_7 : wc.cell? ⟨gb187, 7, none⟩ = some (.int .i64 ((rd_T32 l0 x10_1).f7)) := (blk_cell BK187.out 7).trans rfl
                      have hcz28_8 : wc.cell? ⟨gb187, 8, none⟩ = some (.slice A186_8 ((rd_T32 l0 x10_1).f8).length c186_8) := (blk_cell BK187.out 8).trans rfl
                      have hfz28_0 := blk_frozen BK187.out 0
                      have hfz28_1 := blk_frozen BK187.out 1
                      have hfz28_2 := blk_frozen BK187.out 2
                      have hfz28_3 := blk_frozen BK187.out 3
                      have hfz28_4 := blk_frozen BK187.out 4
                      have hfz28_5 := blk_frozen BK187.out 5
                      have hfz28_6 := blk_frozen BK187.out 6
                      have hfz28_7 := blk_frozen BK187.out 7
                      have hfz28_8 := blk_frozen BK187.out 8
                      go_wp2_with (first | (go_at_call 14; (with_reducible refine (ih kj6 (by have := HK1.out; have := HJ6.out; omega) _ _ ((rd_T32 l0 x10_1).f8) ((rd_T32 l0 x10_1).f6) ((rd_T32 l0 x10_1).f7) true true _ ?side1 ?side2 (c25b0 ▸ A26.out)).mono ?_); (case side1 => repeat (first | exact (Kd.C_below HR186_8.out HB.out) | (with_reducible refine Kd.C_alloc ?_ _) | (with_reducible refine Kd.C_drewN ?_ _) | (with_reducible refine Kd.C_drew ?_))); (case side2 => exact HC186_8.out); rintro e w29 ⟨rfl, hb⟩; have n0_ := Aside0.mk (blk_below (g := gb187) (o := .cells #[.int .i64 ((rd_T32 l0 x10_1).f0), .string ((rd_T32 l0 x10_1).f1), .string ((rd_T32 l0 x10_1).f2), .int .i64 ((rd_T32 l0 x10_1).f3), .int .i64 ((rd_T32 l0 x10_1).f4), .bool ((rd_T32 l0 x10_1).f5), .int .i64 ((rd_T32 l0 x10_1).f6), .int .i64 ((rd_T32 l0 x10_1).f7), .slice A186_8 ((rd_T32 l0 x10_1).f8).length c186_8] 32 (0, 0)) (by (with_reducible repeat (first | refine blk_drewN ?_ _ | refine blk_drew ?_ | refine blk_alloc ?_ _)); exact BK187.out) hb); have n1_ := Aside0.mk (below_step (by repeat (first | (with_reducible first | exact HB.out | apply below_alloc | apply pw_below_drewN | apply below_drew1 | refine below_set ?_ GE187.out) | exact HB.out)) hb); clear BK187; clear HB; have BK187 := n0_; have HB := n1_; clear n0_ n1_; (try clear hb); (try clear hb2); (try clear hk); (try clear hi)))
                      go_roundg kj6
                      case measure => have := HK1.out; have := HJ6.out; omega
                      case rel => exact ⟨(((rd_T32 l0 x10_1).f6)), (wrap64 (x10_1 + 1)), (by first | rfl | (simp; done) | (simp [*]; done)), (by first | rfl | (simp; done) | (simp [*]; done)), H', ⟨by have := HK1.out; have := HJ6.out; omega⟩, ⟨by repeat (first | (with_reducible first | exact HB.out | apply below_alloc | apply pw_below_drewN | apply below_drew1 | refine below_set ?_ GE187.out) | exact HB.out)⟩⟩
                    · replace c27 := Bool.eq_false_iff.mpr c27
                      subst c27
                      have H1 : (some false) = some r := by rw [if_neg (show ¬ (false = true) by decide)] at H; exact H
                      clear H
                      have H := H1
                      clear H1
                      obtain rfl := Option.some.inj H
                      have hcz30_0 : wc.cell? ⟨gb187, 0, none⟩ = some (.int .i64 ((rd_T32 l0 x10_1).f0)) := (blk_cell BK187.out 0).trans rfl
                      have hcz30_1 : wc.cell? ⟨gb187, 1, none⟩ = some (.string ((rd_T32 l0 x10_1).f1)) := (blk_cell BK187.out 1).trans rfl
                      have hcz30_2 : wc.cell? ⟨gb187, 2, none⟩ = some (.string ((rd_T32 l0 x10_1).f2)) := (blk_cell BK187.out 2).trans rfl
                      have hcz30_3 : wc.cell? ⟨gb187, 3, none⟩ = some (.int .i64 ((rd_T32 l0 x10_1).f3)) := (blk_cell BK187.out 3).trans rfl
                      have hcz30_4 : wc.cell? ⟨gb187, 4, none⟩ = some (.int .i64 ((rd_T32 l0 x10_1).f4)) := (blk_cell BK187.out 4).trans rfl
                      have hcz30_5 : wc.cell? ⟨gb187, 5, none⟩ = some (.bool ((rd_T32 l0 x10_1).f5)) := (blk_cell BK187.out 5).trans rfl
                      have hcz30_6 : wc.cell? ⟨gb187, 6, none⟩ = some (.int .i64 ((rd_T32 l0 x10_1).f6)) := (blk_cell BK187.out 6).trans rfl
                      have hcz30_7 : wc.cell? ⟨gb187, 7, none⟩ = some (.int .i64 ((rd_T32 l0 x10_1).f7)) := (blk_cell BK187.out 7).trans rfl
                      have hcz30_8 : wc.cell? ⟨gb187, 8, none⟩ = some (.slice A186_8 ((rd_T32 l0 x10_1).f8).length c186_8) := (blk_cell BK187.out 8).trans rfl
                      have hfz30_0 := blk_frozen BK187.out 0
                      have hfz30_1 := blk_frozen BK187.out 1
                      have hfz30_2 := blk_frozen BK187.out 2
                      have hfz30_3 := blk_frozen BK187.out 3
                      have hfz30_4 := blk_frozen BK187.out 4
                      have hfz30_5 := blk_frozen BK187.out 5
                      have hfz30_6 := blk_frozen BK187.out 6
                      have hfz30_7 := blk_frozen BK187.out 7
                      have hfz30_8 := blk_frozen BK187.out 8
                      go_wp2_with (first | (go_at_call 14; (with_reducible refine (ih kj6 (by have := HK1.out; have := HJ6.out; omega) _ _ ((rd_T32 l0 x10_1).f8) ((rd_T32 l0 x10_1).f6) ((rd_T32 l0 x10_1).f7) true false _ ?side1 ?side2 (c25b0 ▸ A26.out)).mono ?_); (case side1 => repeat (first | exact (Kd.C_below HR186_8.out HB.out) | (with_reducible refine Kd.C_alloc ?_ _) | (with_reducible refine Kd.C_drewN ?_ _) | (with_reducible refine Kd.C_drew ?_))); (case side2 => exact HC186_8.out); rintro e w31 ⟨rfl, hb⟩; have n0_ := Aside0.mk (blk_below (g := gb187) (o := .cells #[.int .i64 ((rd_T32 l0 x10_1).f0), .string ((rd_T32 l0 x10_1).f1), .string ((rd_T32 l0 x10_1).f2), .int .i64 ((rd_T32 l0 x10_1).f3), .int .i64 ((rd_T32 l0 x10_1).f4), .bool ((rd_T32 l0 x10_1).f5), .int .i64 ((rd_T32 l0 x10_1).f6), .int .i64 ((rd_T32 l0 x10_1).f7), .slice A186_8 ((rd_T32 l0 x10_1).f8).length c186_8] 32 (0, 0)) (by (with_reducible repeat (first | refine blk_drewN ?_ _ | refine blk_drew ?_ | refine blk_alloc ?_ _)); exact BK187.out) hb); have n1_ := Aside0.mk (below_step (by repeat (first | (with_reducible first | exact HB.out | apply below_alloc | apply pw_below_drewN | apply below_drew1 | refine below_set ?_ GE187.out) | exact HB.out)) hb); clear BK187; clear HB; have BK187 := n0_; have HB := n1_; clear n0_ n1_; (try clear hb); (try clear hb2); (try clear hk); (try clear hi)))
                      go_ret
                      exact ⟨by first | rfl | (simp [errW_none, errW_some] <;> rfl) | (simp [*, errW_none, errW_some] <;> rfl), by repeat (first | (with_reducible first | exact HB.out | apply below_alloc | apply pw_below_drewN | apply below_drew1 | refine below_set ?_ GE187.out) | exact HB.out)⟩
                  · rw [if_neg c25] at H
                    have c25b0 : (((rd_T32 l0 x10_1).f0) == 3) = false := beq_eq_false_iff_ne.mpr c25
                    have c25b1 : (((rd_T32 l0 x10_1).f0) != 3) = true := bne_iff_ne.mpr c25
                    by_cases c32 : ((rd_T32 l0 x10_1).f0) = 4
                    · rw [if_pos c32] at H
                      have c32b0 : (((rd_T32 l0 x10_1).f0) == 4) = true := beq_iff_eq.mpr c32
                      have c32b1 : (((rd_T32 l0 x10_1).f0) != 4) = false := bne_eq_false_iff_eq.mpr c32
                      clear c32
                      replace H := Option.bind_eq_some_iff.mp H
                      obtain ⟨t190, A330, H⟩ := H
                      replace H : (if t190 = true then (incipitlaw11_inside.l0 kj6 l0 a2 a3 ((rd_T32 l0 x10_1).f6) (wrap64 (x10_1 + 1))) else (some false)) = some r := H
                      have A33 := Aside0.mk A330
                      clear A330
                      by_cases c34 : t190 = true
                      · subst c34
                        have H1 : (incipitlaw11_inside.l0 kj6 l0 a2 a3 ((rd_T32 l0 x10_1).f6) (wrap64 (x10_1 + 1))) = some r := by rw [if_pos rfl] at H; exact H
                        clear H
                        have H := H1
                        clear H1
                        have H' := Aside0.mk H
                        clear H
                        have hcz35_0 : wc.cell? ⟨gb187, 0, none⟩ = some (.int .i64 ((rd_T32 l0 x10_1).f0)) := (blk_cell BK187.out 0).trans rfl
                        have hcz35_1 : wc.cell? ⟨gb187, 1, none⟩ = some (.string ((rd_T32 l0 x10_1).f1)) := (blk_cell BK187.out 1).trans rfl
                        have hcz35_2 : wc.cell? ⟨gb187, 2, none⟩ = some (.string ((rd_T32 l0 x10_1).f2)) := (blk_cell BK187.out 2).trans rfl
                        have hcz35_3 : wc.cell? ⟨gb187, 3, none⟩ = some (.int .i64 ((rd_T32 l0 x10_1).f3)) := (blk_cell BK187.out 3).trans rfl
                        have hcz35_4 : wc.cell? ⟨gb187, 4, none⟩ = some (.int .i64 ((rd_T32 l0 x10_1).f4)) := (blk_cell BK187.out 4).trans rfl
                        have hcz35_5 : wc.cell? ⟨gb187, 5, none⟩ = some (.bool ((rd_T32 l0 x10_1).f5)) := (blk_cell BK187.out 5).trans rfl
                        have hcz35_6 : wc.cell? ⟨gb187, 6, none⟩ = some (.int .i64 ((rd_T32 l0 x10_1).f6)) := (blk_cell BK187.out 6).trans rfl
                        have hcz35_7 : wc.cell? ⟨gb187, 7, none⟩ = some (.int .i64 ((rd_T32 l0 x10_1).f7)) := (blk_cell BK187.out 7).trans rfl
                        have hcz35_8 : wc.cell? ⟨gb187, 8, none⟩ = some (.slice A186_8 ((rd_T32 l0 x10_1).f8).length c186_8) := (blk_cell BK187.out 8).trans rfl
                        have hfz35_0 := blk_frozen BK187.out 0
                        have hfz35_1 := blk_frozen BK187.out 1
                        have hfz35_2 := blk_frozen BK187.out 2
                        have hfz35_3 := blk_frozen BK187.out 3
                        have hfz35_4 := blk_frozen BK187.out 4
                        have hfz35_5 := blk_frozen BK187.out 5
                        have hfz35_6 := blk_frozen BK187.out 6
                        have hfz35_7 := blk_frozen BK187.out 7
                        have hfz35_8 := blk_frozen BK187.out 8
                        go_wp2_with (first | (go_at_call 14; (with_reducible refine (ih kj6 (by have := HK1.out; have := HJ6.out; omega) _ _ ((rd_T32 l0 x10_1).f8) ((rd_T32 l0 x10_1).f6) ((rd_T32 l0 x10_1).f7) false true _ ?side1 ?side2 (c25b0 ▸ A33.out)).mono ?_); (case side1 => repeat (first | exact (Kd.C_below HR186_8.out HB.out) | (with_reducible refine Kd.C_alloc ?_ _) | (with_reducible refine Kd.C_drewN ?_ _) | (with_reducible refine Kd.C_drew ?_))); (case side2 => exact HC186_8.out); rintro e w36 ⟨rfl, hb⟩; have n0_ := Aside0.mk (blk_below (g := gb187) (o := .cells #[.int .i64 ((rd_T32 l0 x10_1).f0), .string ((rd_T32 l0 x10_1).f1), .string ((rd_T32 l0 x10_1).f2), .int .i64 ((rd_T32 l0 x10_1).f3), .int .i64 ((rd_T32 l0 x10_1).f4), .bool ((rd_T32 l0 x10_1).f5), .int .i64 ((rd_T32 l0 x10_1).f6), .int .i64 ((rd_T32 l0 x10_1).f7), .slice A186_8 ((rd_T32 l0 x10_1).f8).length c186_8] 32 (0, 0)) (by (with_reducible repeat (first | refine blk_drewN ?_ _ | refine blk_drew ?_ | refine blk_alloc ?_ _)); exact BK187.out) hb); have n1_ := Aside0.mk (below_step (by repeat (first | (with_reducible first | exact HB.out | apply below_alloc | apply pw_below_drewN | apply below_drew1 | refine below_set ?_ GE187.out) | exact HB.out)) hb); clear BK187; clear HB; have BK187 := n0_; have HB := n1_; clear n0_ n1_; (try clear hb); (try clear hb2); (try clear hk); (try clear hi)))
                        go_roundg kj6
                        case measure => have := HK1.out; have := HJ6.out; omega
                        case rel => exact ⟨(((rd_T32 l0 x10_1).f6)), (wrap64 (x10_1 + 1)), (by first | rfl | (simp; done) | (simp [*]; done)), (by first | rfl | (simp; done) | (simp [*]; done)), H', ⟨by have := HK1.out; have := HJ6.out; omega⟩, ⟨by repeat (first | (with_reducible first | exact HB.out | apply below_alloc | apply pw_below_drewN | apply below_drew1 | refine below_set ?_ GE187.out) | exact HB.out)⟩⟩
                      · replace c34 := Bool.eq_false_iff.mpr c34
                        subst c34
                        have H1 : (some false) = some r := by rw [if_neg (show ¬ (false = true) by decide)] at H; exact H
                        clear H
                        have H := H1
                        clear H1
                        obtain rfl := Option.some.inj H
                        have hcz37_0 : wc.cell? ⟨gb187, 0, none⟩ = some (.int .i64 ((rd_T32 l0 x10_1).f0)) := (blk_cell BK187.out 0).trans rfl
                        have hcz37_1 : wc.cell? ⟨gb187, 1, none⟩ = some (.string ((rd_T32 l0 x10_1).f1)) := (blk_cell BK187.out 1).trans rfl
                        have hcz37_2 : wc.cell? ⟨gb187, 2, none⟩ = some (.string ((rd_T32 l0 x10_1).f2)) := (blk_cell BK187.out 2).trans rfl
                        have hcz37_3 : wc.cell? ⟨gb187, 3, none⟩ = some (.int .i64 ((rd_T32 l0 x10_1).f3)) := (blk_cell BK187.out 3).trans rfl
                        have hcz37_4 : wc.cell? ⟨gb187, 4, none⟩ = some (.int .i64 ((rd_T32 l0 x10_1).f4)) := (blk_cell BK187.out 4).trans rfl
                        have hcz37_5 : wc.cell? ⟨gb187, 5, none⟩ = some (.bool ((rd_T32 l0 x10_1).f5)) := (blk_cell BK187.out 5).trans rfl
                        have hcz37_6 : wc.cell? ⟨gb187, 6, none⟩ = some (.int .i64 ((rd_T32 l0 x10_1).f6)) := (blk_cell BK187.out 6).trans rfl
                        have hcz37_7 : wc.cell? ⟨gb187, 7, none⟩ = some (.int .i64 ((rd_T32 l0 x10_1).f7)) := (blk_cell BK187.out 7).trans rfl
                        have hcz37_8 : wc.cell? ⟨gb187, 8, none⟩ = some (.slice A186_8 ((rd_T32 l0 x10_1).f8).length c186_8) := (blk_cell BK187.out 8).trans rfl
                        have hfz37_0 := blk_frozen BK187.out 0
                        have hfz37_1 := blk_frozen BK187.out 1
                        have hfz37_2 := blk_frozen BK187.out 2
                        have hfz37_3 := blk_frozen BK187.out 3
                        have hfz37_4 := blk_frozen BK187.out 4
                        have hfz37_5 := blk_frozen BK187.out 5
                        have hfz37_6 := blk_frozen BK187.out 6
                        have hfz37_7 := blk_frozen BK187.out 7
                        have hfz37_8 := blk_frozen BK187.out 8
                        go_wp2_with (first | (go_at_call 14; (with_reducible refine (ih kj6 (by have := HK1.out; have := HJ6.out; omega) _ _ ((rd_T32 l0 x10_1).f8) ((rd_T32 l0 x10_1).f6) ((rd_T32 l0 x10_1).f7) false false _ ?side1 ?side2 (c25b0 ▸ A33.out)).mono ?_); (case side1 => repeat (first | exact (Kd.C_below HR186_8.out HB.out) | (with_reducible refine Kd.C_alloc ?_ _) | (with_reducible refine Kd.C_drewN ?_ _) | (with_reducible refine Kd.C_drew ?_))); (case side2 => exact HC186_8.out); rintro e w38 ⟨rfl, hb⟩; have n0_ := Aside0.mk (blk_below (g := gb187) (o := .cells #[.int .i64 ((rd_T32 l0 x10_1).f0), .string ((rd_T32 l0 x10_1).f1), .string ((rd_T32 l0 x10_1).f2), .int .i64 ((rd_T32 l0 x10_1).f3), .int .i64 ((rd_T32 l0 x10_1).f4), .bool ((rd_T32 l0 x10_1).f5), .int .i64 ((rd_T32 l0 x10_1).f6), .int .i64 ((rd_T32 l0 x10_1).f7), .slice A186_8 ((rd_T32 l0 x10_1).f8).length c186_8] 32 (0, 0)) (by (with_reducible repeat (first | refine blk_drewN ?_ _ | refine blk_drew ?_ | refine blk_alloc ?_ _)); exact BK187.out) hb); have n1_ := Aside0.mk (below_step (by repeat (first | (with_reducible first | exact HB.out | apply below_alloc | apply pw_below_drewN | apply below_drew1 | refine below_set ?_ GE187.out) | exact HB.out)) hb); clear BK187; clear HB; have BK187 := n0_; have HB := n1_; clear n0_ n1_; (try clear hb); (try clear hb2); (try clear hk); (try clear hi)))
                        go_ret
                        exact ⟨by first | rfl | (simp [errW_none, errW_some] <;> rfl) | (simp [*, errW_none, errW_some] <;> rfl), by repeat (first | (with_reducible first | exact HB.out | apply below_alloc | apply pw_below_drewN | apply below_drew1 | refine below_set ?_ GE187.out) | exact HB.out)⟩
                    · rw [if_neg c32] at H
                      have c32b0 : (((rd_T32 l0 x10_1).f0) == 4) = false := beq_eq_false_iff_ne.mpr c32
                      have c32b1 : (((rd_T32 l0 x10_1).f0) != 4) = true := bne_iff_ne.mpr c32
                      by_cases c39 : ((rd_T32 l0 x10_1).f0) = 13
                      · rw [if_pos c39] at H
                        have c39b0 : (((rd_T32 l0 x10_1).f0) == 13) = true := beq_iff_eq.mpr c39
                        have c39b1 : (((rd_T32 l0 x10_1).f0) != 13) = false := bne_eq_false_iff_eq.mpr c39
                        clear c39
                        replace H := Option.bind_eq_some_iff.mp H
                        obtain ⟨t191, A400, H⟩ := H
                        replace H : (if t191 = true then (incipitlaw11_inside.l0 kj6 l0 a2 a3 ((rd_T32 l0 x10_1).f6) (wrap64 (x10_1 + 1))) else (some false)) = some r := H
                        have A40 := Aside0.mk A400
                        clear A400
                        by_cases c41 : t191 = true
                        · subst c41
                          have H1 : (incipitlaw11_inside.l0 kj6 l0 a2 a3 ((rd_T32 l0 x10_1).f6) (wrap64 (x10_1 + 1))) = some r := by rw [if_pos rfl] at H; exact H
                          clear H
                          have H := H1
                          clear H1
                          have H' := Aside0.mk H
                          clear H
                          have hcz42_0 : wc.cell? ⟨gb187, 0, none⟩ = some (.int .i64 ((rd_T32 l0 x10_1).f0)) := (blk_cell BK187.out 0).trans rfl
                          have hcz42_1 : wc.cell? ⟨gb187, 1, none⟩ = some (.string ((rd_T32 l0 x10_1).f1)) := (blk_cell BK187.out 1).trans rfl
                          have hcz42_2 : wc.cell? ⟨gb187, 2, none⟩ = some (.string ((rd_T32 l0 x10_1).f2)) := (blk_cell BK187.out 2).trans rfl
                          have hcz42_3 : wc.cell? ⟨gb187, 3, none⟩ = some (.int .i64 ((rd_T32 l0 x10_1).f3)) := (blk_cell BK187.out 3).trans rfl
                          have hcz42_4 : wc.cell? ⟨gb187, 4, none⟩ = some (.int .i64 ((rd_T32 l0 x10_1).f4)) := (blk_cell BK187.out 4).trans rfl
                          have hcz42_5 : wc.cell? ⟨gb187, 5, none⟩ = some (.bool ((rd_T32 l0 x10_1).f5)) := (blk_cell BK187.out 5).trans rfl
                          have hcz42_6 : wc.cell? ⟨gb187, 6, none⟩ = some (.int .i64 ((rd_T32 l0 x10_1).f6)) := (blk_cell BK187.out 6).trans rfl
                          have hcz42_7 : wc.cell? ⟨gb187, 7, none⟩ = some (.int .i64 ((rd_T32 l0 x10_1).f7)) := (blk_cell BK187.out 7).trans rfl
                          have hcz42_8 : wc.cell? ⟨gb187, 8, none⟩ = some (.slice A186_8 ((rd_T32 l0 x10_1).f8).length c186_8) := (blk_cell BK187.out 8).trans rfl
                          have hfz42_0 := blk_frozen BK187.out 0
                          have hfz42_1 := blk_frozen BK187.out 1
                          have hfz42_2 := blk_frozen BK187.out 2
                          have hfz42_3 := blk_frozen BK187.out 3
                          have hfz42_4 := blk_frozen BK187.out 4
                          have hfz42_5 := blk_frozen BK187.out 5
                          have hfz42_6 := blk_frozen BK187.out 6
                          have hfz42_7 := blk_frozen BK187.out 7
                          have hfz42_8 := blk_frozen BK187.out 8
                          go_wp2_with (first | (go_at_call 14; (with_reducible refine (ih kj6 (by have := HK1.out; have := HJ6.out; omega) _ _ ((rd_T32 l0 x10_1).f8) ((rd_T32 l0 x10_1).f6) ((rd_T32 l0 x10_1).f7) false true _ ?side1 ?side2 (c25b0 ▸ A40.out)).mono ?_); (case side1 => repeat (first | exact (Kd.C_below HR186_8.out HB.out) | (with_reducible refine Kd.C_alloc ?_ _) | (with_reducible refine Kd.C_drewN ?_ _) | (with_reducible refine Kd.C_drew ?_))); (case side2 => exact HC186_8.out); rintro e w43 ⟨rfl, hb⟩; have n0_ := Aside0.mk (blk_below (g := gb187) (o := .cells #[.int .i64 ((rd_T32 l0 x10_1).f0), .string ((rd_T32 l0 x10_1).f1), .string ((rd_T32 l0 x10_1).f2), .int .i64 ((rd_T32 l0 x10_1).f3), .int .i64 ((rd_T32 l0 x10_1).f4), .bool ((rd_T32 l0 x10_1).f5), .int .i64 ((rd_T32 l0 x10_1).f6), .int .i64 ((rd_T32 l0 x10_1).f7), .slice A186_8 ((rd_T32 l0 x10_1).f8).length c186_8] 32 (0, 0)) (by (with_reducible repeat (first | refine blk_drewN ?_ _ | refine blk_drew ?_ | refine blk_alloc ?_ _)); exact BK187.out) hb); have n1_ := Aside0.mk (below_step (by repeat (first | (with_reducible first | exact HB.out | apply below_alloc | apply pw_below_drewN | apply below_drew1 | refine below_set ?_ GE187.out) | exact HB.out)) hb); clear BK187; clear HB; have BK187 := n0_; have HB := n1_; clear n0_ n1_; (try clear hb); (try clear hb2); (try clear hk); (try clear hi)))
                          go_roundg kj6
                          case measure => have := HK1.out; have := HJ6.out; omega
                          case rel => exact ⟨(((rd_T32 l0 x10_1).f6)), (wrap64 (x10_1 + 1)), (by first | rfl | (simp; done) | (simp [*]; done)), (by first | rfl | (simp; done) | (simp [*]; done)), H', ⟨by have := HK1.out; have := HJ6.out; omega⟩, ⟨by repeat (first | (with_reducible first | exact HB.out | apply below_alloc | apply pw_below_drewN | apply below_drew1 | refine below_set ?_ GE187.out) | exact HB.out)⟩⟩
                        · replace c41 := Bool.eq_false_iff.mpr c41
                          subst c41
                          have H1 : (some false) = some r := by rw [if_neg (show ¬ (false = true) by decide)] at H; exact H
                          clear H
                          have H := H1
                          clear H1
                          obtain rfl := Option.some.inj H
                          have hcz44_0 : wc.cell? ⟨gb187, 0, none⟩ = some (.int .i64 ((rd_T32 l0 x10_1).f0)) := (blk_cell BK187.out 0).trans rfl
                          have hcz44_1 : wc.cell? ⟨gb187, 1, none⟩ = some (.string ((rd_T32 l0 x10_1).f1)) := (blk_cell BK187.out 1).trans rfl
                          have hcz44_2 : wc.cell? ⟨gb187, 2, none⟩ = some (.string ((rd_T32 l0 x10_1).f2)) := (blk_cell BK187.out 2).trans rfl
                          have hcz44_3 : wc.cell? ⟨gb187, 3, none⟩ = some (.int .i64 ((rd_T32 l0 x10_1).f3)) := (blk_cell BK187.out 3).trans rfl
                          have hcz44_4 : wc.cell? ⟨gb187, 4, none⟩ = some (.int .i64 ((rd_T32 l0 x10_1).f4)) := (blk_cell BK187.out 4).trans rfl
                          have hcz44_5 : wc.cell? ⟨gb187, 5, none⟩ = some (.bool ((rd_T32 l0 x10_1).f5)) := (blk_cell BK187.out 5).trans rfl
                          have hcz44_6 : wc.cell? ⟨gb187, 6, none⟩ = some (.int .i64 ((rd_T32 l0 x10_1).f6)) := (blk_cell BK187.out 6).trans rfl
                          have hcz44_7 : wc.cell? ⟨gb187, 7, none⟩ = some (.int .i64 ((rd_T32 l0 x10_1).f7)) := (blk_cell BK187.out 7).trans rfl
                          have hcz44_8 : wc.cell? ⟨gb187, 8, none⟩ = some (.slice A186_8 ((rd_T32 l0 x10_1).f8).length c186_8) := (blk_cell BK187.out 8).trans rfl
                          have hfz44_0 := blk_frozen BK187.out 0
                          have hfz44_1 := blk_frozen BK187.out 1
                          have hfz44_2 := blk_frozen BK187.out 2
                          have hfz44_3 := blk_frozen BK187.out 3
                          have hfz44_4 := blk_frozen BK187.out 4
                          have hfz44_5 := blk_frozen BK187.out 5
                          have hfz44_6 := blk_frozen BK187.out 6
                          have hfz44_7 := blk_frozen BK187.out 7
                          have hfz44_8 := blk_frozen BK187.out 8
                          go_wp2_with (first | (go_at_call 14; (with_reducible refine (ih kj6 (by have := HK1.out; have := HJ6.out; omega) _ _ ((rd_T32 l0 x10_1).f8) ((rd_T32 l0 x10_1).f6) ((rd_T32 l0 x10_1).f7) false false _ ?side1 ?side2 (c25b0 ▸ A40.out)).mono ?_); (case side1 => repeat (first | exact (Kd.C_below HR186_8.out HB.out) | (with_reducible refine Kd.C_alloc ?_ _) | (with_reducible refine Kd.C_drewN ?_ _) | (with_reducible refine Kd.C_drew ?_))); (case side2 => exact HC186_8.out); rintro e w45 ⟨rfl, hb⟩; have n0_ := Aside0.mk (blk_below (g := gb187) (o := .cells #[.int .i64 ((rd_T32 l0 x10_1).f0), .string ((rd_T32 l0 x10_1).f1), .string ((rd_T32 l0 x10_1).f2), .int .i64 ((rd_T32 l0 x10_1).f3), .int .i64 ((rd_T32 l0 x10_1).f4), .bool ((rd_T32 l0 x10_1).f5), .int .i64 ((rd_T32 l0 x10_1).f6), .int .i64 ((rd_T32 l0 x10_1).f7), .slice A186_8 ((rd_T32 l0 x10_1).f8).length c186_8] 32 (0, 0)) (by (with_reducible repeat (first | refine blk_drewN ?_ _ | refine blk_drew ?_ | refine blk_alloc ?_ _)); exact BK187.out) hb); have n1_ := Aside0.mk (below_step (by repeat (first | (with_reducible first | exact HB.out | apply below_alloc | apply pw_below_drewN | apply below_drew1 | refine below_set ?_ GE187.out) | exact HB.out)) hb); clear BK187; clear HB; have BK187 := n0_; have HB := n1_; clear n0_ n1_; (try clear hb); (try clear hb2); (try clear hk); (try clear hi)))
                          go_ret
                          exact ⟨by first | rfl | (simp [errW_none, errW_some] <;> rfl) | (simp [*, errW_none, errW_some] <;> rfl), by repeat (first | (with_reducible first | exact HB.out | apply below_alloc | apply pw_below_drewN | apply below_drew1 | refine below_set ?_ GE187.out) | exact HB.out)⟩
                      · rw [if_neg c39] at H
                        have c39b0 : (((rd_T32 l0 x10_1).f0) == 13) = false := beq_eq_false_iff_ne.mpr c39
                        have c39b1 : (((rd_T32 l0 x10_1).f0) != 13) = true := bne_iff_ne.mpr c39
                        by_cases c46 : (((rd_T32 l0 x10_1).f8).length : Int) > 0
                        · rw [if_pos c46] at H
                          have c46b0 : decide (0 < (((rd_T32 l0 x10_1).f8).length : Int)) = true := decide_eq_true c46
                          have c46b1 : decide (0 < ((rd_T32 l0 x10_1).f8).length) = true := decide_eq_true (by omega)
                          clear c46
                          obtain rfl := Option.some.inj H
                          have hcz47_0 : wc.cell? ⟨gb187, 0, none⟩ = some (.int .i64 ((rd_T32 l0 x10_1).f0)) := (blk_cell BK187.out 0).trans rfl
                          have hcz47_1 : wc.cell? ⟨gb187, 1, none⟩ = some (.string ((rd_T32 l0 x10_1).f1)) := (blk_cell BK187.out 1).trans rfl
                          have hcz47_2 : wc.cell? ⟨gb187, 2, none⟩ = some (.string ((rd_T32 l0 x10_1).f2)) := (blk_cell BK187.out 2).trans rfl
                          have hcz47_3 : wc.cell? ⟨gb187, 3, none⟩ = some (.int .i64 ((rd_T32 l0 x10_1).f3)) := (blk_cell BK187.out 3).trans rfl
                          have hcz47_4 : wc.cell? ⟨gb187, 4, none⟩ = some (.int .i64 ((rd_T32 l0 x10_1).f4)) := (blk_cell BK187.out 4).trans rfl
                          have hcz47_5 : wc.cell? ⟨gb187, 5, none⟩ = some (.bool ((rd_T32 l0 x10_1).f5)) := (blk_cell BK187.out 5).trans rfl
                          have hcz47_6 : wc.cell? ⟨gb187, 6, none⟩ = some (.int .i64 ((rd_T32 l0 x10_1).f6)) := (blk_cell BK187.out 6).trans rfl
                          have hcz47_7 : wc.cell? ⟨gb187, 7, none⟩ = some (.int .i64 ((rd_T32 l0 x10_1).f7)) := (blk_cell BK187.out 7).trans rfl
                          have hcz47_8 : wc.cell? ⟨gb187, 8, none⟩ = some (.slice A186_8 ((rd_T32 l0 x10_1).f8).length c186_8) := (blk_cell BK187.out 8).trans rfl
                          have hfz47_0 := blk_frozen BK187.out 0
                          have hfz47_1 := blk_frozen BK187.out 1
                          have hfz47_2 := blk_frozen BK187.out 2
                          have hfz47_3 := blk_frozen BK187.out 3
                          have hfz47_4 := blk_frozen BK187.out 4
                          have hfz47_5 := blk_frozen BK187.out 5
                          have hfz47_6 := blk_frozen BK187.out 6
                          have hfz47_7 := blk_frozen BK187.out 7
                          have hfz47_8 := blk_frozen BK187.out 8
                          go_wp2
                          go_ret
                          exact ⟨by first | rfl | (simp [errW_none, errW_some] <;> rfl) | (simp [*, errW_none, errW_some] <;> rfl), by repeat (first | (with_reducible first | exact HB.out | apply below_alloc | apply pw_below_drewN | apply below_drew1 | refine below_set ?_ GE187.out) | exact HB.out)⟩
                        · rw [if_neg c46] at H
                          have c46b0 : decide (0 < (((rd_T32 l0 x10_1).f8).length : Int)) = false := decide_eq_false c46
                          have c46b1 : decide (0 < ((rd_T32 l0 x10_1).f8).length) = false := decide_eq_false (by omega)
                          clear c46
                          replace H := Option.bind_eq_some_iff.mp H
                          obtain ⟨t192, A480, H⟩ := H
                          replace H : (if t192 = true then (incipitlaw11_inside.l0 kj6 l0 a2 a3 ((rd_T32 l0 x10_1).f6) (wrap64 (x10_1 + 1))) else (some false)) = some r := H
                          have A48 := Aside0.mk A480
                          clear A480
                          by_cases c49 : t192 = true
                          · subst c49
                            have H1 : (incipitlaw11_inside.l0 kj6 l0 a2 a3 ((rd_T32 l0 x10_1).f6) (wrap64 (x10_1 + 1))) = some r := by rw [if_pos rfl] at H; exact H
                            clear H
                            have H := H1
                            clear H1
                            have H' := Aside0.mk H
                            clear H
                            have hcz50_0 : wc.cell? ⟨gb187, 0, none⟩ = some (.int .i64 ((rd_T32 l0 x10_1).f0)) := (blk_cell BK187.out 0).trans rfl
                            have hcz50_1 : wc.cell? ⟨gb187, 1, none⟩ = some (.string ((rd_T32 l0 x10_1).f1)) := (blk_cell BK187.out 1).trans rfl
                            have hcz50_2 : wc.cell? ⟨gb187, 2, none⟩ = some (.string ((rd_T32 l0 x10_1).f2)) := (blk_cell BK187.out 2).trans rfl
                            have hcz50_3 : wc.cell? ⟨gb187, 3, none⟩ = some (.int .i64 ((rd_T32 l0 x10_1).f3)) := (blk_cell BK187.out 3).trans rfl
                            have hcz50_4 : wc.cell? ⟨gb187, 4, none⟩ = some (.int .i64 ((rd_T32 l0 x10_1).f4)) := (blk_cell BK187.out 4).trans rfl
                            have hcz50_5 : wc.cell? ⟨gb187, 5, none⟩ = some (.bool ((rd_T32 l0 x10_1).f5)) := (blk_cell BK187.out 5).trans rfl
                            have hcz50_6 : wc.cell? ⟨gb187, 6, none⟩ = some (.int .i64 ((rd_T32 l0 x10_1).f6)) := (blk_cell BK187.out 6).trans rfl
                            have hcz50_7 : wc.cell? ⟨gb187, 7, none⟩ = some (.int .i64 ((rd_T32 l0 x10_1).f7)) := (blk_cell BK187.out 7).trans rfl
                            have hcz50_8 : wc.cell? ⟨gb187, 8, none⟩ = some (.slice A186_8 ((rd_T32 l0 x10_1).f8).length c186_8) := (blk_cell BK187.out 8).trans rfl
                            have hfz50_0 := blk_frozen BK187.out 0
                            have hfz50_1 := blk_frozen BK187.out 1
                            have hfz50_2 := blk_frozen BK187.out 2
                            have hfz50_3 := blk_frozen BK187.out 3
                            have hfz50_4 := blk_frozen BK187.out 4
                            have hfz50_5 := blk_frozen BK187.out 5
                            have hfz50_6 := blk_frozen BK187.out 6
                            have hfz50_7 := blk_frozen BK187.out 7
                            have hfz50_8 := blk_frozen BK187.out 8
                            go_wp2_with (first | (go_at_call 14; (with_reducible refine (ih kj6 (by have := HK1.out; have := HJ6.out; omega) _ _ ((rd_T32 l0 x10_1).f8) ((rd_T32 l0 x10_1).f6) ((rd_T32 l0 x10_1).f7) false true _ ?side1 ?side2 (c25b0 ▸ A48.out)).mono ?_); (case side1 => repeat (first | exact (Kd.C_below HR186_8.out HB.out) | (with_reducible refine Kd.C_alloc ?_ _) | (with_reducible refine Kd.C_drewN ?_ _) | (with_reducible refine Kd.C_drew ?_))); (case side2 => exact HC186_8.out); rintro e w51 ⟨rfl, hb⟩; have n0_ := Aside0.mk (blk_below (g := gb187) (o := .cells #[.int .i64 ((rd_T32 l0 x10_1).f0), .string ((rd_T32 l0 x10_1).f1), .string ((rd_T32 l0 x10_1).f2), .int .i64 ((rd_T32 l0 x10_1).f3), .int .i64 ((rd_T32 l0 x10_1).f4), .bool ((rd_T32 l0 x10_1).f5), .int .i64 ((rd_T32 l0 x10_1).f6), .int .i64 ((rd_T32 l0 x10_1).f7), .slice A186_8 ((rd_T32 l0 x10_1).f8).length c186_8] 32 (0, 0)) (by (with_reducible repeat (first | refine blk_drewN ?_ _ | refine blk_drew ?_ | refine blk_alloc ?_ _)); exact BK187.out) hb); have n1_ := Aside0.mk (below_step (by repeat (first | (with_reducible first | exact HB.out | apply below_alloc | apply pw_below_drewN | apply below_drew1 | refine below_set ?_ GE187.out) | exact HB.out)) hb); clear BK187; clear HB; have BK187 := n0_; have HB := n1_; clear n0_ n1_; (try clear hb); (try clear hb2); (try clear hk); (try clear hi)))
                            go_roundg kj6
                            case measure => have := HK1.out; have := HJ6.out; omega
                            case rel => exact ⟨(((rd_T32 l0 x10_1).f6)), (wrap64 (x10_1 + 1)), (by first | rfl | (simp; done) | (simp [*]; done)), (by first | rfl | (simp; done) | (simp [*]; done)), H', ⟨by have := HK1.out; have := HJ6.out; omega⟩, ⟨by repeat (first | (with_reducible first | exact HB.out | apply below_alloc | apply pw_below_drewN | apply below_drew1 | refine below_set ?_ GE187.out) | exact HB.out)⟩⟩
                          · replace c49 := Bool.eq_false_iff.mpr c49
                            subst c49
                            have H1 : (some false) = some r := by rw [if_neg (show ¬ (false = true) by decide)] at H; exact H
                            clear H
                            have H := H1
                            clear H1
                            obtain rfl := Option.some.inj H
                            have hcz52_0 : wc.cell? ⟨gb187, 0, none⟩ = some (.int .i64 ((rd_T32 l0 x10_1).f0)) := (blk_cell BK187.out 0).trans rfl
                            have hcz52_1 : wc.cell? ⟨gb187, 1, none⟩ = some (.string ((rd_T32 l0 x10_1).f1)) := (blk_cell BK187.out 1).trans rfl
                            have hcz52_2 : wc.cell? ⟨gb187, 2, none⟩ = some (.string ((rd_T32 l0 x10_1).f2)) := (blk_cell BK187.out 2).trans rfl
                            have hcz52_3 : wc.cell? ⟨gb187, 3, none⟩ = some (.int .i64 ((rd_T32 l0 x10_1).f3)) := (blk_cell BK187.out 3).trans rfl
                            have hcz52_4 : wc.cell? ⟨gb187, 4, none⟩ = some (.int .i64 ((rd_T32 l0 x10_1).f4)) := (blk_cell BK187.out 4).trans rfl
                            have hcz52_5 : wc.cell? ⟨gb187, 5, none⟩ = some (.bool ((rd_T32 l0 x10_1).f5)) := (blk_cell BK187.out 5).trans rfl
                            have hcz52_6 : wc.cell? ⟨gb187, 6, none⟩ = some (.int .i64 ((rd_T32 l0 x10_1).f6)) := (blk_cell BK187.out 6).trans rfl
                            have hcz52_7 : wc.cell? ⟨gb187, 7, none⟩ = some (.int .i64 ((rd_T32 l0 x10_1).f7)) := (blk_cell BK187.out 7).trans rfl
                            have hcz52_8 : wc.cell? ⟨gb187, 8, none⟩ = some (.slice A186_8 ((rd_T32 l0 x10_1).f8).length c186_8) := (blk_cell BK187.out 8).trans rfl
                            have hfz52_0 := blk_frozen BK187.out 0
                            have hfz52_1 := blk_frozen BK187.out 1
                            have hfz52_2 := blk_frozen BK187.out 2
                            have hfz52_3 := blk_frozen BK187.out 3
                            have hfz52_4 := blk_frozen BK187.out 4
                            have hfz52_5 := blk_frozen BK187.out 5
                            have hfz52_6 := blk_frozen BK187.out 6
                            have hfz52_7 := blk_frozen BK187.out 7
                            have hfz52_8 := blk_frozen BK187.out 8
                            go_wp2_with (first | (go_at_call 14; (with_reducible refine (ih kj6 (by have := HK1.out; have := HJ6.out; omega) _ _ ((rd_T32 l0 x10_1).f8) ((rd_T32 l0 x10_1).f6) ((rd_T32 l0 x10_1).f7) false false _ ?side1 ?side2 (c25b0 ▸ A48.out)).mono ?_); (case side1 => repeat (first | exact (Kd.C_below HR186_8.out HB.out) | (with_reducible refine Kd.C_alloc ?_ _) | (with_reducible refine Kd.C_drewN ?_ _) | (with_reducible refine Kd.C_drew ?_))); (case side2 => exact HC186_8.out); rintro e w53 ⟨rfl, hb⟩; have n0_ := Aside0.mk (blk_below (g := gb187) (o := .cells #[.int .i64 ((rd_T32 l0 x10_1).f0), .string ((rd_T32 l0 x10_1).f1), .string ((rd_T32 l0 x10_1).f2), .int .i64 ((rd_T32 l0 x10_1).f3), .int .i64 ((rd_T32 l0 x10_1).f4), .bool ((rd_T32 l0 x10_1).f5), .int .i64 ((rd_T32 l0 x10_1).f6), .int .i64 ((rd_T32 l0 x10_1).f7), .slice A186_8 ((rd_T32 l0 x10_1).f8).length c186_8] 32 (0, 0)) (by (with_reducible repeat (first | refine blk_drewN ?_ _ | refine blk_drew ?_ | refine blk_alloc ?_ _)); exact BK187.out) hb); have n1_ := Aside0.mk (below_step (by repeat (first | (with_reducible first | exact HB.out | apply below_alloc | apply pw_below_drewN | apply below_drew1 | refine below_set ?_ GE187.out) | exact HB.out)) hb); clear BK187; clear HB; have BK187 := n0_; have HB := n1_; clear n0_ n1_; (try clear hb); (try clear hb2); (try clear hk); (try clear hi)))
                            go_ret
                            exact ⟨by first | rfl | (simp [errW_none, errW_some] <;> rfl) | (simp [*, errW_none, errW_some] <;> rfl), by repeat (first | (with_reducible first | exact HB.out | apply below_alloc | apply pw_below_drewN | apply below_drew1 | refine below_set ?_ GE187.out) | exact HB.out)⟩
        · rw [if_neg c6] at H
          exact absurd H (by simp)
      · rw [if_neg c5] at H
        have c5b0 : decide (x10_1 < (l0.length : Int)) = false := decide_eq_false c5
        clear c5
        obtain rfl := Option.some.inj H
        go_wp2
        go_ret
        exact ⟨by first | rfl | (simp [errW_none, errW_some] <;> rfl) | (simp [*, errW_none, errW_some] <;> rfl), by repeat (first | (with_reducible first | exact HB.out | apply below_alloc | apply pw_below_drewN | apply below_drew1) | exact HB.out)⟩

-- NOT PRINTED: function 3 (incipitlaw11_BlockInside)

end Go.Proofs.YtehmcahdjldhbaaGreatDoor.Bk
end
