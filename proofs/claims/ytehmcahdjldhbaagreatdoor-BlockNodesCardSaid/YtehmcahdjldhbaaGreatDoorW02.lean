/- Parts of this session's proof, one behind the other: G1 G3 N5 N6 N7 J1 F1 F2 F3 LA. -/
import Derived.Test.YtehmcahdjldhbaaGreatDoorW01
import Derived.Test.YtehmcahdjldhbaaGreatDoorZ13
import Derived.OrdersHeld
import Derived.Laws.BitsLemmas
import Derived.RowKit3
import Derived.BigQuiet
import Derived.WideLaws
import Derived.Deep.QuietTactic
import Derived.Deep.DeepCutAuto
import Derived.Deep.CutBlock
import Derived.Deep.RegionHeld3
import Derived.Deep.LoopGhost
import Derived.Lib.AppendStr
import Derived.ArgAppend
import Derived.Laws.IdiomCopy
import Derived.Lib.ConvBytes
import Derived.Laws.BytesArg
import Derived.Test.YtehmcahdjldhbaaGreatDoorZ12
import Derived.Test.YtehmcahdjldhbaaGreatDoorZ14
import Derived.Test.YtehmcahdjldhbaaGreatDoorZ26
import Derived.Test.YtehmcahdjldhbaaGreatDoorZ22
section
namespace Go.Proofs.YtehmcahdjldhbaaGreatDoor.Bk
open Go.RowKit Go.Proofs.YtehmcahdjldhbaaGreatDoorW.PrintWords Go.Proofs.YtehmcahdjldhbaaGreatDoorW.PrintLast Go.Proofs.YtehmcahdjldhbaaGreatDoorW.PrintMore
set_option linter.unusedVariables false
set_option linter.unusedSimpArgs false
theorem info63 : (Tryz.prog.info? 63).map (fun i => (i.zero, i.size, i.bytes)) = some (some (.agg #[(.int .i64 0), (.string ⟨#[]⟩), (.string ⟨#[]⟩), (.int .i64 0), (.int .i64 0), (.bool false), (.int .i64 0), (.int .i64 0), (.slice none 0 0)]), 9, 104) := by kernel_rfl
structure S63 where
  f0 : Int
  f1 : ByteArray
  f2 : ByteArray
  f3 : Int
  f4 : Int
  f5 : Bool
  f6 : Int
  f7 : Int
  f8 : (List S63)
def z63 : S63 := ⟨(0 : Int), (⟨#[]⟩ : ByteArray), (⟨#[]⟩ : ByteArray), (0 : Int), (0 : Int), false, (0 : Int), (0 : Int), ([] : List S63)⟩
def F63 (d : Kd S63) : Kd S63 := Kd.iso (Kd.pair (Kd.int .i64) (Kd.pair Kd.string (Kd.pair Kd.string (Kd.pair (Kd.int .i64) (Kd.pair (Kd.int .i64) (Kd.pair Kd.bool (Kd.pair (Kd.int .i64) (Kd.pair (Kd.int .i64) (Kd.slice 63 d))))))))) (fun x : S63 => (x.f0, x.f1, x.f2, x.f3, x.f4, x.f5, x.f6, x.f7, x.f8))
theorem mono63 : Kd.Mono F63 := Kd.mono_iso _ (Kd.mono_pair (Kd.mono_const _) (Kd.mono_pair (Kd.mono_const _) (Kd.mono_pair (Kd.mono_const _) (Kd.mono_pair (Kd.mono_const _) (Kd.mono_pair (Kd.mono_const _) (Kd.mono_pair (Kd.mono_const _) (Kd.mono_pair (Kd.mono_const _) (Kd.mono_pair (Kd.mono_const _) (Kd.mono_slice 63 Kd.mono_id)))))))))
theorem sub63 : Kd.Sub F63 [63] := Kd.sub_iso _ (Kd.sub_pair (Kd.sub_const _ (by decide)) (Kd.sub_pair (Kd.sub_const _ (by decide)) (Kd.sub_pair (Kd.sub_const _ (by decide)) (Kd.sub_pair (Kd.sub_const _ (by decide)) (Kd.sub_pair (Kd.sub_const _ (by decide)) (Kd.sub_pair (Kd.sub_const _ (by decide)) (Kd.sub_pair (Kd.sub_const _ (by decide)) (Kd.sub_pair (Kd.sub_const _ (by decide)) (Kd.sub_slice 63 (by decide) Kd.sub_id)))))))))
theorem sz63 : ∀ n, (Kd.upto F63 9 [63] n).sz = 9 := Kd.upto_sz (fun _ => rfl)
def k63 : Kd S63 := Kd.fix F63 9 [63] sz63 (Kd.upto_E sub63)
theorem k63_open {w : World} {x : S63} {cs : List Value} (h : k63.K w x cs) : ∃ A8 c8, cs = [.int .i64 x.f0, .string x.f1, .string x.f2, .int .i64 x.f3, .int .i64 x.f4, .bool x.f5, .int .i64 x.f6, .int .i64 x.f7, .slice A8 x.f8.length c8] ∧ x.f8.length ≤ c8 ∧ k63.C w A8 x.f8.length x.f8 := by
  obtain ⟨n, h⟩ := h
  cases n with
  | zero => exact h.elim
  | succ n =>
    obtain ⟨_, _, rfl, rfl, ⟨_, _, rfl, rfl, ⟨_, _, rfl, rfl, ⟨_, _, rfl, rfl, ⟨_, _, rfl, rfl, ⟨_, _, rfl, rfl, ⟨_, _, rfl, rfl, ⟨_, _, rfl, rfl, ⟨A8, c8, rfl, l8, g8⟩⟩⟩⟩⟩⟩⟩⟩⟩ := h
    exact ⟨A8, c8, rfl, l8, Kd.fix_C g8⟩
theorem k63_mkM (w : World) (base : Nat) (ok : Nat → Prop) (x : S63) {v8 : Value} (g8 : k63.R 63 w base ok v8 x.f8) : k63.M w base ok x [.int .i64 x.f0, .string x.f1, .string x.f2, .int .i64 x.f3, .int .i64 x.f4, .bool x.f5, .int .i64 x.f6, .int .i64 x.f7, v8] := by
  obtain ⟨n8, q8⟩ := Kd.fix_R_back mono63 g8
  have r8 := Kd.upto_R_le mono63 sz63 (show n8 ≤ n8 by omega) q8
  exact ⟨n8 + 1, ⟨[.int .i64 x.f0], [.string x.f1, .string x.f2, .int .i64 x.f3, .int .i64 x.f4, .bool x.f5, .int .i64 x.f6, .int .i64 x.f7, v8], rfl, rfl, ⟨[.string x.f1], [.string x.f2, .int .i64 x.f3, .int .i64 x.f4, .bool x.f5, .int .i64 x.f6, .int .i64 x.f7, v8], rfl, rfl, ⟨[.string x.f2], [.int .i64 x.f3, .int .i64 x.f4, .bool x.f5, .int .i64 x.f6, .int .i64 x.f7, v8], rfl, rfl, ⟨[.int .i64 x.f3], [.int .i64 x.f4, .bool x.f5, .int .i64 x.f6, .int .i64 x.f7, v8], rfl, rfl, ⟨[.int .i64 x.f4], [.bool x.f5, .int .i64 x.f6, .int .i64 x.f7, v8], rfl, rfl, ⟨[.bool x.f5], [.int .i64 x.f6, .int .i64 x.f7, v8], rfl, rfl, ⟨[.int .i64 x.f6], [.int .i64 x.f7, v8], rfl, rfl, ⟨[.int .i64 x.f7], [v8], rfl, rfl, ⟨v8, rfl, r8⟩⟩⟩⟩⟩⟩⟩⟩⟩⟩
def rd_T63 (xs : List S63) (i : Int) : S63 := xs.getD i.toNat z63
theorem at_T63 {w : World} {A : Option Addr} {n : Nat} {xs : List S63} (h : Kd.C k63 w A n xs) (i : Int) (h0 : 0 ≤ i) (h1 : i < n) : ∃ ad A8 c8, A = some ad ∧ w.cell? (ad.add (i.toNat * 9)) = some (.int .i64 (rd_T63 xs i).f0) ∧ w.cell? ⟨(ad.add (i.toNat * 9)).block, (ad.add (i.toNat * 9)).off + 1, none⟩ = some (.string (rd_T63 xs i).f1) ∧ w.cell? ⟨(ad.add (i.toNat * 9)).block, (ad.add (i.toNat * 9)).off + 2, none⟩ = some (.string (rd_T63 xs i).f2) ∧ w.cell? ⟨(ad.add (i.toNat * 9)).block, (ad.add (i.toNat * 9)).off + 3, none⟩ = some (.int .i64 (rd_T63 xs i).f3) ∧ w.cell? ⟨(ad.add (i.toNat * 9)).block, (ad.add (i.toNat * 9)).off + 4, none⟩ = some (.int .i64 (rd_T63 xs i).f4) ∧ w.cell? ⟨(ad.add (i.toNat * 9)).block, (ad.add (i.toNat * 9)).off + 5, none⟩ = some (.bool (rd_T63 xs i).f5) ∧ w.cell? ⟨(ad.add (i.toNat * 9)).block, (ad.add (i.toNat * 9)).off + 6, none⟩ = some (.int .i64 (rd_T63 xs i).f6) ∧ w.cell? ⟨(ad.add (i.toNat * 9)).block, (ad.add (i.toNat * 9)).off + 7, none⟩ = some (.int .i64 (rd_T63 xs i).f7) ∧ w.cell? ⟨(ad.add (i.toNat * 9)).block, (ad.add (i.toNat * 9)).off + 8, none⟩ = some (.slice A8 (rd_T63 xs i).f8.length c8) ∧ (rd_T63 xs i).f8.length ≤ c8 ∧ k63.C w A8 (rd_T63 xs i).f8.length (rd_T63 xs i).f8 := by
  obtain ⟨ad, c, e, _, hK, hc0⟩ := Kd.C_get h z63 i h0 h1
  have hc : ∀ j u, c[j]? = some u → w.cell? (ad.add (i.toNat * 9 + j)) = some u := hc0
  obtain ⟨A8, c8, rfl, l8, g8⟩ := k63_open hK
  exact ⟨ad, A8, c8, e, hc 0 _ rfl, by rw [← add_field _ _ 1 (by omega)]; exact hc 1 _ rfl, by rw [← add_field _ _ 2 (by omega)]; exact hc 2 _ rfl, by rw [← add_field _ _ 3 (by omega)]; exact hc 3 _ rfl, by rw [← add_field _ _ 4 (by omega)]; exact hc 4 _ rfl, by rw [← add_field _ _ 5 (by omega)]; exact hc 5 _ rfl, by rw [← add_field _ _ 6 (by omega)]; exact hc 6 _ rfl, by rw [← add_field _ _ 7 (by omega)]; exact hc 7 _ rfl, by rw [← add_field _ _ 8 (by omega)]; exact hc 8 _ rfl, l8, g8⟩
mutual
def incipitlaw11_theirs.l0 : Nat → List (S32) → List (S63) → Int → Option ((List (S63)))
  | 0, _, _, _ => none
  | k + 1, x0, x3, x4 => if x4 < (x0.length : Int) then (if 0 ≤ x4 then ((incipitlaw11_theirs.f k ((rd_T32 x0 x4).f8)).bind fun t193 => (if x3.length < 1353245080339 then (incipitlaw11_theirs.l0 k x0 (x3 ++ [(⟨(rd_T32 x0 x4).f0, (rd_T32 x0 x4).f1, (rd_T32 x0 x4).f2, (rd_T32 x0 x4).f3, (rd_T32 x0 x4).f4, (rd_T32 x0 x4).f5, (rd_T32 x0 x4).f6, (rd_T32 x0 x4).f7, t193⟩ : S63)]) (wrap64 (x4 + 1))) else (none))) else (none)) else (some x3)
def incipitlaw11_theirs.f : Nat → List (S32) → Option ((List (S63)))
  | 0, _ => none
  | k + 1, l0 => incipitlaw11_theirs.l0 k l0 ([] : List (S63)) 0
end
theorem incipitlaw11_theirs.mono_l : ∀ k, (∀ y0, LeO (incipitlaw11_theirs.f k y0) (incipitlaw11_theirs.f (k + 1) y0)) ∧ (∀ y0 y1 y2, LeO (incipitlaw11_theirs.l0 k y0 y1 y2) (incipitlaw11_theirs.l0 (k + 1) y0 y1 y2))
  | 0 => ⟨fun _ r h => by simp [incipitlaw11_theirs.f] at h, fun _ _ _ r h => by simp [incipitlaw11_theirs.l0] at h⟩
  | k + 1 => by
    obtain ⟨ih0, ih1⟩ := incipitlaw11_theirs.mono_l k
    refine ⟨?_, ?_⟩
    · intro y0
      unfold incipitlaw11_theirs.f
      repeat' first
      | (with_reducible exact ih0 _)
      | (with_reducible exact ih1 _ _ _)
      | (with_reducible exact LeO.refl _)
      | (with_reducible exact LeO.none _)
      | (with_reducible refine LeO.ite ?_ ?_)
      | (with_reducible refine LeO.bind ?_ (fun _ => ?_))
      | exact ih0 _
      | exact ih1 _ _ _
      | exact LeO.none _
      | refine LeO.ite ?_ ?_
      | refine LeO.bind ?_ (fun _ => ?_)
    · intro y0 y1 y2
      unfold incipitlaw11_theirs.l0
      repeat' first
      | (with_reducible exact ih0 _)
      | (with_reducible exact ih1 _ _ _)
      | (with_reducible exact LeO.refl _)
      | (with_reducible exact LeO.none _)
      | (with_reducible refine LeO.ite ?_ ?_)
      | (with_reducible refine LeO.bind ?_ (fun _ => ?_))
      | exact ih0 _
      | exact ih1 _ _ _
      | exact LeO.none _
      | refine LeO.ite ?_ ?_
      | refine LeO.bind ?_ (fun _ => ?_)
def incipitlaw11_theirs.T6 : Bool × List (List Nat × List Nat) := (true, [([], []), ([], []), ([1], [1]), ([], []), ([3], [3]), ([], []), ([5], [5]), ([], []), ([7], [7]), ([], []), ([9], [9]), ([], []), ([11], [11]), ([], []), ([13], [13]), ([], []), ([15], [15]), ([], []), ([17], [17]), ([18], [18]), ([2, 4, 6, 8, 10, 12, 14, 16, 19], [2, 4, 6, 8, 10, 12, 14, 16, 19]), ([20], [20]), ([0, 21, 19], [0, 21]), ([22, 22, 0, 1, 2, 3, 4, 5, 6, 7, 8, 9, 10, 11, 12, 13, 14, 15, 16, 17, 18, 19, 20, 21, 22], [0, 22])])
def incipitlaw11_theirs.B6 : List Nat := [0, 0, 2, 0, 8, 0, 32, 0, 128, 0, 512, 0, 2048, 0, 8192, 0, 32768, 0, 131072, 393216, 1048574, 2097150, 4194303, 8388607]
theorem incipitlaw11_theirs.tab6 : rtab .any (opsOf Tryz.f17 6) = incipitlaw11_theirs.T6 := by kernel_rfl
theorem incipitlaw11_theirs.bits6 : waitsOk incipitlaw11_theirs.T6.2 incipitlaw11_theirs.B6 = true := by kernel_rfl
set_option maxHeartbeats 8000000 in
set_option maxRecDepth 100000 in
theorem incipitlaw11_theirs.calls (k : Nat) : ∀ (A0 : Option Addr) (c0 : Nat) (l0 : List (S32)) (r : List (S63)) (w : World) (hr0 : Kd.C k32 w A0 l0.length l0) (hc0 : l0.length ≤ c0) (h : incipitlaw11_theirs.f k l0 = some r),
    Calls Tryz.prog 17 #[.slice A0 l0.length c0] w fun e w' => ∃ v0_ : Value, e = .returned (v0_) ∧ Kd.R k63 63 w' w.heap.size (fun _ => True) v0_ r ∧ Below w.heap.size w w' := by
  induction k using Nat.strongRecOn with
  | _ k ih =>
  intro A0 c0 l0 r w hr0 hc0 h
  cases k with
  | zero => exact absurd h (by simp [incipitlaw11_theirs.f])
  | succ k =>
  simp only [incipitlaw11_theirs.f] at h
  have hu32 := Tryz.underlying32
  have hu63 := Tryz.underlying63
  have HR0 := Aside0.mk hr0
  have HC0 := Aside0.mk hc0
  clear hr0 hc0
  have HB := Aside0.mk (Below.refl w.heap.size w)
  have H : (incipitlaw11_theirs.l0 k l0 ([] : List (S63)) 0) = some r := h
  clear h
  have H' := Aside0.mk H
  clear H
  go_enter Tryz.func17, Tryz.ntmps17
  go_wp2
  go_loopg [3, 4] k (fun kq v3 v4 w' => ∃ (x3_1 : List (S63)) (x4_1 : Int), v4 = .int .i64 x4_1 ∧ Aside0 (incipitlaw11_theirs.l0 kq l0 x3_1 x4_1 = some r) ∧ Aside0 (kq ≤ k) ∧ Aside0 (Kd.R k63 63 w' w.heap.size (fun _ => True) v3 x3_1) ∧ Aside0 (Below w.heap.size w w'))
  case atStart => exact ⟨(([] : List (S63))), (0), (by first | rfl | (simp; done) | (simp [*]; done)), H', ⟨Nat.le_refl _⟩, ⟨by first | exact Kd.R_nil _ _ _ _ _ | exact Kd.N_nil _ _ _ _ _ | exact Kd.V_nil _ _ _ _ _ | exact Kd.Q_nil _ _ _ _ _ | exact Kd.S_nil _ _ _ _ _⟩, ⟨by repeat (first | (with_reducible first | exact HB.out | apply below_alloc | apply pw_below_drewN | apply below_drew1) | exact HB.out)⟩⟩
  case round =>
    clear H'
    try clear c1
    obtain ⟨x3_1, x4_1, rfl, HA, HK1, HO_3, HB⟩ := hrel
    cases gk with
    | zero => exact absurd HA.out (by simp [incipitlaw11_theirs.l0])
    | succ k1 =>
      have H := HA.out
      clear HA
      simp only [incipitlaw11_theirs.l0] at H
      by_cases c2 : x4_1 < (l0.length : Int)
      · rw [if_pos c2] at H
        have c2b0 : decide (x4_1 < (l0.length : Int)) = true := decide_eq_true c2
        clear c2
        by_cases c3 : 0 ≤ x4_1
        · rw [if_pos c3] at H
          have c3b0 : decide (0 ≤ x4_1) = true := decide_eq_true c3
          clear c3
          replace H := Option.bind_eq_some_iff.mp H
          obtain ⟨t193, A40, H⟩ := H
          replace H : (if x3_1.length < 1353245080339 then (incipitlaw11_theirs.l0 k1 l0 (x3_1 ++ [(⟨(rd_T32 l0 x4_1).f0, (rd_T32 l0 x4_1).f1, (rd_T32 l0 x4_1).f2, (rd_T32 l0 x4_1).f3, (rd_T32 l0 x4_1).f4, (rd_T32 l0 x4_1).f5, (rd_T32 l0 x4_1).f6, (rd_T32 l0 x4_1).f7, t193⟩ : S63)]) (wrap64 (x4_1 + 1))) else (none)) = some r := H
          have A4 := Aside0.mk A40
          clear A40
          by_cases c5 : x3_1.length < 1353245080339
          · rw [if_pos c5] at H
            have LMc5 := Aside0.mk c5
            clear c5
            obtain ⟨y196, hy196⟩ : ∃ y_ : List (S63), y_ = (x3_1 ++ [(⟨(rd_T32 l0 x4_1).f0, (rd_T32 l0 x4_1).f1, (rd_T32 l0 x4_1).f2, (rd_T32 l0 x4_1).f3, (rd_T32 l0 x4_1).f4, (rd_T32 l0 x4_1).f5, (rd_T32 l0 x4_1).f6, (rd_T32 l0 x4_1).f7, t193⟩ : S63)]) := ⟨_, rfl⟩
            replace H : (incipitlaw11_theirs.l0 k1 l0 y196 (wrap64 (x4_1 + 1))) = some r := by first | (rw [hy196]; with_reducible exact H) | (have H2_ := (Option.bind_some _ _).symm.trans H; rw [hy196]; with_reducible exact H2_) | (have H2_ := (Option.bind_some _ _).symm.trans H; with_reducible exact H2_) | with_reducible exact H | (rw [hy196]; exact H) | exact H
            have Ny196 := Aside0.mk hy196
            clear hy196
            have H' := Aside0.mk H
            clear H
            have p191 : 0 ≤ (x4_1 : Int) := of_decide_eq_true (by first | (with_reducible assumption) | assumption)
            have q191 : x4_1 < (l0.length : Int) := of_decide_eq_true (by first | (with_reducible assumption) | assumption)
            obtain ⟨ad191, A191_8, c191_8, e191, hx191_0, hx191_1, hx191_2, hx191_3, hx191_4, hx191_5, hx191_6, hx191_7, hx191_8, hl191_8, hi191_8⟩ := at_T32 HR0.out x4_1 p191 q191
            cases e191
            replace hx191_0 := (HB.out.cell (World.block_lt_of_cell? w _ hx191_0)).trans hx191_0
            replace hx191_1 := (HB.out.cell (World.block_lt_of_cell? w _ hx191_1)).trans hx191_1
            replace hx191_2 := (HB.out.cell (World.block_lt_of_cell? w _ hx191_2)).trans hx191_2
            replace hx191_3 := (HB.out.cell (World.block_lt_of_cell? w _ hx191_3)).trans hx191_3
            replace hx191_4 := (HB.out.cell (World.block_lt_of_cell? w _ hx191_4)).trans hx191_4
            replace hx191_5 := (HB.out.cell (World.block_lt_of_cell? w _ hx191_5)).trans hx191_5
            replace hx191_6 := (HB.out.cell (World.block_lt_of_cell? w _ hx191_6)).trans hx191_6
            replace hx191_7 := (HB.out.cell (World.block_lt_of_cell? w _ hx191_7)).trans hx191_7
            replace hx191_8 := (HB.out.cell (World.block_lt_of_cell? w _ hx191_8)).trans hx191_8
            have HR191_8 := Aside0.mk hi191_8
            have HC191_8 := Aside0.mk hl191_8
            clear hi191_8 hl191_8
            replace p191 := eq_true p191
            replace q191 := eq_true q191
            try go_wp2_with (first | ((with_reducible refine gate_dst (N := 5) rfl ?_); refine box_event ?hg (N := 5) ?hd (cs := #[.int .i64 0, .string (⟨#[]⟩ : ByteArray), .string (⟨#[]⟩ : ByteArray), .int .i64 0, .int .i64 0, .bool false, .int .i64 0, .int .i64 0, .slice none 0 0]) (t := 32) ?hr ?_; (case hd => rfl); (case hg => rfl); (case hr => first | (go_simp; done) | (go_simp; rfl)); intro gb192 hg w6 hbox hb; have n0_ := Aside0.mk (Kd.R_below (by (with_reducible repeat (first | apply Kd.R_alloc | apply Kd.R_drewN | apply Kd.R_drew)); exact HO_3.out) hb); have n1_ := Aside0.mk (below_step (by repeat (first | (with_reducible first | exact HB.out | apply below_alloc | apply pw_below_drewN | apply below_drew1) | exact HB.out)) hb); have n2_ := Aside0.mk (hbox); have n3_ := Aside0.mk ((by rw [hg]; exact (below_size (by repeat (first | (with_reducible first | exact HB.out | apply below_alloc | apply pw_below_drewN | apply below_drew1) | exact HB.out))) : w.heap.size ≤ gb192)); have n4_ := Aside0.mk ((by rw [hg]; exact (below_size (by repeat (first | (with_reducible first | exact HB.out | apply below_alloc | apply pw_below_drewN | apply below_drew1) | exact HB.out))) : w.heap.size ≤ gb192)); clear HO_3; clear HB; have HO_3 := n0_; have HB := n1_; have BK192 := n2_; have GW192 := n3_; have GE192 := n4_; clear n0_ n1_ n2_ n3_ n4_; clear hb hbox hg; have hcz7_0 : w6.cell? ⟨gb192, 0, none⟩ = some (.int .i64 0) := (blk_cell BK192.out 0).trans rfl; have hcz7_1 : w6.cell? ⟨gb192, 1, none⟩ = some (.string (⟨#[]⟩ : ByteArray)) := (blk_cell BK192.out 1).trans rfl; have hcz7_2 : w6.cell? ⟨gb192, 2, none⟩ = some (.string (⟨#[]⟩ : ByteArray)) := (blk_cell BK192.out 2).trans rfl; have hcz7_3 : w6.cell? ⟨gb192, 3, none⟩ = some (.int .i64 0) := (blk_cell BK192.out 3).trans rfl; have hcz7_4 : w6.cell? ⟨gb192, 4, none⟩ = some (.int .i64 0) := (blk_cell BK192.out 4).trans rfl; have hcz7_5 : w6.cell? ⟨gb192, 5, none⟩ = some (.bool false) := (blk_cell BK192.out 5).trans rfl; have hcz7_6 : w6.cell? ⟨gb192, 6, none⟩ = some (.int .i64 0) := (blk_cell BK192.out 6).trans rfl; have hcz7_7 : w6.cell? ⟨gb192, 7, none⟩ = some (.int .i64 0) := (blk_cell BK192.out 7).trans rfl; have hcz7_8 : w6.cell? ⟨gb192, 8, none⟩ = some (.slice none 0 0) := (blk_cell BK192.out 8).trans rfl; have hfz7_0 := blk_frozen BK192.out 0; have hfz7_1 := blk_frozen BK192.out 1; have hfz7_2 := blk_frozen BK192.out 2; have hfz7_3 := blk_frozen BK192.out 3; have hfz7_4 := blk_frozen BK192.out 4; have hfz7_5 := blk_frozen BK192.out 5; have hfz7_6 := blk_frozen BK192.out 6; have hfz7_7 := blk_frozen BK192.out 7; have hfz7_8 := blk_frozen BK192.out 8))
            have n0_ : Aside0 (Kd.R k63 63 (((((((((w6.setCell ⟨gb192, 0, none⟩ (.int .i64 ((rd_T32 l0 x4_1).f0))).setCell ⟨gb192, 1, none⟩ (.string ((rd_T32 l0 x4_1).f1))).setCell ⟨gb192, 2, none⟩ (.string ((rd_T32 l0 x4_1).f2))).setCell ⟨gb192, 3, none⟩ (.int .i64 ((rd_T32 l0 x4_1).f3))).setCell ⟨gb192, 4, none⟩ (.int .i64 ((rd_T32 l0 x4_1).f4))).setCell ⟨gb192, 5, none⟩ (.bool ((rd_T32 l0 x4_1).f5))).setCell ⟨gb192, 6, none⟩ (.int .i64 ((rd_T32 l0 x4_1).f6))).setCell ⟨gb192, 7, none⟩ (.int .i64 ((rd_T32 l0 x4_1).f7))).setCell ⟨gb192, 8, none⟩ (.slice A191_8 ((rd_T32 l0 x4_1).f8).length c191_8)) w.heap.size (fun _ => True) u3 x3_1) := ⟨by (with_reducible repeat (first | apply Kd.R_alloc | apply Kd.R_drewN | apply Kd.R_drew)); exact Kd.R_mono (Kd.R_far (p := ⟨gb192, 8, none⟩) (Kd.R_far (p := ⟨gb192, 7, none⟩) (Kd.R_far (p := ⟨gb192, 6, none⟩) (Kd.R_far (p := ⟨gb192, 5, none⟩) (Kd.R_far (p := ⟨gb192, 4, none⟩) (Kd.R_far (p := ⟨gb192, 3, none⟩) (Kd.R_far (p := ⟨gb192, 2, none⟩) (Kd.R_far (p := ⟨gb192, 1, none⟩) (Kd.R_far (p := ⟨gb192, 0, none⟩) (Kd.R_types HO_3.out BK192.out (by decide)) (fun _ hk => hk.2) (.int .i64 ((rd_T32 l0 x4_1).f0))) (fun _ hk => hk.2) (.string ((rd_T32 l0 x4_1).f1))) (fun _ hk => hk.2) (.string ((rd_T32 l0 x4_1).f2))) (fun _ hk => hk.2) (.int .i64 ((rd_T32 l0 x4_1).f3))) (fun _ hk => hk.2) (.int .i64 ((rd_T32 l0 x4_1).f4))) (fun _ hk => hk.2) (.bool ((rd_T32 l0 x4_1).f5))) (fun _ hk => hk.2) (.int .i64 ((rd_T32 l0 x4_1).f6))) (fun _ hk => hk.2) (.int .i64 ((rd_T32 l0 x4_1).f7))) (fun _ hk => hk.2) (.slice A191_8 ((rd_T32 l0 x4_1).f8).length c191_8)) (fun _ hk => trivial)⟩
            have n1_ : Aside0 ((((((((((w6.setCell ⟨gb192, 0, none⟩ (.int .i64 ((rd_T32 l0 x4_1).f0))).setCell ⟨gb192, 1, none⟩ (.string ((rd_T32 l0 x4_1).f1))).setCell ⟨gb192, 2, none⟩ (.string ((rd_T32 l0 x4_1).f2))).setCell ⟨gb192, 3, none⟩ (.int .i64 ((rd_T32 l0 x4_1).f3))).setCell ⟨gb192, 4, none⟩ (.int .i64 ((rd_T32 l0 x4_1).f4))).setCell ⟨gb192, 5, none⟩ (.bool ((rd_T32 l0 x4_1).f5))).setCell ⟨gb192, 6, none⟩ (.int .i64 ((rd_T32 l0 x4_1).f6))).setCell ⟨gb192, 7, none⟩ (.int .i64 ((rd_T32 l0 x4_1).f7))).setCell ⟨gb192, 8, none⟩ (.slice A191_8 ((rd_T32 l0 x4_1).f8).length c191_8)).heap[gb192]? = some (.cells #[.int .i64 ((rd_T32 l0 x4_1).f0), .string ((rd_T32 l0 x4_1).f1), .string ((rd_T32 l0 x4_1).f2), .int .i64 ((rd_T32 l0 x4_1).f3), .int .i64 ((rd_T32 l0 x4_1).f4), .bool ((rd_T32 l0 x4_1).f5), .int .i64 ((rd_T32 l0 x4_1).f6), .int .i64 ((rd_T32 l0 x4_1).f7), .slice A191_8 ((rd_T32 l0 x4_1).f8).length c191_8] 32 (0, 0))) := ⟨by (with_reducible repeat (first | refine blk_drewN ?_ _ | refine blk_drew ?_ | refine blk_alloc ?_ _)); refine blk_put (cs := #[.int .i64 ((rd_T32 l0 x4_1).f0), .string ((rd_T32 l0 x4_1).f1), .string ((rd_T32 l0 x4_1).f2), .int .i64 ((rd_T32 l0 x4_1).f3), .int .i64 ((rd_T32 l0 x4_1).f4), .bool ((rd_T32 l0 x4_1).f5), .int .i64 ((rd_T32 l0 x4_1).f6), .int .i64 ((rd_T32 l0 x4_1).f7), .slice none 0 0]) ?_ 8 _ rfl; (with_reducible repeat (first | refine blk_drewN ?_ _ | refine blk_drew ?_ | refine blk_alloc ?_ _)); refine blk_put (cs := #[.int .i64 ((rd_T32 l0 x4_1).f0), .string ((rd_T32 l0 x4_1).f1), .string ((rd_T32 l0 x4_1).f2), .int .i64 ((rd_T32 l0 x4_1).f3), .int .i64 ((rd_T32 l0 x4_1).f4), .bool ((rd_T32 l0 x4_1).f5), .int .i64 ((rd_T32 l0 x4_1).f6), .int .i64 0, .slice none 0 0]) ?_ 7 _ rfl; (with_reducible repeat (first | refine blk_drewN ?_ _ | refine blk_drew ?_ | refine blk_alloc ?_ _)); refine blk_put (cs := #[.int .i64 ((rd_T32 l0 x4_1).f0), .string ((rd_T32 l0 x4_1).f1), .string ((rd_T32 l0 x4_1).f2), .int .i64 ((rd_T32 l0 x4_1).f3), .int .i64 ((rd_T32 l0 x4_1).f4), .bool ((rd_T32 l0 x4_1).f5), .int .i64 0, .int .i64 0, .slice none 0 0]) ?_ 6 _ rfl; (with_reducible repeat (first | refine blk_drewN ?_ _ | refine blk_drew ?_ | refine blk_alloc ?_ _)); refine blk_put (cs := #[.int .i64 ((rd_T32 l0 x4_1).f0), .string ((rd_T32 l0 x4_1).f1), .string ((rd_T32 l0 x4_1).f2), .int .i64 ((rd_T32 l0 x4_1).f3), .int .i64 ((rd_T32 l0 x4_1).f4), .bool false, .int .i64 0, .int .i64 0, .slice none 0 0]) ?_ 5 _ rfl; (with_reducible repeat (first | refine blk_drewN ?_ _ | refine blk_drew ?_ | refine blk_alloc ?_ _)); refine blk_put (cs := #[.int .i64 ((rd_T32 l0 x4_1).f0), .string ((rd_T32 l0 x4_1).f1), .string ((rd_T32 l0 x4_1).f2), .int .i64 ((rd_T32 l0 x4_1).f3), .int .i64 0, .bool false, .int .i64 0, .int .i64 0, .slice none 0 0]) ?_ 4 _ rfl; (with_reducible repeat (first | refine blk_drewN ?_ _ | refine blk_drew ?_ | refine blk_alloc ?_ _)); refine blk_put (cs := #[.int .i64 ((rd_T32 l0 x4_1).f0), .string ((rd_T32 l0 x4_1).f1), .string ((rd_T32 l0 x4_1).f2), .int .i64 0, .int .i64 0, .bool false, .int .i64 0, .int .i64 0, .slice none 0 0]) ?_ 3 _ rfl; (with_reducible repeat (first | refine blk_drewN ?_ _ | refine blk_drew ?_ | refine blk_alloc ?_ _)); refine blk_put (cs := #[.int .i64 ((rd_T32 l0 x4_1).f0), .string ((rd_T32 l0 x4_1).f1), .string (⟨#[]⟩ : ByteArray), .int .i64 0, .int .i64 0, .bool false, .int .i64 0, .int .i64 0, .slice none 0 0]) ?_ 2 _ rfl; (with_reducible repeat (first | refine blk_drewN ?_ _ | refine blk_drew ?_ | refine blk_alloc ?_ _)); refine blk_put (cs := #[.int .i64 ((rd_T32 l0 x4_1).f0), .string (⟨#[]⟩ : ByteArray), .string (⟨#[]⟩ : ByteArray), .int .i64 0, .int .i64 0, .bool false, .int .i64 0, .int .i64 0, .slice none 0 0]) ?_ 1 _ rfl; (with_reducible repeat (first | refine blk_drewN ?_ _ | refine blk_drew ?_ | refine blk_alloc ?_ _)); refine blk_put (cs := #[.int .i64 0, .string (⟨#[]⟩ : ByteArray), .string (⟨#[]⟩ : ByteArray), .int .i64 0, .int .i64 0, .bool false, .int .i64 0, .int .i64 0, .slice none 0 0]) ?_ 0 _ rfl; (with_reducible repeat (first | refine blk_drewN ?_ _ | refine blk_drew ?_ | refine blk_alloc ?_ _)); exact BK192.out⟩
            have n2_ : Aside0 (Below w.heap.size w (((((((((w6.setCell ⟨gb192, 0, none⟩ (.int .i64 ((rd_T32 l0 x4_1).f0))).setCell ⟨gb192, 1, none⟩ (.string ((rd_T32 l0 x4_1).f1))).setCell ⟨gb192, 2, none⟩ (.string ((rd_T32 l0 x4_1).f2))).setCell ⟨gb192, 3, none⟩ (.int .i64 ((rd_T32 l0 x4_1).f3))).setCell ⟨gb192, 4, none⟩ (.int .i64 ((rd_T32 l0 x4_1).f4))).setCell ⟨gb192, 5, none⟩ (.bool ((rd_T32 l0 x4_1).f5))).setCell ⟨gb192, 6, none⟩ (.int .i64 ((rd_T32 l0 x4_1).f6))).setCell ⟨gb192, 7, none⟩ (.int .i64 ((rd_T32 l0 x4_1).f7))).setCell ⟨gb192, 8, none⟩ (.slice A191_8 ((rd_T32 l0 x4_1).f8).length c191_8))) := ⟨by repeat (first | (with_reducible first | exact HB.out | apply below_alloc | apply pw_below_drewN | apply below_drew1 | refine below_set ?_ GE192.out) | exact HB.out)⟩
            (try clear HO_3)
            (try clear BK192)
            (try clear HB)
            generalize (((((((((w6.setCell ⟨gb192, 0, none⟩ (.int .i64 ((rd_T32 l0 x4_1).f0))).setCell ⟨gb192, 1, none⟩ (.string ((rd_T32 l0 x4_1).f1))).setCell ⟨gb192, 2, none⟩ (.string ((rd_T32 l0 x4_1).f2))).setCell ⟨gb192, 3, none⟩ (.int .i64 ((rd_T32 l0 x4_1).f3))).setCell ⟨gb192, 4, none⟩ (.int .i64 ((rd_T32 l0 x4_1).f4))).setCell ⟨gb192, 5, none⟩ (.bool ((rd_T32 l0 x4_1).f5))).setCell ⟨gb192, 6, none⟩ (.int .i64 ((rd_T32 l0 x4_1).f6))).setCell ⟨gb192, 7, none⟩ (.int .i64 ((rd_T32 l0 x4_1).f7))).setCell ⟨gb192, 8, none⟩ (.slice A191_8 ((rd_T32 l0 x4_1).f8).length c191_8)) = w8 at n0_ n1_ n2_ ⊢
            have HO_3 := n0_
            have BK192 := n1_
            have HB := n2_
            clear n0_ n1_ n2_
            have n0_ := Aside0.mk (Kd.R_drew HO_3.out)
            have n1_ := Aside0.mk (blk_drew BK192.out)
            have n2_ := Aside0.mk (below_drew1 HB.out)
            clear HO_3
            clear BK192
            clear HB
            have HO_3 := n0_
            have BK192 := n1_
            have HB := n2_
            clear n0_ n1_ n2_
            refine start_ (n := 24) (S := fun w' => w'.cell? ⟨gb192, 0, none⟩ = some (.int .i64 ((rd_T32 l0 x4_1).f0)) ∧ w'.cell? ⟨gb192, 1, none⟩ = some (.string ((rd_T32 l0 x4_1).f1)) ∧ w'.cell? ⟨gb192, 2, none⟩ = some (.string ((rd_T32 l0 x4_1).f2)) ∧ w'.cell? ⟨gb192, 3, none⟩ = some (.int .i64 ((rd_T32 l0 x4_1).f3)) ∧ w'.cell? ⟨gb192, 4, none⟩ = some (.int .i64 ((rd_T32 l0 x4_1).f4)) ∧ w'.cell? ⟨gb192, 5, none⟩ = some (.bool ((rd_T32 l0 x4_1).f5)) ∧ w'.cell? ⟨gb192, 6, none⟩ = some (.int .i64 ((rd_T32 l0 x4_1).f6)) ∧ w'.cell? ⟨gb192, 7, none⟩ = some (.int .i64 ((rd_T32 l0 x4_1).f7)) ∧ w'.cell? ⟨gb192, 8, none⟩ = some (.slice A191_8 ((rd_T32 l0 x4_1).f8).length c191_8)) (ds := []) #[false, false, false, false, false, false, false, false, false, false, false, false, false, false, false, false, false, false, false, false, false, false, false, false] (by kernel_rfl) rfl rfl ⟨(blk_cell BK192.out 0).trans rfl, (blk_cell BK192.out 1).trans rfl, (blk_cell BK192.out 2).trans rfl, (blk_cell BK192.out 3).trans rfl, (blk_cell BK192.out 4).trans rfl, (blk_cell BK192.out 5).trans rfl, (blk_cell BK192.out 6).trans rfl, (blk_cell BK192.out 7).trans rfl, (blk_cell BK192.out 8).trans rfl⟩ (fun hHeld => ?_); refine with_tabW incipitlaw11_theirs.tab6 incipitlaw11_theirs.bits6 (fun HT_ HW_ => ?_)
            generalize w8.drew = w9 at HO_3 BK192 HB hHeld ⊢
            refine pure_ (i := 0) (N := some 16) (v := ?_) (a' := ?_) #[true, false, false, false, false, false, false, false, false, false, false, false, false, false, false, false, false, false, false, false, false, false, false, false] rfl rfl (any_of HT_.out (by kernel_rfl)) (fun _ _ _ h => h) (Or.inl ⟨by rfl, ?_⟩) ?_ ?_
            rotate_left
            · intro w'
              go_simp
              with_reducible rfl
            rotate_left
            · simp only [Act.put, List.setIfInBounds_toArray, List.set_cons_zero, List.set_cons_succ, i64_w, i32_w]
              rfl
            refine pure_ (i := 1) (N := some 17) (v := ?_) (a' := ?_) #[true, true, false, false, false, false, false, false, false, false, false, false, false, false, false, false, false, false, false, false, false, false, false, false] rfl rfl (any_of HT_.out (by kernel_rfl)) (fun _ _ _ h => h) (Or.inl ⟨by rfl, ?_⟩) ?_ ?_
            rotate_left
            · intro w'
              go_simp
              with_reducible rfl
            rotate_left
            · simp only [Act.put, List.setIfInBounds_toArray, List.set_cons_zero, List.set_cons_succ, i64_w, i32_w]
              rfl
            refine pure_ (i := 3) (N := some 19) (v := ?_) (a' := ?_) #[true, true, false, true, false, false, false, false, false, false, false, false, false, false, false, false, false, false, false, false, false, false, false, false] rfl rfl (any_of HT_.out (by kernel_rfl)) (fun _ _ _ h => h) (Or.inl ⟨by rfl, ?_⟩) ?_ ?_
            rotate_left
            · intro w'
              go_simp
              with_reducible rfl
            rotate_left
            · simp only [Act.put, List.setIfInBounds_toArray, List.set_cons_zero, List.set_cons_succ, i64_w, i32_w]
              rfl
            refine pure_ (i := 5) (N := some 21) (v := ?_) (a' := ?_) #[true, true, false, true, false, true, false, false, false, false, false, false, false, false, false, false, false, false, false, false, false, false, false, false] rfl rfl (any_of HT_.out (by kernel_rfl)) (fun _ _ _ h => h) (Or.inl ⟨by rfl, ?_⟩) ?_ ?_
            rotate_left
            · intro w'
              go_simp
              with_reducible rfl
            rotate_left
            · simp only [Act.put, List.setIfInBounds_toArray, List.set_cons_zero, List.set_cons_succ, i64_w, i32_w]
              rfl
            refine pure_ (i := 7) (N := some 23) (v := ?_) (a' := ?_) #[true, true, false, true, false, true, false, true, false, false, false, false, false, false, false, false, false, false, false, false, false, false, false, false] rfl rfl (any_of HT_.out (by kernel_rfl)) (fun _ _ _ h => h) (Or.inl ⟨by rfl, ?_⟩) ?_ ?_
            rotate_left
            · intro w'
              go_simp
              with_reducible rfl
            rotate_left
            · simp only [Act.put, List.setIfInBounds_toArray, List.set_cons_zero, List.set_cons_succ, i64_w, i32_w]
              rfl
            refine pure_ (i := 9) (N := some 25) (v := ?_) (a' := ?_) #[true, true, false, true, false, true, false, true, false, true, false, false, false, false, false, false, false, false, false, false, false, false, false, false] rfl rfl (any_of HT_.out (by kernel_rfl)) (fun _ _ _ h => h) (Or.inl ⟨by rfl, ?_⟩) ?_ ?_
            rotate_left
            · intro w'
              go_simp
              with_reducible rfl
            rotate_left
            · simp only [Act.put, List.setIfInBounds_toArray, List.set_cons_zero, List.set_cons_succ, i64_w, i32_w]
              rfl
            refine pure_ (i := 11) (N := some 27) (v := ?_) (a' := ?_) #[true, true, false, true, false, true, false, true, false, true, false, true, false, false, false, false, false, false, false, false, false, false, false, false] rfl rfl (any_of HT_.out (by kernel_rfl)) (fun _ _ _ h => h) (Or.inl ⟨by rfl, ?_⟩) ?_ ?_
            rotate_left
            · intro w'
              go_simp
              with_reducible rfl
            rotate_left
            · simp only [Act.put, List.setIfInBounds_toArray, List.set_cons_zero, List.set_cons_succ, i64_w, i32_w]
              rfl
            refine pure_ (i := 13) (N := some 29) (v := ?_) (a' := ?_) #[true, true, false, true, false, true, false, true, false, true, false, true, false, true, false, false, false, false, false, false, false, false, false, false] rfl rfl (any_of HT_.out (by kernel_rfl)) (fun _ _ _ h => h) (Or.inl ⟨by rfl, ?_⟩) ?_ ?_
            rotate_left
            · intro w'
              go_simp
              with_reducible rfl
            rotate_left
            · simp only [Act.put, List.setIfInBounds_toArray, List.set_cons_zero, List.set_cons_succ, i64_w, i32_w]
              rfl
            refine pure_ (i := 15) (N := some 31) (v := ?_) (a' := ?_) #[true, true, false, true, false, true, false, true, false, true, false, true, false, true, false, true, false, false, false, false, false, false, false, false] rfl rfl (any_of HT_.out (by kernel_rfl)) (fun _ _ _ h => h) (Or.inl ⟨by rfl, ?_⟩) ?_ ?_
            rotate_left
            · intro w'
              go_simp
              with_reducible rfl
            rotate_left
            · simp only [Act.put, List.setIfInBounds_toArray, List.set_cons_zero, List.set_cons_succ, i64_w, i32_w]
              rfl
            refine pure_ (i := 17) (N := some 33) (v := ?_) (a' := ?_) #[true, true, false, true, false, true, false, true, false, true, false, true, false, true, false, true, false, true, false, false, false, false, false, false] rfl rfl (any_of HT_.out (by kernel_rfl)) (fun _ _ _ h => h) (Or.inl ⟨by rfl, ?_⟩) ?_ ?_
            rotate_left
            · intro w'
              go_simp
              with_reducible rfl
            rotate_left
            · simp only [Act.put, List.setIfInBounds_toArray, List.set_cons_zero, List.set_cons_succ, i64_w, i32_w]
              rfl
            refine take_ (i := 2) (N := some 18) (v := ?_) (a' := ?_) #[true, true, true, true, false, true, false, true, false, true, false, true, false, true, false, true, false, true, false, false, false, false, false, false] rfl rfl (take_ofW HT_.out HW_.out (by kernel_rfl)) (fun _ _ _ h => h) (Or.inl ⟨by rfl, ?_⟩) hHeld ?_ ?_
            rotate_left
            · rintro w' ⟨s0, s1, s2, s3, s4, s5, s6, s7, s8⟩
              go_simp
              with_reducible rfl
            rotate_left
            · simp only [Act.put, List.setIfInBounds_toArray, List.set_cons_zero, List.set_cons_succ, i64_w, i32_w]
              rfl
            refine take_ (i := 4) (N := some 20) (v := ?_) (a' := ?_) #[true, true, true, true, true, true, false, true, false, true, false, true, false, true, false, true, false, true, false, false, false, false, false, false] rfl rfl (take_ofW HT_.out HW_.out (by kernel_rfl)) (fun _ _ _ h => h) (Or.inl ⟨by rfl, ?_⟩) hHeld ?_ ?_
            rotate_left
            · rintro w' ⟨s0, s1, s2, s3, s4, s5, s6, s7, s8⟩
              go_simp
              with_reducible rfl
            rotate_left
            · simp only [Act.put, List.setIfInBounds_toArray, List.set_cons_zero, List.set_cons_succ, i64_w, i32_w]
              rfl
            refine take_ (i := 6) (N := some 22) (v := ?_) (a' := ?_) #[true, true, true, true, true, true, true, true, false, true, false, true, false, true, false, true, false, true, false, false, false, false, false, false] rfl rfl (take_ofW HT_.out HW_.out (by kernel_rfl)) (fun _ _ _ h => h) (Or.inl ⟨by rfl, ?_⟩) hHeld ?_ ?_
            rotate_left
            · rintro w' ⟨s0, s1, s2, s3, s4, s5, s6, s7, s8⟩
              go_simp
              with_reducible rfl
            rotate_left
            · simp only [Act.put, List.setIfInBounds_toArray, List.set_cons_zero, List.set_cons_succ, i64_w, i32_w]
              rfl
            refine take_ (i := 8) (N := some 24) (v := ?_) (a' := ?_) #[true, true, true, true, true, true, true, true, true, true, false, true, false, true, false, true, false, true, false, false, false, false, false, false] rfl rfl (take_ofW HT_.out HW_.out (by kernel_rfl)) (fun _ _ _ h => h) (Or.inl ⟨by rfl, ?_⟩) hHeld ?_ ?_
            rotate_left
            · rintro w' ⟨s0, s1, s2, s3, s4, s5, s6, s7, s8⟩
              go_simp
              with_reducible rfl
            rotate_left
            · simp only [Act.put, List.setIfInBounds_toArray, List.set_cons_zero, List.set_cons_succ, i64_w, i32_w]
              rfl
            refine take_ (i := 10) (N := some 26) (v := ?_) (a' := ?_) #[true, true, true, true, true, true, true, true, true, true, true, true, false, true, false, true, false, true, false, false, false, false, false, false] rfl rfl (take_ofW HT_.out HW_.out (by kernel_rfl)) (fun _ _ _ h => h) (Or.inl ⟨by rfl, ?_⟩) hHeld ?_ ?_
            rotate_left
            · rintro w' ⟨s0, s1, s2, s3, s4, s5, s6, s7, s8⟩
              go_simp
              with_reducible rfl
            rotate_left
            · simp only [Act.put, List.setIfInBounds_toArray, List.set_cons_zero, List.set_cons_succ, i64_w, i32_w]
              rfl
            refine take_ (i := 12) (N := some 28) (v := ?_) (a' := ?_) #[true, true, true, true, true, true, true, true, true, true, true, true, true, true, false, true, false, true, false, false, false, false, false, false] rfl rfl (take_ofW HT_.out HW_.out (by kernel_rfl)) (fun _ _ _ h => h) (Or.inl ⟨by rfl, ?_⟩) hHeld ?_ ?_
            rotate_left
            · rintro w' ⟨s0, s1, s2, s3, s4, s5, s6, s7, s8⟩
              go_simp
              with_reducible rfl
            rotate_left
            · simp only [Act.put, List.setIfInBounds_toArray, List.set_cons_zero, List.set_cons_succ, i64_w, i32_w]
              rfl
            refine take_ (i := 14) (N := some 30) (v := ?_) (a' := ?_) #[true, true, true, true, true, true, true, true, true, true, true, true, true, true, true, true, false, true, false, false, false, false, false, false] rfl rfl (take_ofW HT_.out HW_.out (by kernel_rfl)) (fun _ _ _ h => h) (Or.inl ⟨by rfl, ?_⟩) hHeld ?_ ?_
            rotate_left
            · rintro w' ⟨s0, s1, s2, s3, s4, s5, s6, s7, s8⟩
              go_simp
              with_reducible rfl
            rotate_left
            · simp only [Act.put, List.setIfInBounds_toArray, List.set_cons_zero, List.set_cons_succ, i64_w, i32_w]
              rfl
            refine take_ (i := 16) (N := some 32) (v := ?_) (a' := ?_) #[true, true, true, true, true, true, true, true, true, true, true, true, true, true, true, true, true, true, false, false, false, false, false, false] rfl rfl (take_ofW HT_.out HW_.out (by kernel_rfl)) (fun _ _ _ h => h) (Or.inl ⟨by rfl, ?_⟩) hHeld ?_ ?_
            rotate_left
            · rintro w' ⟨s0, s1, s2, s3, s4, s5, s6, s7, s8⟩
              go_simp
              with_reducible rfl
            rotate_left
            · simp only [Act.put, List.setIfInBounds_toArray, List.set_cons_zero, List.set_cons_succ, i64_w, i32_w]
              rfl
            refine take_ (i := 18) (N := some 34) (v := ?_) (a' := ?_) #[true, true, true, true, true, true, true, true, true, true, true, true, true, true, true, true, true, true, true, false, false, false, false, false] rfl rfl (take_ofW HT_.out HW_.out (by kernel_rfl)) (fun _ _ _ h => h) (Or.inl ⟨by rfl, ?_⟩) hHeld ?_ ?_
            rotate_left
            · rintro w' ⟨s0, s1, s2, s3, s4, s5, s6, s7, s8⟩
              go_simp
              with_reducible rfl
            rotate_left
            · simp only [Act.put, List.setIfInBounds_toArray, List.set_cons_zero, List.set_cons_succ, i64_w, i32_w]
              rfl
            refine one_ (i := 19) (N := some 35) #[true, true, true, true, true, true, true, true, true, true, true, true, true, true, true, true, true, true, true, true, false, false, false, false] rfl rfl (one_of HT_.out (by kernel_rfl)) (by decide) (fun K hK => ?_)
            refine goes_ Tryz.func17 (by kernel_rfl) rfl #[.slice A191_8 ((rd_T32 l0 x4_1).f8).length c191_8] (by rfl) rfl rfl (by (try simp only [List.map_toArray, List.map_cons, List.map_nil]); first | done | rfl | (simp only [List.length_drop, List.length_take]; rfl)) ?_
            with_reducible refine (ih k1 (by have := HK1.out; omega) _ _ ((rd_T32 l0 x4_1).f8) t193 _ ?side1 ?side2 A4.out).mono ?_
            (case side1 => repeat (first | exact (Kd.C_below HR191_8.out HB.out) | (with_reducible refine Kd.C_alloc ?_ _) | (with_reducible refine Kd.C_drewN ?_ _) | (with_reducible refine Kd.C_drew ?_)))
            (case side2 => exact HC191_8.out)
            rintro e w10 ⟨v194, rfl, ho0, hb⟩
            refine ⟨_, rfl, ?_⟩
            have n0_ := Aside0.mk (Kd.R_elder' (by (with_reducible repeat (first | apply Kd.R_alloc | apply Kd.R_drewN | apply Kd.R_drew)); exact HO_3.out) (Kd.R_base ho0) hb)
            have n1_ := Aside0.mk (Kd.R_lower (Kd.R_new' ho0 (Kd.R_lt (by (with_reducible repeat (first | apply Kd.R_alloc | apply Kd.R_drewN | apply Kd.R_drew)); exact HO_3.out))) (below_size (by repeat (first | (with_reducible first | exact HB.out | apply below_alloc | apply pw_below_drewN | apply below_drew1 | refine below_set ?_ GE192.out) | exact HB.out))))
            have n2_ := Aside0.mk (blk_below (g := gb192) (o := .cells #[.int .i64 ((rd_T32 l0 x4_1).f0), .string ((rd_T32 l0 x4_1).f1), .string ((rd_T32 l0 x4_1).f2), .int .i64 ((rd_T32 l0 x4_1).f3), .int .i64 ((rd_T32 l0 x4_1).f4), .bool ((rd_T32 l0 x4_1).f5), .int .i64 ((rd_T32 l0 x4_1).f6), .int .i64 ((rd_T32 l0 x4_1).f7), .slice A191_8 ((rd_T32 l0 x4_1).f8).length c191_8] 32 (0, 0)) (by (with_reducible repeat (first | refine blk_drewN ?_ _ | refine blk_drew ?_ | refine blk_alloc ?_ _)); exact BK192.out) hb)
            have n3_ := Aside0.mk (below_step (by repeat (first | (with_reducible first | exact HB.out | apply below_alloc | apply pw_below_drewN | apply below_drew1 | refine below_set ?_ GE192.out) | exact HB.out)) hb)
            clear HO_3
            clear BK192
            clear HB
            have HO_3 := n0_
            have HO195 := n1_
            have BK192 := n2_
            have HB := n3_
            clear n0_ n1_ n2_ n3_
            (try clear hb)
            (try clear hb2)
            (try clear hk)
            (try clear hi)
            (try clear ho0)
            obtain ⟨Ao11, co11, eo11⟩ := Kd.R_slice HO195.out
            (first | subst eo11 | (injection eo11 with f1_ f2_ f3_; have f4_ := f1_.symm; have f5_ := f3_.symm; clear f1_ f2_ f3_; subst f4_; subst f5_))
            refine hK.out _ _ ⟨(blk_cell BK192.out 0).trans rfl, (blk_cell BK192.out 1).trans rfl, (blk_cell BK192.out 2).trans rfl, (blk_cell BK192.out 3).trans rfl, (blk_cell BK192.out 4).trans rfl, (blk_cell BK192.out 5).trans rfl, (blk_cell BK192.out 6).trans rfl, (blk_cell BK192.out 7).trans rfl, (blk_cell BK192.out 8).trans rfl⟩ (fun hHeld => ?_)
            clear hK K
            refine norm_ (a' := ?_) ?_ ?_
            rotate_left
            · show Act.put _ (some 35) _ = _
              simp only [Act.put, List.setIfInBounds_toArray, List.set_cons_zero, List.set_cons_succ, i64_w, i32_w]
              rfl
            refine pure_ (i := 20) (N := some 36) (v := ?_) (a' := ?_) #[true, true, true, true, true, true, true, true, true, true, true, true, true, true, true, true, true, true, true, true, true, false, false, false] rfl rfl (any_of HT_.out (by kernel_rfl)) (fun _ _ _ h => h) (Or.inl ⟨by rfl, ?_⟩) ?_ ?_
            rotate_left
            · intro w'
              go_simp
              with_reducible rfl
            rotate_left
            · simp only [Act.put, List.setIfInBounds_toArray, List.set_cons_zero, List.set_cons_succ, i64_w, i32_w]
              rfl
            refine one_ (i := 21) (N := some 37) #[true, true, true, true, true, true, true, true, true, true, true, true, true, true, true, true, true, true, true, true, true, true, false, false] rfl rfl (one_of HT_.out (by kernel_rfl)) (by decide) (fun K hK => ?_)
            refine value_ (w1 := ?_) (v := ?_) (by rfl) rfl ?_ ?_
            rotate_left 2
            · go_simp
              constructor
              · rfl
              · rfl
            refine hK.out _ _ ⟨(blk_cell (blk_alloc BK192.out _) 0).trans rfl, (blk_cell (blk_alloc BK192.out _) 1).trans rfl, (blk_cell (blk_alloc BK192.out _) 2).trans rfl, (blk_cell (blk_alloc BK192.out _) 3).trans rfl, (blk_cell (blk_alloc BK192.out _) 4).trans rfl, (blk_cell (blk_alloc BK192.out _) 5).trans rfl, (blk_cell (blk_alloc BK192.out _) 6).trans rfl, (blk_cell (blk_alloc BK192.out _) 7).trans rfl, (blk_cell (blk_alloc BK192.out _) 8).trans rfl⟩ (fun hHeld => ?_)
            clear hK K
            refine norm_ (a' := ?_) ?_ ?_
            rotate_left
            · show Act.put _ (some 37) _ = _
              simp only [Act.put, List.setIfInBounds_toArray, List.set_cons_zero, List.set_cons_succ, i64_w, i32_w]
              rfl
            refine one_ (i := 22) (N := some 38) #[true, true, true, true, true, true, true, true, true, true, true, true, true, true, true, true, true, true, true, true, true, true, true, false] rfl rfl (one_of HT_.out (by kernel_rfl)) (by decide) (fun K hK => ?_)
            refine Kd.R_append_step k63 (w0 := w) w.heap.size (by rfl) (.tmp 16) (.tmp 37) 34 63 (.agg #[(.int .i64 0), (.string ⟨#[]⟩), (.string ⟨#[]⟩), (.int .i64 0), (.int .i64 0), (.bool false), (.int .i64 0), (.int .i64 0), (.slice none 0 0)]) 104 rfl Tryz.underlying34 info63 rfl (by decide) (by omega) u3 x3_1 (⟨(rd_T32 l0 x4_1).f0, (rd_T32 l0 x4_1).f1, (rd_T32 l0 x4_1).f2, (rd_T32 l0 x4_1).f3, (rd_T32 l0 x4_1).f4, (rd_T32 l0 x4_1).f5, (rd_T32 l0 x4_1).f6, (rd_T32 l0 x4_1).f7, t193⟩ : S63) [.int .i64 ((rd_T32 l0 x4_1).f0), .string ((rd_T32 l0 x4_1).f1), .string ((rd_T32 l0 x4_1).f2), .int .i64 ((rd_T32 l0 x4_1).f3), .int .i64 ((rd_T32 l0 x4_1).f4), .bool ((rd_T32 l0 x4_1).f5), .int .i64 ((rd_T32 l0 x4_1).f6), .int .i64 ((rd_T32 l0 x4_1).f7), .slice Ao11 t193.length co11] (fun _ => True) (fun k_ => ((fun _ => True)) k_ ∧ some k_ ≠ (u3 : Value).ownBlock) rfl rfl ?aP (fun _ hk => hk) ?aF ?aO ?aB ?aS ?aL ?_
            (case aP => exact k63_mkM _ _ _ (⟨(rd_T32 l0 x4_1).f0, (rd_T32 l0 x4_1).f1, (rd_T32 l0 x4_1).f2, (rd_T32 l0 x4_1).f3, (rd_T32 l0 x4_1).f4, (rd_T32 l0 x4_1).f5, (rd_T32 l0 x4_1).f6, (rd_T32 l0 x4_1).f7, t193⟩ : S63) (Kd.R_mono (HO195.out) (fun k_ hk => ⟨trivial, hk.2⟩)))
            (case aB => exact (by repeat (first | (with_reducible first | exact HB.out | apply below_alloc | apply pw_below_drewN | apply below_drew1 | refine below_set ?_ GE192.out) | exact HB.out)))
            (case aF => exact (fun _ _ => trivial))
            (case aO => exact (by (with_reducible repeat (first | apply Kd.R_alloc | apply Kd.R_drewN | apply Kd.R_drew)); exact Kd.R_mono HO_3.out (fun _ hk => trivial)))
            (case aS => exact (below_size (by repeat (first | (with_reducible first | exact HB.out | apply below_alloc | apply pw_below_drewN | apply below_drew1 | refine below_set ?_ GE192.out) | exact HB.out))))
            (case aL => have := LMc5.out; omega)
            intro v197 w12 ho hb hg hat
            rw [← Ny196.out] at ho
            have n0_ := Aside0.mk (blk_grown (g := gb192) (o := .cells #[.int .i64 ((rd_T32 l0 x4_1).f0), .string ((rd_T32 l0 x4_1).f1), .string ((rd_T32 l0 x4_1).f2), .int .i64 ((rd_T32 l0 x4_1).f3), .int .i64 ((rd_T32 l0 x4_1).f4), .bool ((rd_T32 l0 x4_1).f5), .int .i64 ((rd_T32 l0 x4_1).f6), .int .i64 ((rd_T32 l0 x4_1).f7), .slice A191_8 ((rd_T32 l0 x4_1).f8).length c191_8] 32 (0, 0)) (by (with_reducible repeat (first | refine blk_drewN ?_ _ | refine blk_drew ?_ | refine blk_alloc ?_ _)); exact BK192.out) hg (Kd.R_ne HO_3.out BK192.out (by decide)))
            have n1_ := Aside0.mk (hb)
            have n2_ := Aside0.mk (ho)
            clear BK192
            clear HB
            clear HO_3
            clear HO195
            have BK192 := n0_
            have HB := n1_
            have HO198 := n2_
            clear n0_ n1_ n2_
            clear ho hb hg hat
            refine hK.out _ _ ⟨(blk_cell BK192.out 0).trans rfl, (blk_cell BK192.out 1).trans rfl, (blk_cell BK192.out 2).trans rfl, (blk_cell BK192.out 3).trans rfl, (blk_cell BK192.out 4).trans rfl, (blk_cell BK192.out 5).trans rfl, (blk_cell BK192.out 6).trans rfl, (blk_cell BK192.out 7).trans rfl, (blk_cell BK192.out 8).trans rfl⟩ (fun hHeld => ?_)
            clear hK K
            refine norm_ (a' := ?_) ?_ ?_
            rotate_left
            · show Act.put _ (some 38) _ = _
              simp only [Act.put, List.setIfInBounds_toArray, List.set_cons_zero, List.set_cons_succ, i64_w, i32_w]
              rfl
            refine pure_ (i := 23) (N := some 3) (v := ?_) (a' := ?_) #[true, true, true, true, true, true, true, true, true, true, true, true, true, true, true, true, true, true, true, true, true, true, true, true] rfl rfl (any_of HT_.out (by kernel_rfl)) (fun _ _ _ h => h) (Or.inl ⟨by rfl, ?_⟩) ?_ ?_
            rotate_left
            · intro w'
              go_simp
              with_reducible rfl
            rotate_left
            · simp only [Act.put, List.setIfInBounds_toArray, List.set_cons_zero, List.set_cons_succ, i64_w, i32_w]
              rfl
            refine done_ (done_of HT_.out (by kernel_rfl)) ?_
            try go_wp2
            go_roundg k1
            case measure => have := HK1.out; omega
            case rel => exact ⟨(y196), (wrap64 (x4_1 + 1)), (by first | rfl | (simp; done) | (simp [*]; done)), H', ⟨by have := HK1.out; omega⟩, ⟨by (with_reducible repeat (first | apply Kd.R_alloc | apply Kd.R_drewN | apply Kd.R_drew)); exact HO198.out⟩, ⟨by repeat (first | (with_reducible first | exact HB.out | apply below_alloc | apply pw_below_drewN | apply below_drew1 | refine below_set ?_ GE192.out) | exact HB.out)⟩⟩
          · rw [if_neg c5] at H
            exact absurd H (by simp)
        · rw [if_neg c3] at H
          exact absurd H (by simp)
      · rw [if_neg c2] at H
        have c2b0 : decide (x4_1 < (l0.length : Int)) = false := decide_eq_false c2
        clear c2
        obtain rfl := Option.some.inj H
        go_wp2
        go_ret
        exact ⟨_, by first | rfl | (simp [errW_none, errW_some] <;> rfl) | (simp [*, errW_none, errW_some] <;> rfl), by (with_reducible repeat (first | apply Kd.R_alloc | apply Kd.R_drewN | apply Kd.R_drew)); exact HO_3.out, by repeat (first | (with_reducible first | exact HB.out | apply below_alloc | apply pw_below_drewN | apply below_drew1) | exact HB.out)⟩
end Go.Proofs.YtehmcahdjldhbaaGreatDoor.Bk
end
section
open Go Go.RowKit Go.Proofs.YtehmcahdjldhbaaGreatDoorW.PrintWords
set_option linter.unusedVariables false
set_option linter.unusedSimpArgs false
set_option maxRecDepth 100000
namespace Go.Proofs.YtehmcahdjldhbaaGreatDoor
open Wk
namespace Bk
end Bk
end Go.Proofs.YtehmcahdjldhbaaGreatDoor
end
section
set_option linter.unusedVariables false
set_option linter.unusedSimpArgs false
set_option maxRecDepth 100000
namespace Go.Proofs.YtehmcahdjldhbaaGreatDoor
open Wk
namespace Bk
namespace Sim
variable {r c dl : Nat} {pre pk : List Nat} {K : Nat → List Nat} {σ τ : St}
end Sim
end Bk
end Go.Proofs.YtehmcahdjldhbaaGreatDoor
end
section
set_option linter.unusedVariables false
set_option linter.unusedSimpArgs false
set_option maxRecDepth 100000
namespace Go.Proofs.YtehmcahdjldhbaaGreatDoor
open Wk
namespace Bk
namespace Sim
variable {r c dl : Nat} {pre pk : List Nat} {K : Nat → List Nat} {σ τ : St}
variable (F : Bs → List Ref × Bs) (U : Bs → Bs) (notes : Bool)
end Sim
end Bk
end Go.Proofs.YtehmcahdjldhbaaGreatDoor
end
section
set_option linter.unusedVariables false
set_option linter.unusedSimpArgs false
set_option maxRecDepth 100000
namespace Go.Proofs.YtehmcahdjldhbaaGreatDoor
open Wk
namespace Bk
section
variable (F : Bs → List Ref × Bs) (U : Bs → Bs) (notes : Bool)
end
namespace Sim
variable {r c dl : Nat} {pre pk : List Nat} {K : Nat → List Nat} {σ τ : St} (F : Bs → List Ref × Bs) (U : Bs → Bs) (notes : Bool)
end Sim
namespace Sim
variable {r c dl : Nat} {pre pk : List Nat} {K : Nat → List Nat} {σ τ : St} (F : Bs → List Ref × Bs)
end Sim
end Bk
end Go.Proofs.YtehmcahdjldhbaaGreatDoor
end
section
open Go Go.RowKit Go.Proofs.YtehmcahdjldhbaaGreatDoorW.PrintWords
set_option linter.unusedVariables false
set_option linter.unusedSimpArgs false
set_option maxRecDepth 100000
namespace Go.Proofs.YtehmcahdjldhbaaGreatDoor
open Wk
namespace Bk
mutual
def toB (dl : Nat) : Tr → S63
  | .mk kind S T N M flag first last kids => ⟨kind, mk S, mk T, N, M, flag, ((first + dl : Nat) : Int), ((last + dl : Nat) : Int), toBs dl kids⟩
def toBs (dl : Nat) : List Tr → List S63
  | [] => []
  | t :: r => toB dl t :: toBs dl r
end
theorem toBs_map (dl : Nat) : ∀ l : List Tr, toBs dl l = l.map (toB dl)
  | [] => by rw [toBs]; rfl
  | t :: r => by rw [toBs, toBs_map dl r]; rfl
theorem toBs_len (dl : Nat) (l : List Tr) : (toBs dl l).length = l.length := by rw [toBs_map, List.length_map]
theorem toBs_app (dl : Nat) (a b : List Tr) : toBs dl (a ++ b) = toBs dl a ++ toBs dl b := by rw [toBs_map, toBs_map, toBs_map, List.map_append]
inductive Small : List Tr → Prop
  | nil : Small []
  | cons {kind : Nat} {S T : Bs} {N M : Nat} {flag : Bool} {f l : Nat} {kids r : List Tr} (hf : f ≤ 1000) (hl : l ≤ 1000) (hk : Small kids) (hr : Small r) (hz : r.length < 1000000000000) : Small (Tr.mk kind S T N M flag f l kids :: r)
theorem InsL.small {a hi : Nat} {b : Bool} {l : List Tr} (h : InsL a hi b l) (hh : hi ≤ 1000) : Small l := by
  induction h with
  | nil => exact .nil
  | cons h1 h2 h3 h4 h5 hk hr hz ihk ihr => exact .cons (by omega) (by omega) (ihk (by omega)) (ihr hh) hz
theorem Small.len {l : List Tr} (h : Small l) : l.length ≤ 1000000000000 := by
  cases h with
  | nil => exact Nat.zero_le _
  | cons hf hl hk hr hz => rw [List.length_cons]; omega
theorem th_le {k m : Nat} (h : k ≤ m) (y0 : List S32) (y1 : List S63) (y2 : Int) {r : List S63} (e : incipitlaw11_theirs.l0 k y0 y1 y2 = some r) : incipitlaw11_theirs.l0 m y0 y1 y2 = some r := by
  induction h with
  | refl => exact e
  | step _ ih => exact (incipitlaw11_theirs.mono_l _).2 _ _ _ _ ih
theorem rdT (pre : List Tr) (t : Tr) (r : List Tr) : rd_T32 (toSs (pre ++ t :: r)) (pre.length : Int) = toS t := by
  unfold rd_T32
  rw [toSs_map, Int.toNat_natCast, List.map_append, List.map_cons, List.getD_eq_getElem?_getD, List.getElem?_append_right (by rw [List.length_map]; exact Nat.le_refl _), List.length_map, Nat.sub_self]
  rfl
theorem rdB (dl : Nat) (pre : List Tr) (t : Tr) (r : List Tr) : rd_T63 (toBs dl (pre ++ t :: r)) (pre.length : Int) = toB dl t := by
  unfold rd_T63
  rw [toBs_map, Int.toNat_natCast, List.map_append, List.map_cons, List.getD_eq_getElem?_getD, List.getElem?_append_right (by rw [List.length_map]; exact Nat.le_refl _), List.length_map, Nat.sub_self]
  rfl
theorem theirs_l0 {r : List Tr} (h : Small r) : ∀ pre : List Tr, pre.length + r.length ≤ 1000000000000 → ∃ k, incipitlaw11_theirs.l0 k (toSs (pre ++ r)) (toBs 0 pre) pre.length = some (toBs 0 (pre ++ r)) := by
  induction h with
  | nil =>
    intro pre _
    refine ⟨1, ?_⟩
    unfold incipitlaw11_theirs.l0
    rw [if_neg (by rw [toSs_length, List.append_nil]; omega), List.append_nil]
  | @cons kind S T N M flag f l kids r hf hl hk hr hz ihk ihr =>
    intro pre hL
    rw [List.length_cons] at hL
    obtain ⟨k1, e1⟩ := ihk [] (by have := hk.len; simpa using this)
    obtain ⟨k2, e2⟩ := ihr (pre ++ [Tr.mk kind S T N M flag f l kids]) (by rw [List.length_append]; show pre.length + 1 + r.length ≤ _; omega)
    rw [List.append_assoc, List.singleton_append, List.length_append] at e2
    have e2 : incipitlaw11_theirs.l0 k2 (toSs (pre ++ Tr.mk kind S T N M flag f l kids :: r)) (toBs 0 (pre ++ [Tr.mk kind S T N M flag f l kids])) ((pre.length + 1 : Nat) : Int) = some (toBs 0 (pre ++ Tr.mk kind S T N M flag f l kids :: r)) := e2
    have e1 : incipitlaw11_theirs.l0 k1 (toSs kids) [] 0 = some (toBs 0 kids) := by simpa [toBs] using e1
    obtain ⟨K, hK1, hK2⟩ : ∃ K, k1 ≤ K ∧ k2 ≤ K := ⟨k1 + k2, by omega, by omega⟩
    have e1 := th_le hK1 _ _ _ e1
    have e2 := th_le (show k2 ≤ K + 1 by omega) _ _ _ e2
    have hlen : (pre.length : Int) < ((toSs (pre ++ Tr.mk kind S T N M flag f l kids :: r)).length : Int) := by
      rw [toSs_length, List.length_append, List.length_cons]; omega
    refine ⟨K + 2, ?_⟩
    have hw : wrap64 ((pre.length : Int) + 1) = ((pre.length + 1 : Nat) : Int) := by unfold wrap64; omega
    have ef : incipitlaw11_theirs.f (K + 1) (toSs kids) = some (toBs 0 kids) := by rw [incipitlaw11_theirs.f]; exact e1
    have h0 : (0 : Int) ≤ (pre.length : Int) := Int.natCast_nonneg _
    have hb : (toBs 0 pre).length < 1353245080339 := by rw [toBs_len]; omega
    rw [incipitlaw11_theirs.l0, if_pos hlen, if_pos h0, rdT, hw]
    show ((incipitlaw11_theirs.f (K + 1) (toSs kids)).bind fun t => _) = _
    rw [ef]
    show (if (toBs 0 pre).length < 1353245080339 then _ else none) = _
    rw [if_pos hb]
    rw [toBs_app] at e2
    exact e2
theorem theirs_f {l : List Tr} (h : Small l) : ∃ k, incipitlaw11_theirs.f k (toSs l) = some (toBs 0 l) := by
  obtain ⟨k, e⟩ := theirs_l0 h [] (by have := h.len; simpa using this)
  exact ⟨k + 1, by rw [incipitlaw11_theirs.f]; simpa [toBs] using e⟩
end Bk
end Go.Proofs.YtehmcahdjldhbaaGreatDoor
end
section
set_option linter.unusedVariables false
set_option linter.unusedSimpArgs false
set_option maxRecDepth 100000
namespace Go.Proofs.YtehmcahdjldhbaaGreatDoor
open Wk
namespace Bk
section
variable (F : Bs → List Ref × Bs) (U : Bs → Bs) (nt : Bool)
end
section
variable (F : Bs → List Ref × Bs) (U : Bs → Bs) (nt : Bool)
end
end Bk
end Go.Proofs.YtehmcahdjldhbaaGreatDoor
end
section
set_option linter.unusedVariables false
set_option linter.unusedSimpArgs false
set_option maxRecDepth 100000
namespace Go.Proofs.YtehmcahdjldhbaaGreatDoor
open Wk
namespace Bk
section
variable (F : Bs → List Ref × Bs) (U : Bs → Bs) (nt : Bool)
end
end Bk
end Go.Proofs.YtehmcahdjldhbaaGreatDoor
end
section
set_option linter.unusedVariables false
set_option linter.unusedSimpArgs false
set_option maxRecDepth 100000
namespace Go.Proofs.YtehmcahdjldhbaaGreatDoor
open Wk
namespace Bk
section
variable (F : Bs → List Ref × Bs) (U : Bs → Bs) (nt : Bool)
end
section
variable (F : Bs → List Ref × Bs) (U : Bs → Bs) (nt : Bool)
end
end Bk
end Go.Proofs.YtehmcahdjldhbaaGreatDoor
end
section
open Go Go.RowKit Go.Proofs.YtehmcahdjldhbaaGreatDoorW.PrintWords
set_option linter.unusedVariables false
set_option linter.unusedSimpArgs false
set_option maxRecDepth 100000
namespace Go.Proofs.YtehmcahdjldhbaaGreatDoor
open Wk
namespace Tx
open Bk (strV TS LinesAt NilOk ParsePost parse toSs toBs k32 k63 TBk Tr wpList_lines)
theorem theirs_any (X : List Tr) (hS : Bk.Small X) (w : World) (A : Option Addr) (c : Nat) (hA : Kd.C k32 w A (toSs X).length (toSs X)) (hc : (toSs X).length ≤ c) :
    Calls Tryz.prog 17 #[.slice A (toSs X).length c] w fun e w' => ∃ A' c', e = .returned (.slice A' (toBs 0 X).length c') ∧ (toBs 0 X).length ≤ c' ∧ Kd.C k63 w' A' (toBs 0 X).length (toBs 0 X) ∧ Below w.heap.size w w' := by
  obtain ⟨k, hk⟩ := Bk.theirs_f hS
  refine (Bk.incipitlaw11_theirs.calls k A c (toSs X) (toBs 0 X) w hA hc hk).mono ?_
  rintro e w' ⟨v, rfl, R, b⟩
  obtain ⟨A', c', rfl, hc', C⟩ := Kd.R_reads R
  exact ⟨A', c', rfl, hc', C, b⟩
theorem small_parse (nt : Bool) (l : List Bs) (hs : ∀ s ∈ l, s.length ≤ 200) (hl : l.length ≤ 200) : Bk.Small (parse FF unescF nt l).1 :=
  (Bk.parse_ins FF unescF nt l (fun s h => by have := hs s h; have := phi_four s; omega) hl).small (by omega)
end Tx
end Go.Proofs.YtehmcahdjldhbaaGreatDoor
end
