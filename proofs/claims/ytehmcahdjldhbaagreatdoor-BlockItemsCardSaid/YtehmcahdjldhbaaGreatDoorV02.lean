/- Parts of this session's proof, one behind the other: G1 G3 N5. -/
import Derived.Test.YtehmcahdjldhbaaGreatDoorV01
import Derived.Test.YtehmcahdjldhbaaGreatDoorZ13
import Derived.OrdersHeld
import Derived.Laws.BitsLemmas
import Derived.RowKit3
import Derived.BigQuiet
import Derived.WideLaws
import Derived.Deep.QuietTactic
import Derived.Deep.DeepCutAuto
import Derived.Deep.CutBlock
import Derived.Deep.RegionHeld3
import Derived.Deep.LoopGhost
import Derived.Lib.AppendStr
import Derived.ArgAppend
import Derived.Laws.IdiomCopy
import Derived.Lib.ConvBytes
import Derived.Laws.BytesArg
import Derived.Test.YtehmcahdjldhbaaGreatDoorZ12
import Derived.Test.YtehmcahdjldhbaaGreatDoorZ14
section
namespace Go.Proofs.YtehmcahdjldhbaaGreatDoor.Bk
open Go.RowKit Go.Proofs.YtehmcahdjldhbaaGreatDoorW.PrintWords Go.Proofs.YtehmcahdjldhbaaGreatDoorW.PrintLast Go.Proofs.YtehmcahdjldhbaaGreatDoorW.PrintMore
set_option linter.unusedVariables false
set_option linter.unusedSimpArgs false
theorem info63 : (Tryz.prog.info? 63).map (fun i => (i.zero, i.size, i.bytes)) = some (some (.agg #[(.int .i64 0), (.string ⟨#[]⟩), (.string ⟨#[]⟩), (.int .i64 0), (.int .i64 0), (.bool false), (.int .i64 0), (.int .i64 0), (.slice none 0 0)]), 9, 104) := by kernel_rfl
structure S63 where
  f0 : Int
  f1 : ByteArray
  f2 : ByteArray
  f3 : Int
  f4 : Int
  f5 : Bool
  f6 : Int
  f7 : Int
  f8 : (List S63)
def z63 : S63 := ⟨(0 : Int), (⟨#[]⟩ : ByteArray), (⟨#[]⟩ : ByteArray), (0 : Int), (0 : Int), false, (0 : Int), (0 : Int), ([] : List S63)⟩
def F63 (d : Kd S63) : Kd S63 := Kd.iso (Kd.pair (Kd.int .i64) (Kd.pair Kd.string (Kd.pair Kd.string (Kd.pair (Kd.int .i64) (Kd.pair (Kd.int .i64) (Kd.pair Kd.bool (Kd.pair (Kd.int .i64) (Kd.pair (Kd.int .i64) (Kd.slice 63 d))))))))) (fun x : S63 => (x.f0, x.f1, x.f2, x.f3, x.f4, x.f5, x.f6, x.f7, x.f8))
theorem mono63 : Kd.Mono F63 := Kd.mono_iso _ (Kd.mono_pair (Kd.mono_const _) (Kd.mono_pair (Kd.mono_const _) (Kd.mono_pair (Kd.mono_const _) (Kd.mono_pair (Kd.mono_const _) (Kd.mono_pair (Kd.mono_const _) (Kd.mono_pair (Kd.mono_const _) (Kd.mono_pair (Kd.mono_const _) (Kd.mono_pair (Kd.mono_const _) (Kd.mono_slice 63 Kd.mono_id)))))))))
theorem sub63 : Kd.Sub F63 [63] := Kd.sub_iso _ (Kd.sub_pair (Kd.sub_const _ (by decide)) (Kd.sub_pair (Kd.sub_const _ (by decide)) (Kd.sub_pair (Kd.sub_const _ (by decide)) (Kd.sub_pair (Kd.sub_const _ (by decide)) (Kd.sub_pair (Kd.sub_const _ (by decide)) (Kd.sub_pair (Kd.sub_const _ (by decide)) (Kd.sub_pair (Kd.sub_const _ (by decide)) (Kd.sub_pair (Kd.sub_const _ (by decide)) (Kd.sub_slice 63 (by decide) Kd.sub_id)))))))))
theorem sz63 : ∀ n, (Kd.upto F63 9 [63] n).sz = 9 := Kd.upto_sz (fun _ => rfl)
def k63 : Kd S63 := Kd.fix F63 9 [63] sz63 (Kd.upto_E sub63)
theorem k63_open {w : World} {x : S63} {cs : List Value} (h : k63.K w x cs) : ∃ A8 c8, cs = [.int .i64 x.f0, .string x.f1, .string x.f2, .int .i64 x.f3, .int .i64 x.f4, .bool x.f5, .int .i64 x.f6, .int .i64 x.f7, .slice A8 x.f8.length c8] ∧ x.f8.length ≤ c8 ∧ k63.C w A8 x.f8.length x.f8 := by
  obtain ⟨n, h⟩ := h
  cases n with
  | zero => exact h.elim
  | succ n =>
    obtain ⟨_, _, rfl, rfl, ⟨_, _, rfl, rfl, ⟨_, _, rfl, rfl, ⟨_, _, rfl, rfl, ⟨_, _, rfl, rfl, ⟨_, _, rfl, rfl, ⟨_, _, rfl, rfl, ⟨_, _, rfl, rfl, ⟨A8, c8, rfl, l8, g8⟩⟩⟩⟩⟩⟩⟩⟩⟩ := h
    exact ⟨A8, c8, rfl, l8, Kd.fix_C g8⟩
theorem k63_mkM (w : World) (base : Nat) (ok : Nat → Prop) (x : S63) {v8 : Value} (g8 : k63.R 63 w base ok v8 x.f8) : k63.M w base ok x [.int .i64 x.f0, .string x.f1, .string x.f2, .int .i64 x.f3, .int .i64 x.f4, .bool x.f5, .int .i64 x.f6, .int .i64 x.f7, v8] := by
  obtain ⟨n8, q8⟩ := Kd.fix_R_back mono63 g8
  have r8 := Kd.upto_R_le mono63 sz63 (show n8 ≤ n8 by omega) q8
  exact ⟨n8 + 1, ⟨[.int .i64 x.f0], [.string x.f1, .string x.f2, .int .i64 x.f3, .int .i64 x.f4, .bool x.f5, .int .i64 x.f6, .int .i64 x.f7, v8], rfl, rfl, ⟨[.string x.f1], [.string x.f2, .int .i64 x.f3, .int .i64 x.f4, .bool x.f5, .int .i64 x.f6, .int .i64 x.f7, v8], rfl, rfl, ⟨[.string x.f2], [.int .i64 x.f3, .int .i64 x.f4, .bool x.f5, .int .i64 x.f6, .int .i64 x.f7, v8], rfl, rfl, ⟨[.int .i64 x.f3], [.int .i64 x.f4, .bool x.f5, .int .i64 x.f6, .int .i64 x.f7, v8], rfl, rfl, ⟨[.int .i64 x.f4], [.bool x.f5, .int .i64 x.f6, .int .i64 x.f7, v8], rfl, rfl, ⟨[.bool x.f5], [.int .i64 x.f6, .int .i64 x.f7, v8], rfl, rfl, ⟨[.int .i64 x.f6], [.int .i64 x.f7, v8], rfl, rfl, ⟨[.int .i64 x.f7], [v8], rfl, rfl, ⟨v8, rfl, r8⟩⟩⟩⟩⟩⟩⟩⟩⟩⟩
def rd_T63 (xs : List S63) (i : Int) : S63 := xs.getD i.toNat z63
theorem at_T63 {w : World} {A : Option Addr} {n : Nat} {xs : List S63} (h : Kd.C k63 w A n xs) (i : Int) (h0 : 0 ≤ i) (h1 : i < n) : ∃ ad A8 c8, A = some ad ∧ w.cell? (ad.add (i.toNat * 9)) = some (.int .i64 (rd_T63 xs i).f0) ∧ w.cell? ⟨(ad.add (i.toNat * 9)).block, (ad.add (i.toNat * 9)).off + 1, none⟩ = some (.string (rd_T63 xs i).f1) ∧ w.cell? ⟨(ad.add (i.toNat * 9)).block, (ad.add (i.toNat * 9)).off + 2, none⟩ = some (.string (rd_T63 xs i).f2) ∧ w.cell? ⟨(ad.add (i.toNat * 9)).block, (ad.add (i.toNat * 9)).off + 3, none⟩ = some (.int .i64 (rd_T63 xs i).f3) ∧ w.cell? ⟨(ad.add (i.toNat * 9)).block, (ad.add (i.toNat * 9)).off + 4, none⟩ = some (.int .i64 (rd_T63 xs i).f4) ∧ w.cell? ⟨(ad.add (i.toNat * 9)).block, (ad.add (i.toNat * 9)).off + 5, none⟩ = some (.bool (rd_T63 xs i).f5) ∧ w.cell? ⟨(ad.add (i.toNat * 9)).block, (ad.add (i.toNat * 9)).off + 6, none⟩ = some (.int .i64 (rd_T63 xs i).f6) ∧ w.cell? ⟨(ad.add (i.toNat * 9)).block, (ad.add (i.toNat * 9)).off + 7, none⟩ = some (.int .i64 (rd_T63 xs i).f7) ∧ w.cell? ⟨(ad.add (i.toNat * 9)).block, (ad.add (i.toNat * 9)).off + 8, none⟩ = some (.slice A8 (rd_T63 xs i).f8.length c8) ∧ (rd_T63 xs i).f8.length ≤ c8 ∧ k63.C w A8 (rd_T63 xs i).f8.length (rd_T63 xs i).f8 := by
  obtain ⟨ad, c, e, _, hK, hc0⟩ := Kd.C_get h z63 i h0 h1
  have hc : ∀ j u, c[j]? = some u → w.cell? (ad.add (i.toNat * 9 + j)) = some u := hc0
  obtain ⟨A8, c8, rfl, l8, g8⟩ := k63_open hK
  exact ⟨ad, A8, c8, e, hc 0 _ rfl, by rw [← add_field _ _ 1 (by omega)]; exact hc 1 _ rfl, by rw [← add_field _ _ 2 (by omega)]; exact hc 2 _ rfl, by rw [← add_field _ _ 3 (by omega)]; exact hc 3 _ rfl, by rw [← add_field _ _ 4 (by omega)]; exact hc 4 _ rfl, by rw [← add_field _ _ 5 (by omega)]; exact hc 5 _ rfl, by rw [← add_field _ _ 6 (by omega)]; exact hc 6 _ rfl, by rw [← add_field _ _ 7 (by omega)]; exact hc 7 _ rfl, by rw [← add_field _ _ 8 (by omega)]; exact hc 8 _ rfl, l8, g8⟩
mutual
def incipitlaw11_theirs.l0 : Nat → List (S32) → List (S63) → Int → Option ((List (S63)))
  | 0, _, _, _ => none
  | k + 1, x0, x3, x4 => if x4 < (x0.length : Int) then (if 0 ≤ x4 then ((incipitlaw11_theirs.f k ((rd_T32 x0 x4).f8)).bind fun t193 => (if x3.length < 1353245080339 then (incipitlaw11_theirs.l0 k x0 (x3 ++ [(⟨(rd_T32 x0 x4).f0, (rd_T32 x0 x4).f1, (rd_T32 x0 x4).f2, (rd_T32 x0 x4).f3, (rd_T32 x0 x4).f4, (rd_T32 x0 x4).f5, (rd_T32 x0 x4).f6, (rd_T32 x0 x4).f7, t193⟩ : S63)]) (wrap64 (x4 + 1))) else (none))) else (none)) else (some x3)
def incipitlaw11_theirs.f : Nat → List (S32) → Option ((List (S63)))
  | 0, _ => none
  | k + 1, l0 => incipitlaw11_theirs.l0 k l0 ([] : List (S63)) 0
end
theorem incipitlaw11_theirs.mono_l : ∀ k, (∀ y0, LeO (incipitlaw11_theirs.f k y0) (incipitlaw11_theirs.f (k + 1) y0)) ∧ (∀ y0 y1 y2, LeO (incipitlaw11_theirs.l0 k y0 y1 y2) (incipitlaw11_theirs.l0 (k + 1) y0 y1 y2))
  | 0 => ⟨fun _ r h => by simp [incipitlaw11_theirs.f] at h, fun _ _ _ r h => by simp [incipitlaw11_theirs.l0] at h⟩
  | k + 1 => by
    obtain ⟨ih0, ih1⟩ := incipitlaw11_theirs.mono_l k
    refine ⟨?_, ?_⟩
    · intro y0
      unfold incipitlaw11_theirs.f
      repeat' first
      | (with_reducible exact ih0 _)
      | (with_reducible exact ih1 _ _ _)
      | (with_reducible exact LeO.refl _)
      | (with_reducible exact LeO.none _)
      | (with_reducible refine LeO.ite ?_ ?_)
      | (with_reducible refine LeO.bind ?_ (fun _ => ?_))
      | exact ih0 _
      | exact ih1 _ _ _
      | exact LeO.none _
      | refine LeO.ite ?_ ?_
      | refine LeO.bind ?_ (fun _ => ?_)
    · intro y0 y1 y2
      unfold incipitlaw11_theirs.l0
      repeat' first
      | (with_reducible exact ih0 _)
      | (with_reducible exact ih1 _ _ _)
      | (with_reducible exact LeO.refl _)
      | (with_reducible exact LeO.none _)
      | (with_reducible refine LeO.ite ?_ ?_)
      | (with_reducible refine LeO.bind ?_ (fun _ => ?_))
      | exact ih0 _
      | exact ih1 _ _ _
      | exact LeO.none _
      | refine LeO.ite ?_ ?_
      | refine LeO.bind ?_ (fun _ => ?_)
def incipitlaw11_theirs.T6 : Bool × List (List Nat × List Nat) := (true, [([], []), ([], []), ([1], [1]), ([], []), ([3], [3]), ([], []), ([5], [5]), ([], []), ([7], [7]), ([], []), ([9], [9]), ([], []), ([11], [11]), ([], []), ([13], [13]), ([], []), ([15], [15]), ([], []), ([17], [17]), ([18], [18]), ([2, 4, 6, 8, 10, 12, 14, 16, 19], [2, 4, 6, 8, 10, 12, 14, 16, 19]), ([20], [20]), ([0, 21, 19], [0, 21]), ([22, 22, 0, 1, 2, 3, 4, 5, 6, 7, 8, 9, 10, 11, 12, 13, 14, 15, 16, 17, 18, 19, 20, 21, 22], [0, 22])])
def incipitlaw11_theirs.B6 : List Nat := [0, 0, 2, 0, 8, 0, 32, 0, 128, 0, 512, 0, 2048, 0, 8192, 0, 32768, 0, 131072, 393216, 1048574, 2097150, 4194303, 8388607]
theorem incipitlaw11_theirs.tab6 : rtab .any (opsOf Tryz.f17 6) = incipitlaw11_theirs.T6 := by kernel_rfl
theorem incipitlaw11_theirs.bits6 : waitsOk incipitlaw11_theirs.T6.2 incipitlaw11_theirs.B6 = true := by kernel_rfl
set_option maxHeartbeats 8000000 in
set_option maxRecDepth 100000 in
theorem incipitlaw11_theirs.calls (k : Nat) : ∀ (A0 : Option Addr) (c0 : Nat) (l0 : List (S32)) (r : List (S63)) (w : World) (hr0 : Kd.C k32 w A0 l0.length l0) (hc0 : l0.length ≤ c0) (h : incipitlaw11_theirs.f k l0 = some r),
    Calls Tryz.prog 17 #[.slice A0 l0.length c0] w fun e w' => ∃ v0_ : Value, e = .returned (v0_) ∧ Kd.R k63 63 w' w.heap.size (fun _ => True) v0_ r ∧ Below w.heap.size w w' := by
  induction k using Nat.strongRecOn with
  | _ k ih =>
  intro A0 c0 l0 r w hr0 hc0 h
  cases k with
  | zero => exact absurd h (by simp [incipitlaw11_theirs.f])
  | succ k =>
  simp only [incipitlaw11_theirs.f] at h
  have hu32 := Tryz.underlying32
  have hu63 := Tryz.underlying63
  have HR0 := Aside0.mk hr0
  have HC0 := Aside0.mk hc0
  clear hr0 hc0
  have HB := Aside0.mk (Below.refl w.heap.size w)
  have H : (incipitlaw11_theirs.l0 k l0 ([] : List (S63)) 0) = some r := h
  clear h
  have H' := Aside0.mk H
  clear H
  go_enter Tryz.func17, Tryz.ntmps17
  go_wp2
  go_loopg [3, 4] k (fun kq v3 v4 w' => ∃ (x3_1 : List (S63)) (x4_1 : Int), v4 = .int .i64 x4_1 ∧ Aside0 (incipitlaw11_theirs.l0 kq l0 x3_1 x4_1 = some r) ∧ Aside0 (kq ≤ k) ∧ Aside0 (Kd.R k63 63 w' w.heap.size (fun _ => True) v3 x3_1) ∧ Aside0 (Below w.heap.size w w'))
  case atStart => exact ⟨(([] : List (S63))), (0), (by first | rfl | (simp; done) | (simp [*]; done)), H', ⟨Nat.le_refl _⟩, ⟨by first | exact Kd.R_nil _ _ _ _ _ | exact Kd.N_nil _ _ _ _ _ | exact Kd.V_nil _ _ _ _ _ | exact Kd.Q_nil _ _ _ _ _ | exact Kd.S_nil _ _ _ _ _⟩, ⟨by repeat (first | (with_reducible first | exact HB.out | apply below_alloc | apply pw_below_drewN | apply below_drew1) | exact HB.out)⟩⟩
  case round =>
    clear H'
    try clear c1
    obtain ⟨x3_1, x4_1, rfl, HA, HK1, HO_3, HB⟩ := hrel
    cases gk with
    | zero => exact absurd HA.out (by simp [incipitlaw11_theirs.l0])
    | succ k1 =>
      have H := HA.out
      clear HA
      simp only [incipitlaw11_theirs.l0] at H
      by_cases c2 : x4_1 < (l0.length : Int)
      · rw [if_pos c2] at H
        have c2b0 : decide (x4_1 < (l0.length : Int)) = true := decide_eq_true c2
        clear c2
        by_cases c3 : 0 ≤ x4_1
        · rw [if_pos c3] at H
          have c3b0 : decide (0 ≤ x4_1) = true := decide_eq_true c3
          clear c3
          replace H := Option.bind_eq_some_iff.mp H
          obtain ⟨t193, A40, H⟩ := H
          replace H : (if x3_1.length < 1353245080339 then (incipitlaw11_theirs.l0 k1 l0 (x3_1 ++ [(⟨(rd_T32 l0 x4_1).f0, (rd_T32 l0 x4_1).f1, (rd_T32 l0 x4_1).f2, (rd_T32 l0 x4_1).f3, (rd_T32 l0 x4_1).f4, (rd_T32 l0 x4_1).f5, (rd_T32 l0 x4_1).f6, (rd_T32 l0 x4_1).f7, t193⟩ : S63)]) (wrap64 (x4_1 + 1))) else (none)) = some r := H
          have A4 := Aside0.mk A40
          clear A40
          by_cases c5 : x3_1.length < 1353245080339
          · rw [if_pos c5] at H
            have LMc5 := Aside0.mk c5
            clear c5
            obtain ⟨y196, hy196⟩ : ∃ y_ : List (S63), y_ = (x3_1 ++ [(⟨(rd_T32 l0 x4_1).f0, (rd_T32 l0 x4_1).f1, (rd_T32 l0 x4_1).f2, (rd_T32 l0 x4_1).f3, (rd_T32 l0 x4_1).f4, (rd_T32 l0 x4_1).f5, (rd_T32 l0 x4_1).f6, (rd_T32 l0 x4_1).f7, t193⟩ : S63)]) := ⟨_, rfl⟩
            replace H : (incipitlaw11_theirs.l0 k1 l0 y196 (wrap64 (x4_1 + 1))) = some r := by first | (rw [hy196]; with_reducible exact H) | (have H2_ := (Option.bind_some _ _).symm.trans H; rw [hy196]; with_reducible exact H2_) | (have H2_ := (Option.bind_some _ _).symm.trans H; with_reducible exact H2_) | with_reducible exact H | (rw [hy196]; exact H) | exact H
            have Ny196 := Aside0.mk hy196
            clear hy196
            have H' := Aside0.mk H
            clear H
            have p191 : 0 ≤ (x4_1 : Int) := of_decide_eq_true (by first | (with_reducible assumption) | assumption)
            have q191 : x4_1 < (l0.length : Int) := of_decide_eq_true (by first | (with_reducible assumption) | assumption)
            obtain ⟨ad191, A191_8, c191_8, e191, hx191_0, hx191_1, hx191_2, hx191_3, hx191_4, hx191_5, hx191_6, hx191_7, hx191_8, hl191_8, hi191_8⟩ := at_T32 HR0.out x4_1 p191 q191
            cases e191
            replace hx191_0 := (HB.out.cell (World.block_lt_of_cell? w _ hx191_0)).trans hx191_0
            replace hx191_1 := (HB.out.cell (World.block_lt_of_cell? w _ hx191_1)).trans hx191_1
            replace hx191_2 := (HB.out.cell (World.block_lt_of_cell? w _ hx191_2)).trans hx191_2
            replace hx191_3 := (HB.out.cell (World.block_lt_of_cell? w _ hx191_3)).trans hx191_3
            replace hx191_4 := (HB.out.cell (World.block_lt_of_cell? w _ hx191_4)).trans hx191_4
            replace hx191_5 := (HB.out.cell (World.block_lt_of_cell? w _ hx191_5)).trans hx191_5
            replace hx191_6 := (HB.out.cell (World.block_lt_of_cell? w _ hx191_6)).trans hx191_6
            replace hx191_7 := (HB.out.cell (World.block_lt_of_cell? w _ hx191_7)).trans hx191_7
            replace hx191_8 := (HB.out.cell (World.block_lt_of_cell? w _ hx191_8)).trans hx191_8
            have HR191_8 := Aside0.mk hi191_8
            have HC191_8 := Aside0.mk hl191_8
            clear hi191_8 hl191_8
            replace p191 := eq_true p191
            replace q191 := eq_true q191
            try go_wp2_with (first | ((with_reducible refine gate_dst (N := 5) rfl ?_); refine box_event ?hg (N := 5) ?hd (cs := #[.int .i64 0, .string (⟨#[]⟩ : ByteArray), .string (⟨#[]⟩ : ByteArray), .int .i64 0, .int .i64 0, .bool false, .int .i64 0, .int .i64 0, .slice none 0 0]) (t := 32) ?hr ?_; (case hd => rfl); (case hg => rfl); (case hr => first | (go_simp; done) | (go_simp; rfl)); intro gb192 hg w6 hbox hb; have n0_ := Aside0.mk (Kd.R_below (by (with_reducible repeat (first | apply Kd.R_alloc | apply Kd.R_drewN | apply Kd.R_drew)); exact HO_3.out) hb); have n1_ := Aside0.mk (below_step (by repeat (first | (with_reducible first | exact HB.out | apply below_alloc | apply pw_below_drewN | apply below_drew1) | exact HB.out)) hb); have n2_ := Aside0.mk (hbox); have n3_ := Aside0.mk ((by rw [hg]; exact (below_size (by repeat (first | (with_reducible first | exact HB.out | apply below_alloc | apply pw_below_drewN | apply below_drew1) | exact HB.out))) : w.heap.size ≤ gb192)); have n4_ := Aside0.mk ((by rw [hg]; exact (below_size (by repeat (first | (with_reducible first | exact HB.out | apply below_alloc | apply pw_below_drewN | apply below_drew1) | exact HB.out))) : w.heap.size ≤ gb192)); clear HO_3; clear HB; have HO_3 := n0_; have HB := n1_; have BK192 := n2_; have GW192 := n3_; have GE192 := n4_; clear n0_ n1_ n2_ n3_ n4_; clear hb hbox hg; have hcz7_0 : w6.cell? ⟨gb192, 0, none⟩ = some (.int .i64 0) := (blk_cell BK192.out 0).trans rfl; have hcz7_1 : w6.cell? ⟨gb192, 1, none⟩ = some (.string (⟨#[]⟩ : ByteArray)) := (blk_cell BK192.out 1).trans rfl; have hcz7_2 : w6.cell? ⟨gb192, 2, none⟩ = some (.string (⟨#[]⟩ : ByteArray)) := (blk_cell BK192.out 2).trans rfl; have hcz7_3 : w6.cell? ⟨gb192, 3, none⟩ = some (.int .i64 0) := (blk_cell BK192.out 3).trans rfl; have hcz7_4 : w6.cell? ⟨gb192, 4, none⟩ = some (.int .i64 0) := (blk_cell BK192.out 4).trans rfl; have hcz7_5 : w6.cell? ⟨gb192, 5, none⟩ = some (.bool false) := (blk_cell BK192.out 5).trans rfl; have hcz7_6 : w6.cell? ⟨gb192, 6, none⟩ = some (.int .i64 0) := (blk_cell BK192.out 6).trans rfl; have hcz7_7 : w6.cell? ⟨gb192, 7, none⟩ = some (.int .i64 0) := (blk_cell BK192.out 7).trans rfl; have hcz7_8 : w6.cell? ⟨gb192, 8, none⟩ = some (.slice none 0 0) := (blk_cell BK192.out 8).trans rfl; have hfz7_0 := blk_frozen BK192.out 0; have hfz7_1 := blk_frozen BK192.out 1; have hfz7_2 := blk_frozen BK192.out 2; have hfz7_3 := blk_frozen BK192.out 3; have hfz7_4 := blk_frozen BK192.out 4; have hfz7_5 := blk_frozen BK192.out 5; have hfz7_6 := blk_frozen BK192.out 6; have hfz7_7 := blk_frozen BK192.out 7; have hfz7_8 := blk_frozen BK192.out 8))
            have n0_ : Aside0 (Kd.R k63 63 (((((((((w6.setCell ⟨gb192, 0, none⟩ (.int .i64 ((rd_T32 l0 x4_1).f0))).setCell ⟨gb192, 1, none⟩ (.string ((rd_T32 l0 x4_1).f1))).setCell ⟨gb192, 2, none⟩ (.string ((rd_T32 l0 x4_1).f2))).setCell ⟨gb192, 3, none⟩ (.int .i64 ((rd_T32 l0 x4_1).f3))).setCell ⟨gb192, 4, none⟩ (.int .i64 ((rd_T32 l0 x4_1).f4))).setCell ⟨gb192, 5, none⟩ (.bool ((rd_T32 l0 x4_1).f5))).setCell ⟨gb192, 6, none⟩ (.int .i64 ((rd_T32 l0 x4_1).f6))).setCell ⟨gb192, 7, none⟩ (.int .i64 ((rd_T32 l0 x4_1).f7))).setCell ⟨gb192, 8, none⟩ (.slice A191_8 ((rd_T32 l0 x4_1).f8).length c191_8)) w.heap.size (fun _ => True) u3 x3_1) := ⟨by (with_reducible repeat (first | apply Kd.R_alloc | apply Kd.R_drewN | apply Kd.R_drew)); exact Kd.R_mono (Kd.R_far (p := ⟨gb192, 8, none⟩) (Kd.R_far (p := ⟨gb192, 7, none⟩) (Kd.R_far (p := ⟨gb192, 6, none⟩) (Kd.R_far (p := ⟨gb192, 5, none⟩) (Kd.R_far (p := ⟨gb192, 4, none⟩) (Kd.R_far (p := ⟨gb192, 3, none⟩) (Kd.R_far (p := ⟨gb192, 2, none⟩) (Kd.R_far (p := ⟨gb192, 1, none⟩) (Kd.R_far (p := ⟨gb192, 0, none⟩) (Kd.R_types HO_3.out BK192.out (by decide)) (fun _ hk => hk.2) (.int .i64 ((rd_T32 l0 x4_1).f0))) (fun _ hk => hk.2) (.string ((rd_T32 l0 x4_1).f1))) (fun _ hk => hk.2) (.string ((rd_T32 l0 x4_1).f2))) (fun _ hk => hk.2) (.int .i64 ((rd_T32 l0 x4_1).f3))) (fun _ hk => hk.2) (.int .i64 ((rd_T32 l0 x4_1).f4))) (fun _ hk => hk.2) (.bool ((rd_T32 l0 x4_1).f5))) (fun _ hk => hk.2) (.int .i64 ((rd_T32 l0 x4_1).f6))) (fun _ hk => hk.2) (.int .i64 ((rd_T32 l0 x4_1).f7))) (fun _ hk => hk.2) (.slice A191_8 ((rd_T32 l0 x4_1).f8).length c191_8)) (fun _ hk => trivial)⟩
            have n1_ : Aside0 ((((((((((w6.setCell ⟨gb192, 0, none⟩ (.int .i64 ((rd_T32 l0 x4_1).f0))).setCell ⟨gb192, 1, none⟩ (.string ((rd_T32 l0 x4_1).f1))).setCell ⟨gb192, 2, none⟩ (.string ((rd_T32 l0 x4_1).f2))).setCell ⟨gb192, 3, none⟩ (.int .i64 ((rd_T32 l0 x4_1).f3))).setCell ⟨gb192, 4, none⟩ (.int .i64 ((rd_T32 l0 x4_1).f4))).setCell ⟨gb192, 5, none⟩ (.bool ((rd_T32 l0 x4_1).f5))).setCell ⟨gb192, 6, none⟩ (.int .i64 ((rd_T32 l0 x4_1).f6))).setCell ⟨gb192, 7, none⟩ (.int .i64 ((rd_T32 l0 x4_1).f7))).setCell ⟨gb192, 8, none⟩ (.slice A191_8 ((rd_T32 l0 x4_1).f8).length c191_8)).heap[gb192]? = some (.cells #[.int .i64 ((rd_T32 l0 x4_1).f0), .string ((rd_T32 l0 x4_1).f1), .string ((rd_T32 l0 x4_1).f2), .int .i64 ((rd_T32 l0 x4_1).f3), .int .i64 ((rd_T32 l0 x4_1).f4), .bool ((rd_T32 l0 x4_1).f5), .int .i64 ((rd_T32 l0 x4_1).f6), .int .i64 ((rd_T32 l0 x4_1).f7), .slice A191_8 ((rd_T32 l0 x4_1).f8).length c191_8] 32 (0, 0))) := ⟨by (with_reducible repeat (first | refine blk_drewN ?_ _ | refine blk_drew ?_ | refine blk_alloc ?_ _)); refine blk_put (cs := #[.int .i64 ((rd_T32 l0 x4_1).f0), .string ((rd_T32 l0 x4_1).f1), .string ((rd_T32 l0 x4_1).f2), .int .i64 ((rd_T32 l0 x4_1).f3), .int .i64 ((rd_T32 l0 x4_1).f4), .bool ((rd_T32 l0 x4_1).f5), .int .i64 ((rd_T32 l0 x4_1).f6), .int .i64 ((rd_T32 l0 x4_1).f7), .slice none 0 0]) ?_ 8 _ rfl; (with_reducible repeat (first | refine blk_drewN ?_ _ | refine blk_drew ?_ | refine blk_alloc ?_ _)); refine blk_put (cs := #[.int .i64 ((rd_T32 l0 x4_1).f0), .string ((rd_T32 l0 x4_1).f1), .string ((rd_T32 l0 x4_1).f2), .int .i64 ((rd_T32 l0 x4_1).f3), .int .i64 ((rd_T32 l0 x4_1).f4), .bool ((rd_T32 l0 x4_1).f5), .int .i64 ((rd_T32 l0 x4_1).f6), .int .i64 0, .slice none 0 0]) ?_ 7 _ rfl; (with_reducible repeat (first | refine blk_drewN ?_ _ | refine blk_drew ?_ | refine blk_alloc ?_ _)); refine blk_put (cs := #[.int .i64 ((rd_T32 l0 x4_1).f0), .string ((rd_T32 l0 x4_1).f1), .string ((rd_T32 l0 x4_1).f2), .int .i64 ((rd_T32 l0 x4_1).f3), .int .i64 ((rd_T32 l0 x4_1).f4), .bool ((rd_T32 l0 x4_1).f5), .int .i64 0, .int .i64 0, .slice none 0 0]) ?_ 6 _ rfl; (with_reducible repeat (first | refine blk_drewN ?_ _ | refine blk_drew ?_ | refine blk_alloc ?_ _)); refine blk_put (cs := #[.int .i64 ((rd_T32 l0 x4_1).f0), .string ((rd_T32 l0 x4_1).f1), .string ((rd_T32 l0 x4_1).f2), .int .i64 ((rd_T32 l0 x4_1).f3), .int .i64 ((rd_T32 l0 x4_1).f4), .bool false, .int .i64 0, .int .i64 0, .slice none 0 0]) ?_ 5 _ rfl; (with_reducible repeat (first | refine blk_drewN ?_ _ | refine blk_drew ?_ | refine blk_alloc ?_ _)); refine blk_put (cs := #[.int .i64 ((rd_T32 l0 x4_1).f0), .string ((rd_T32 l0 x4_1).f1), .string ((rd_T32 l0 x4_1).f2), .int .i64 ((rd_T32 l0 x4_1).f3), .int .i64 0, .bool false, .int .i64 0, .int .i64 0, .slice none 0 0]) ?_ 4 _ rfl; (with_reducible repeat (first | refine blk_drewN ?_ _ | refine blk_drew ?_ | refine blk_alloc ?_ _)); refine blk_put (cs := #[.int .i64 ((rd_T32 l0 x4_1).f0), .string ((rd_T32 l0 x4_1).f1), .string ((rd_T32 l0 x4_1).f2), .int .i64 0, .int .i64 0, .bool false, .int .i64 0, .int .i64 0, .slice none 0 0]) ?_ 3 _ rfl; (with_reducible repeat (first | refine blk_drewN ?_ _ | refine blk_drew ?_ | refine blk_alloc ?_ _)); refine blk_put (cs := #[.int .i64 ((rd_T32 l0 x4_1).f0), .string ((rd_T32 l0 x4_1).f1), .string (⟨#[]⟩ : ByteArray), .int .i64 0, .int .i64 0, .bool false, .int .i64 0, .int .i64 0, .slice none 0 0]) ?_ 2 _ rfl; (with_reducible repeat (first | refine blk_drewN ?_ _ | refine blk_drew ?_ | refine blk_alloc ?_ _)); refine blk_put (cs := #[.int .i64 ((rd_T32 l0 x4_1).f0), .string (⟨#[]⟩ : ByteArray), .string (⟨#[]⟩ : ByteArray), .int .i64 0, .int .i64 0, .bool false, .int .i64 0, .int .i64 0, .slice none 0 0]) ?_ 1 _ rfl; (with_reducible repeat (first | refine blk_drewN ?_ _ | refine blk_drew ?_ | refine blk_alloc ?_ _)); refine blk_put (cs := #[.int .i64 0, .string (⟨#[]⟩ : ByteArray), .string (⟨#[]⟩ : ByteArray), .int .i64 0, .int .i64 0, .bool false, .int .i64 0, .int .i64 0, .slice none 0 0]) ?_ 0 _ rfl; (with_reducible repeat (first | refine blk_drewN ?_ _ | refine blk_drew ?_ | refine blk_alloc ?_ _)); exact BK192.out⟩
            have n2_ : Aside0 (Below w.heap.size w (((((((((w6.setCell ⟨gb192, 0, none⟩ (.int .i64 ((rd_T32 l0 x4_1).f0))).setCell ⟨gb192, 1, none⟩ (.string ((rd_T32 l0 x4_1).f1))).setCell ⟨gb192, 2, none⟩ (.string ((rd_T32 l0 x4_1).f2))).setCell ⟨gb192, 3, none⟩ (.int .i64 ((rd_T32 l0 x4_1).f3))).setCell ⟨gb192, 4, none⟩ (.int .i64 ((rd_T32 l0 x4_1).f4))).setCell ⟨gb192, 5, none⟩ (.bool ((rd_T32 l0 x4_1).f5))).setCell ⟨gb192, 6, none⟩ (.int .i64 ((rd_T32 l0 x4_1).f6))).setCell ⟨gb192, 7, none⟩ (.int .i64 ((rd_T32 l0 x4_1).f7))).setCell ⟨gb192, 8, none⟩ (.slice A191_8 ((rd_T32 l0 x4_1).f8).length c191_8))) := ⟨by repeat (first | (with_reducible first | exact HB.out | apply below_alloc | apply pw_below_drewN | apply below_drew1 | refine below_set ?_ GE192.out) | exact HB.out)⟩
            (try clear HO_3)
            (try clear BK192)
            (try clear HB)
            generalize (((((((((w6.setCell ⟨gb192, 0, none⟩ (.int .i64 ((rd_T32 l0 x4_1).f0))).setCell ⟨gb192, 1, none⟩ (.string ((rd_T32 l0 x4_1).f1))).setCell ⟨gb192, 2, none⟩ (.string ((rd_T32 l0 x4_1).f2))).setCell ⟨gb192, 3, none⟩ (.int .i64 ((rd_T32 l0 x4_1).f3))).setCell ⟨gb192, 4, none⟩ (.int .i64 ((rd_T32 l0 x4_1).f4))).setCell ⟨gb192, 5, none⟩ (.bool ((rd_T32 l0 x4_1).f5))).setCell ⟨gb192, 6, none⟩ (.int .i64 ((rd_T32 l0 x4_1).f6))).setCell ⟨gb192, 7, none⟩ (.int .i64 ((rd_T32 l0 x4_1).f7))).setCell ⟨gb192, 8, none⟩ (.slice A191_8 ((rd_T32 l0 x4_1).f8).length c191_8)) = w8 at n0_ n1_ n2_ ⊢
            have HO_3 := n0_
            have BK192 := n1_
            have HB := n2_
            clear n0_ n1_ n2_
            have n0_ := Aside0.mk (Kd.R_drew HO_3.out)
            have n1_ := Aside0.mk (blk_drew BK192.out)
            have n2_ := Aside0.mk (below_drew1 HB.out)
            clear HO_3
            clear BK192
            clear HB
            have HO_3 := n0_
            have BK192 := n1_
            have HB := n2_
            clear n0_ n1_ n2_
            refine start_ (n := 24) (S := fun w' => w'.cell? ⟨gb192, 0, none⟩ = some (.int .i64 ((rd_T32 l0 x4_1).f0)) ∧ w'.cell? ⟨gb192, 1, none⟩ = some (.string ((rd_T32 l0 x4_1).f1)) ∧ w'.cell? ⟨gb192, 2, none⟩ = some (.string ((rd_T32 l0 x4_1).f2)) ∧ w'.cell? ⟨gb192, 3, none⟩ = some (.int .i64 ((rd_T32 l0 x4_1).f3)) ∧ w'.cell? ⟨gb192, 4, none⟩ = some (.int .i64 ((rd_T32 l0 x4_1).f4)) ∧ w'.cell? ⟨gb192, 5, none⟩ = some (.bool ((rd_T32 l0 x4_1).f5)) ∧ w'.cell? ⟨gb192, 6, none⟩ = some (.int .i64 ((rd_T32 l0 x4_1).f6)) ∧ w'.cell? ⟨gb192, 7, none⟩ = some (.int .i64 ((rd_T32 l0 x4_1).f7)) ∧ w'.cell? ⟨gb192, 8, none⟩ = some (.slice A191_8 ((rd_T32 l0 x4_1).f8).length c191_8)) (ds := []) #[false, false, false, false, false, false, false, false, false, false, false, false, false, false, false, false, false, false, false, false, false, false, false, false] (by kernel_rfl) rfl rfl ⟨(blk_cell BK192.out 0).trans rfl, (blk_cell BK192.out 1).trans rfl, (blk_cell BK192.out 2).trans rfl, (blk_cell BK192.out 3).trans rfl, (blk_cell BK192.out 4).trans rfl, (blk_cell BK192.out 5).trans rfl, (blk_cell BK192.out 6).trans rfl, (blk_cell BK192.out 7).trans rfl, (blk_cell BK192.out 8).trans rfl⟩ (fun hHeld => ?_); refine with_tabW incipitlaw11_theirs.tab6 incipitlaw11_theirs.bits6 (fun HT_ HW_ => ?_)
            generalize w8.drew = w9 at HO_3 BK192 HB hHeld ⊢
            refine pure_ (i := 0) (N := some 16) (v := ?_) (a' := ?_) #[true, false, false, false, false, false, false, false, false, false, false, false, false, false, false, false, false, false, false, false, false, false, false, false] rfl rfl (any_of HT_.out (by kernel_rfl)) (fun _ _ _ h => h) (Or.inl ⟨by rfl, ?_⟩) ?_ ?_
            rotate_left
            · intro w'
              go_simp
              with_reducible rfl
            rotate_left
            · simp only [Act.put, List.setIfInBounds_toArray, List.set_cons_zero, List.set_cons_succ, i64_w, i32_w]
              rfl
            refine pure_ (i := 1) (N := some 17) (v := ?_) (a' := ?_) #[true, true, false, false, false, false, false, false, false, false, false, false, false, false, false, false, false, false, false, false, false, false, false, false] rfl rfl (any_of HT_.out (by kernel_rfl)) (fun _ _ _ h => h) (Or.inl ⟨by rfl, ?_⟩) ?_ ?_
            rotate_left
            · intro w'
              go_simp
              with_reducible rfl
            rotate_left
            · simp only [Act.put, List.setIfInBounds_toArray, List.set_cons_zero, List.set_cons_succ, i64_w, i32_w]
              rfl
            refine pure_ (i := 3) (N := some 19) (v := ?_) (a' := ?_) #[true, true, false, true, false, false, false, false, false, false, false, false, false, false, false, false, false, false, false, false, false, false, false, false] rfl rfl (any_of HT_.out (by kernel_rfl)) (fun _ _ _ h => h) (Or.inl ⟨by rfl, ?_⟩) ?_ ?_
            rotate_left
            · intro w'
              go_simp
              with_reducible rfl
            rotate_left
            · simp only [Act.put, List.setIfInBounds_toArray, List.set_cons_zero, List.set_cons_succ, i64_w, i32_w]
              rfl
            refine pure_ (i := 5) (N := some 21) (v := ?_) (a' := ?_) #[true, true, false, true, false, true, false, false, false, false, false, false, false, false, false, false, false, false, false, false, false, false, false, false] rfl rfl (any_of HT_.out (by kernel_rfl)) (fun _ _ _ h => h) (Or.inl ⟨by rfl, ?_⟩) ?_ ?_
            rotate_left
            · intro w'
              go_simp
              with_reducible rfl
            rotate_left
            · simp only [Act.put, List.setIfInBounds_toArray, List.set_cons_zero, List.set_cons_succ, i64_w, i32_w]
              rfl
            refine pure_ (i := 7) (N := some 23) (v := ?_) (a' := ?_) #[true, true, false, true, false, true, false, true, false, false, false, false, false, false, false, false, false, false, false, false, false, false, false, false] rfl rfl (any_of HT_.out (by kernel_rfl)) (fun _ _ _ h => h) (Or.inl ⟨by rfl, ?_⟩) ?_ ?_
            rotate_left
            · intro w'
              go_simp
              with_reducible rfl
            rotate_left
            · simp only [Act.put, List.setIfInBounds_toArray, List.set_cons_zero, List.set_cons_succ, i64_w, i32_w]
              rfl
            refine pure_ (i := 9) (N := some 25) (v := ?_) (a' := ?_) #[true, true, false, true, false, true, false, true, false, true, false, false, false, false, false, false, false, false, false, false, false, false, false, false] rfl rfl (any_of HT_.out (by kernel_rfl)) (fun _ _ _ h => h) (Or.inl ⟨by rfl, ?_⟩) ?_ ?_
            rotate_left
            · intro w'
              go_simp
              with_reducible rfl
            rotate_left
            · simp only [Act.put, List.setIfInBounds_toArray, List.set_cons_zero, List.set_cons_succ, i64_w, i32_w]
              rfl
            refine pure_ (i := 11) (N := some 27) (v := ?_) (a' := ?_) #[true, true, false, true, false, true, false, true, false, true, false, true, false, false, false, false, false, false, false, false, false, false, false, false] rfl rfl (any_of HT_.out (by kernel_rfl)) (fun _ _ _ h => h) (Or.inl ⟨by rfl, ?_⟩) ?_ ?_
            rotate_left
            · intro w'
              go_simp
              with_reducible rfl
            rotate_left
            · simp only [Act.put, List.setIfInBounds_toArray, List.set_cons_zero, List.set_cons_succ, i64_w, i32_w]
              rfl
            refine pure_ (i := 13) (N := some 29) (v := ?_) (a' := ?_) #[true, true, false, true, false, true, false, true, false, true, false, true, false, true, false, false, false, false, false, false, false, false, false, false] rfl rfl (any_of HT_.out (by kernel_rfl)) (fun _ _ _ h => h) (Or.inl ⟨by rfl, ?_⟩) ?_ ?_
            rotate_left
            · intro w'
              go_simp
              with_reducible rfl
            rotate_left
            · simp only [Act.put, List.setIfInBounds_toArray, List.set_cons_zero, List.set_cons_succ, i64_w, i32_w]
              rfl
            refine pure_ (i := 15) (N := some 31) (v := ?_) (a' := ?_) #[true, true, false, true, false, true, false, true, false, true, false, true, false, true, false, true, false, false, false, false, false, false, false, false] rfl rfl (any_of HT_.out (by kernel_rfl)) (fun _ _ _ h => h) (Or.inl ⟨by rfl, ?_⟩) ?_ ?_
            rotate_left
            · intro w'
              go_simp
              with_reducible rfl
            rotate_left
            · simp only [Act.put, List.setIfInBounds_toArray, List.set_cons_zero, List.set_cons_succ, i64_w, i32_w]
              rfl
            refine pure_ (i := 17) (N := some 33) (v := ?_) (a' := ?_) #[true, true, false, true, false, true, false, true, false, true, false, true, false, true, false, true, false, true, false, false, false, false, false, false] rfl rfl (any_of HT_.out (by kernel_rfl)) (fun _ _ _ h => h) (Or.inl ⟨by rfl, ?_⟩) ?_ ?_
            rotate_left
            · intro w'
              go_simp
              with_reducible rfl
            rotate_left
            · simp only [Act.put, List.setIfInBounds_toArray, List.set_cons_zero, List.set_cons_succ, i64_w, i32_w]
              rfl
            refine take_ (i := 2) (N := some 18) (v := ?_) (a' := ?_) #[true, true, true, true, false, true, false, true, false, true, false, true, false, true, false, true, false, true, false, false, false, false, false, false] rfl rfl (take_ofW HT_.out HW_.out (by kernel_rfl)) (fun _ _ _ h => h) (Or.inl ⟨by rfl, ?_⟩) hHeld ?_ ?_
            rotate_left
            · rintro w' ⟨s0, s1, s2, s3, s4, s5, s6, s7, s8⟩
              go_simp
              with_reducible rfl
            rotate_left
            · simp only [Act.put, List.setIfInBounds_toArray, List.set_cons_zero, List.set_cons_succ, i64_w, i32_w]
              rfl
            refine take_ (i := 4) (N := some 20) (v := ?_) (a' := ?_) #[true, true, true, true, true, true, false, true, false, true, false, true, false, true, false, true, false, true, false, false, false, false, false, false] rfl rfl (take_ofW HT_.out HW_.out (by kernel_rfl)) (fun _ _ _ h => h) (Or.inl ⟨by rfl, ?_⟩) hHeld ?_ ?_
            rotate_left
            · rintro w' ⟨s0, s1, s2, s3, s4, s5, s6, s7, s8⟩
              go_simp
              with_reducible rfl
            rotate_left
            · simp only [Act.put, List.setIfInBounds_toArray, List.set_cons_zero, List.set_cons_succ, i64_w, i32_w]
              rfl
            refine take_ (i := 6) (N := some 22) (v := ?_) (a' := ?_) #[true, true, true, true, true, true, true, true, false, true, false, true, false, true, false, true, false, true, false, false, false, false, false, false] rfl rfl (take_ofW HT_.out HW_.out (by kernel_rfl)) (fun _ _ _ h => h) (Or.inl ⟨by rfl, ?_⟩) hHeld ?_ ?_
            rotate_left
            · rintro w' ⟨s0, s1, s2, s3, s4, s5, s6, s7, s8⟩
              go_simp
              with_reducible rfl
            rotate_left
            · simp only [Act.put, List.setIfInBounds_toArray, List.set_cons_zero, List.set_cons_succ, i64_w, i32_w]
              rfl
            refine take_ (i := 8) (N := some 24) (v := ?_) (a' := ?_) #[true, true, true, true, true, true, true, true, true, true, false, true, false, true, false, true, false, true, false, false, false, false, false, false] rfl rfl (take_ofW HT_.out HW_.out (by kernel_rfl)) (fun _ _ _ h => h) (Or.inl ⟨by rfl, ?_⟩) hHeld ?_ ?_
            rotate_left
            · rintro w' ⟨s0, s1, s2, s3, s4, s5, s6, s7, s8⟩
              go_simp
              with_reducible rfl
            rotate_left
            · simp only [Act.put, List.setIfInBounds_toArray, List.set_cons_zero, List.set_cons_succ, i64_w, i32_w]
              rfl
            refine take_ (i := 10) (N := some 26) (v := ?_) (a' := ?_) #[true, true, true, true, true, true, true, true, true, true, true, true, false, true, false, true, false, true, false, false, false, false, false, false] rfl rfl (take_ofW HT_.out HW_.out (by kernel_rfl)) (fun _ _ _ h => h) (Or.inl ⟨by rfl, ?_⟩) hHeld ?_ ?_
            rotate_left
            · rintro w' ⟨s0, s1, s2, s3, s4, s5, s6, s7, s8⟩
              go_simp
              with_reducible rfl
            rotate_left
            · simp only [Act.put, List.setIfInBounds_toArray, List.set_cons_zero, List.set_cons_succ, i64_w, i32_w]
              rfl
            refine take_ (i := 12) (N := some 28) (v := ?_) (a' := ?_) #[true, true, true, true, true, true, true, true, true, true, true, true, true, true, false, true, false, true, false, false, false, false, false, false] rfl rfl (take_ofW HT_.out HW_.out (by kernel_rfl)) (fun _ _ _ h => h) (Or.inl ⟨by rfl, ?_⟩) hHeld ?_ ?_
            rotate_left
            · rintro w' ⟨s0, s1, s2, s3, s4, s5, s6, s7, s8⟩
              go_simp
              with_reducible rfl
            rotate_left
            · simp only [Act.put, List.setIfInBounds_toArray, List.set_cons_zero, List.set_cons_succ, i64_w, i32_w]
              rfl
            refine take_ (i := 14) (N := some 30) (v := ?_) (a' := ?_) #[true, true, true, true, true, true, true, true, true, true, true, true, true, true, true, true, false, true, false, false, false, false, false, false] rfl rfl (take_ofW HT_.out HW_.out (by kernel_rfl)) (fun _ _ _ h => h) (Or.inl ⟨by rfl, ?_⟩) hHeld ?_ ?_
            rotate_left
            · rintro w' ⟨s0, s1, s2, s3, s4, s5, s6, s7, s8⟩
              go_simp
              with_reducible rfl
            rotate_left
            · simp only [Act.put, List.setIfInBounds_toArray, List.set_cons_zero, List.set_cons_succ, i64_w, i32_w]
              rfl
            refine take_ (i := 16) (N := some 32) (v := ?_) (a' := ?_) #[true, true, true, true, true, true, true, true, true, true, true, true, true, true, true, true, true, true, false, false, false, false, false, false] rfl rfl (take_ofW HT_.out HW_.out (by kernel_rfl)) (fun _ _ _ h => h) (Or.inl ⟨by rfl, ?_⟩) hHeld ?_ ?_
            rotate_left
            · rintro w' ⟨s0, s1, s2, s3, s4, s5, s6, s7, s8⟩
              go_simp
              with_reducible rfl
            rotate_left
            · simp only [Act.put, List.setIfInBounds_toArray, List.set_cons_zero, List.set_cons_succ, i64_w, i32_w]
              rfl
            refine take_ (i := 18) (N := some 34) (v := ?_) (a' := ?_) #[true, true, true, true, true, true, true, true, true, true, true, true, true, true, true, true, true, true, true, false, false, false, false, false] rfl rfl (take_ofW HT_.out HW_.out (by kernel_rfl)) (fun _ _ _ h => h) (Or.inl ⟨by rfl, ?_⟩) hHeld ?_ ?_
            rotate_left
            · rintro w' ⟨s0, s1, s2, s3, s4, s5, s6, s7, s8⟩
              go_simp
              with_reducible rfl
            rotate_left
            · simp only [Act.put, List.setIfInBounds_toArray, List.set_cons_zero, List.set_cons_succ, i64_w, i32_w]
              rfl
            refine one_ (i := 19) (N := some 35) #[true, true, true, true, true, true, true, true, true, true, true, true, true, true, true, true, true, true, true, true, false, false, false, false] rfl rfl (one_of HT_.out (by kernel_rfl)) (by decide) (fun K hK => ?_)
            refine goes_ Tryz.func17 (by kernel_rfl) rfl #[.slice A191_8 ((rd_T32 l0 x4_1).f8).length c191_8] (by rfl) rfl rfl (by (try simp only [List.map_toArray, List.map_cons, List.map_nil]); first | done | rfl | (simp only [List.length_drop, List.length_take]; rfl)) ?_
            with_reducible refine (ih k1 (by have := HK1.out; omega) _ _ ((rd_T32 l0 x4_1).f8) t193 _ ?side1 ?side2 A4.out).mono ?_
            (case side1 => repeat (first | exact (Kd.C_below HR191_8.out HB.out) | (with_reducible refine Kd.C_alloc ?_ _) | (with_reducible refine Kd.C_drewN ?_ _) | (with_reducible refine Kd.C_drew ?_)))
            (case side2 => exact HC191_8.out)
            rintro e w10 ⟨v194, rfl, ho0, hb⟩
            refine ⟨_, rfl, ?_⟩
            have n0_ := Aside0.mk (Kd.R_elder' (by (with_reducible repeat (first | apply Kd.R_alloc | apply Kd.R_drewN | apply Kd.R_drew)); exact HO_3.out) (Kd.R_base ho0) hb)
            have n1_ := Aside0.mk (Kd.R_lower (Kd.R_new' ho0 (Kd.R_lt (by (with_reducible repeat (first | apply Kd.R_alloc | apply Kd.R_drewN | apply Kd.R_drew)); exact HO_3.out))) (below_size (by repeat (first | (with_reducible first | exact HB.out | apply below_alloc | apply pw_below_drewN | apply below_drew1 | refine below_set ?_ GE192.out) | exact HB.out))))
            have n2_ := Aside0.mk (blk_below (g := gb192) (o := .cells #[.int .i64 ((rd_T32 l0 x4_1).f0), .string ((rd_T32 l0 x4_1).f1), .string ((rd_T32 l0 x4_1).f2), .int .i64 ((rd_T32 l0 x4_1).f3), .int .i64 ((rd_T32 l0 x4_1).f4), .bool ((rd_T32 l0 x4_1).f5), .int .i64 ((rd_T32 l0 x4_1).f6), .int .i64 ((rd_T32 l0 x4_1).f7), .slice A191_8 ((rd_T32 l0 x4_1).f8).length c191_8] 32 (0, 0)) (by (with_reducible repeat (first | refine blk_drewN ?_ _ | refine blk_drew ?_ | refine blk_alloc ?_ _)); exact BK192.out) hb)
            have n3_ := Aside0.mk (below_step (by repeat (first | (with_reducible first | exact HB.out | apply below_alloc | apply pw_below_drewN | apply below_drew1 | refine below_set ?_ GE192.out) | exact HB.out)) hb)
            clear HO_3
            clear BK192
            clear HB
            have HO_3 := n0_
            have HO195 := n1_
            have BK192 := n2_
            have HB := n3_
            clear n0_ n1_ n2_ n3_
            (try clear hb)
            (try clear hb2)
            (try clear hk)
            (try clear hi)
            (try clear ho0)
            obtain ⟨Ao11, co11, eo11⟩ := Kd.R_slice HO195.out
            (first | subst eo11 | (injection eo11 with f1_ f2_ f3_; have f4_ := f1_.symm; have f5_ := f3_.symm; clear f1_ f2_ f3_; subst f4_; subst f5_))
            refine hK.out _ _ ⟨(blk_cell BK192.out 0).trans rfl, (blk_cell BK192.out 1).trans rfl, (blk_cell BK192.out 2).trans rfl, (blk_cell BK192.out 3).trans rfl, (blk_cell BK192.out 4).trans rfl, (blk_cell BK192.out 5).trans rfl, (blk_cell BK192.out 6).trans rfl, (blk_cell BK192.out 7).trans rfl, (blk_cell BK192.out 8).trans rfl⟩ (fun hHeld => ?_)
            clear hK K
            refine norm_ (a' := ?_) ?_ ?_
            rotate_left
            · show Act.put _ (some 35) _ = _
              simp only [Act.put, List.setIfInBounds_toArray, List.set_cons_zero, List.set_cons_succ, i64_w, i32_w]
              rfl
            refine pure_ (i := 20) (N := some 36) (v := ?_) (a' := ?_) #[true, true, true, true, true, true, true, true, true, true, true, true, true, true, true, true, true, true, true, true, true, false, false, false] rfl rfl (any_of HT_.out (by kernel_rfl)) (fun _ _ _ h => h) (Or.inl ⟨by rfl, ?_⟩) ?_ ?_
            rotate_left
            · intro w'
              go_simp
              with_reducible rfl
            rotate_left
            · simp only [Act.put, List.setIfInBounds_toArray, List.set_cons_zero, List.set_cons_succ, i64_w, i32_w]
              rfl
            refine one_ (i := 21) (N := some 37) #[true, true, true, true, true, true, true, true, true, true, true, true, true, true, true, true, true, true, true, true, true, true, false, false] rfl rfl (one_of HT_.out (by kernel_rfl)) (by decide) (fun K hK => ?_)
            refine value_ (w1 := ?_) (v := ?_) (by rfl) rfl ?_ ?_
            rotate_left 2
            · go_simp
              constructor
              · rfl
              · rfl
            refine hK.out _ _ ⟨(blk_cell (blk_alloc BK192.out _) 0).trans rfl, (blk_cell (blk_alloc BK192.out _) 1).trans rfl, (blk_cell (blk_alloc BK192.out _) 2).trans rfl, (blk_cell (blk_alloc BK192.out _) 3).trans rfl, (blk_cell (blk_alloc BK192.out _) 4).trans rfl, (blk_cell (blk_alloc BK192.out _) 5).trans rfl, (blk_cell (blk_alloc BK192.out _) 6).trans rfl, (blk_cell (blk_alloc BK192.out _) 7).trans rfl, (blk_cell (blk_alloc BK192.out _) 8).trans rfl⟩ (fun hHeld => ?_)
            clear hK K
            refine norm_ (a' := ?_) ?_ ?_
            rotate_left
            · show Act.put _ (some 37) _ = _
              simp only [Act.put, List.setIfInBounds_toArray, List.set_cons_zero, List.set_cons_succ, i64_w, i32_w]
              rfl
            refine one_ (i := 22) (N := some 38) #[true, true, true, true, true, true, true, true, true, true, true, true, true, true, true, true, true, true, true, true, true, true, true, false] rfl rfl (one_of HT_.out (by kernel_rfl)) (by decide) (fun K hK => ?_)
            refine Kd.R_append_step k63 (w0 := w) w.heap.size (by rfl) (.tmp 16) (.tmp 37) 34 63 (.agg #[(.int .i64 0), (.string ⟨#[]⟩), (.string ⟨#[]⟩), (.int .i64 0), (.int .i64 0), (.bool false), (.int .i64 0), (.int .i64 0), (.slice none 0 0)]) 104 rfl Tryz.underlying34 info63 rfl (by decide) (by omega) u3 x3_1 (⟨(rd_T32 l0 x4_1).f0, (rd_T32 l0 x4_1).f1, (rd_T32 l0 x4_1).f2, (rd_T32 l0 x4_1).f3, (rd_T32 l0 x4_1).f4, (rd_T32 l0 x4_1).f5, (rd_T32 l0 x4_1).f6, (rd_T32 l0 x4_1).f7, t193⟩ : S63) [.int .i64 ((rd_T32 l0 x4_1).f0), .string ((rd_T32 l0 x4_1).f1), .string ((rd_T32 l0 x4_1).f2), .int .i64 ((rd_T32 l0 x4_1).f3), .int .i64 ((rd_T32 l0 x4_1).f4), .bool ((rd_T32 l0 x4_1).f5), .int .i64 ((rd_T32 l0 x4_1).f6), .int .i64 ((rd_T32 l0 x4_1).f7), .slice Ao11 t193.length co11] (fun _ => True) (fun k_ => ((fun _ => True)) k_ ∧ some k_ ≠ (u3 : Value).ownBlock) rfl rfl ?aP (fun _ hk => hk) ?aF ?aO ?aB ?aS ?aL ?_
            (case aP => exact k63_mkM _ _ _ (⟨(rd_T32 l0 x4_1).f0, (rd_T32 l0 x4_1).f1, (rd_T32 l0 x4_1).f2, (rd_T32 l0 x4_1).f3, (rd_T32 l0 x4_1).f4, (rd_T32 l0 x4_1).f5, (rd_T32 l0 x4_1).f6, (rd_T32 l0 x4_1).f7, t193⟩ : S63) (Kd.R_mono (HO195.out) (fun k_ hk => ⟨trivial, hk.2⟩)))
            (case aB => exact (by repeat (first | (with_reducible first | exact HB.out | apply below_alloc | apply pw_below_drewN | apply below_drew1 | refine below_set ?_ GE192.out) | exact HB.out)))
            (case aF => exact (fun _ _ => trivial))
            (case aO => exact (by (with_reducible repeat (first | apply Kd.R_alloc | apply Kd.R_drewN | apply Kd.R_drew)); exact Kd.R_mono HO_3.out (fun _ hk => trivial)))
            (case aS => exact (below_size (by repeat (first | (with_reducible first | exact HB.out | apply below_alloc | apply pw_below_drewN | apply below_drew1 | refine below_set ?_ GE192.out) | exact HB.out))))
            (case aL => have := LMc5.out; omega)
            intro v197 w12 ho hb hg hat
            rw [← Ny196.out] at ho
            have n0_ := Aside0.mk (blk_grown (g := gb192) (o := .cells #[.int .i64 ((rd_T32 l0 x4_1).f0), .string ((rd_T32 l0 x4_1).f1), .string ((rd_T32 l0 x4_1).f2), .int .i64 ((rd_T32 l0 x4_1).f3), .int .i64 ((rd_T32 l0 x4_1).f4), .bool ((rd_T32 l0 x4_1).f5), .int .i64 ((rd_T32 l0 x4_1).f6), .int .i64 ((rd_T32 l0 x4_1).f7), .slice A191_8 ((rd_T32 l0 x4_1).f8).length c191_8] 32 (0, 0)) (by (with_reducible repeat (first | refine blk_drewN ?_ _ | refine blk_drew ?_ | refine blk_alloc ?_ _)); exact BK192.out) hg (Kd.R_ne HO_3.out BK192.out (by decide)))
            have n1_ := Aside0.mk (hb)
            have n2_ := Aside0.mk (ho)
            clear BK192
            clear HB
            clear HO_3
            clear HO195
            have BK192 := n0_
            have HB := n1_
            have HO198 := n2_
            clear n0_ n1_ n2_
            clear ho hb hg hat
            refine hK.out _ _ ⟨(blk_cell BK192.out 0).trans rfl, (blk_cell BK192.out 1).trans rfl, (blk_cell BK192.out 2).trans rfl, (blk_cell BK192.out 3).trans rfl, (blk_cell BK192.out 4).trans rfl, (blk_cell BK192.out 5).trans rfl, (blk_cell BK192.out 6).trans rfl, (blk_cell BK192.out 7).trans rfl, (blk_cell BK192.out 8).trans rfl⟩ (fun hHeld => ?_)
            clear hK K
            refine norm_ (a' := ?_) ?_ ?_
            rotate_left
            · show Act.put _ (some 38) _ = _
              simp only [Act.put, List.setIfInBounds_toArray, List.set_cons_zero, List.set_cons_succ, i64_w, i32_w]
              rfl
            refine pure_ (i := 23) (N := some 3) (v := ?_) (a' := ?_) #[true, true, true, true, true, true, true, true, true, true, true, true, true, true, true, true, true, true, true, true, true, true, true, true] rfl rfl (any_of HT_.out (by kernel_rfl)) (fun _ _ _ h => h) (Or.inl ⟨by rfl, ?_⟩) ?_ ?_
            rotate_left
            · intro w'
              go_simp
              with_reducible rfl
            rotate_left
            · simp only [Act.put, List.setIfInBounds_toArray, List.set_cons_zero, List.set_cons_succ, i64_w, i32_w]
              rfl
            refine done_ (done_of HT_.out (by kernel_rfl)) ?_
            try go_wp2
            go_roundg k1
            case measure => have := HK1.out; omega
            case rel => exact ⟨(y196), (wrap64 (x4_1 + 1)), (by first | rfl | (simp; done) | (simp [*]; done)), H', ⟨by have := HK1.out; omega⟩, ⟨by (with_reducible repeat (first | apply Kd.R_alloc | apply Kd.R_drewN | apply Kd.R_drew)); exact HO198.out⟩, ⟨by repeat (first | (with_reducible first | exact HB.out | apply below_alloc | apply pw_below_drewN | apply below_drew1 | refine below_set ?_ GE192.out) | exact HB.out)⟩⟩
          · rw [if_neg c5] at H
            exact absurd H (by simp)
        · rw [if_neg c3] at H
          exact absurd H (by simp)
      · rw [if_neg c2] at H
        have c2b0 : decide (x4_1 < (l0.length : Int)) = false := decide_eq_false c2
        clear c2
        obtain rfl := Option.some.inj H
        go_wp2
        go_ret
        exact ⟨_, by first | rfl | (simp [errW_none, errW_some] <;> rfl) | (simp [*, errW_none, errW_some] <;> rfl), by (with_reducible repeat (first | apply Kd.R_alloc | apply Kd.R_drewN | apply Kd.R_drew)); exact HO_3.out, by repeat (first | (with_reducible first | exact HB.out | apply below_alloc | apply pw_below_drewN | apply below_drew1) | exact HB.out)⟩
end Go.Proofs.YtehmcahdjldhbaaGreatDoor.Bk
end
section
open Go Go.RowKit Go.Proofs.YtehmcahdjldhbaaGreatDoorW.PrintWords
set_option linter.unusedVariables false
set_option linter.unusedSimpArgs false
set_option maxRecDepth 100000
namespace Go.Proofs.YtehmcahdjldhbaaGreatDoor
open Wk
namespace Bk
theorem kid_small : ∀ (X : List S63) (i : Nat) (x : S63), X[i]? = some x → SizeOf.sizeOf x.f8 < SizeOf.sizeOf X := fun X i x h => by
  have h1 := List.sizeOf_lt_of_mem (List.mem_of_getElem? h)
  have h2 : SizeOf.sizeOf x.f8 < SizeOf.sizeOf x := by
    cases x; simp; omega
  omega
theorem rowAt63 {w : World} {A : Option Addr} {n : Nat} {xs : List S63} (h : Kd.C k63 w A n xs) (i : Nat) (h1 : i < n) (x : S63) (hx : xs[i]? = some x) : ∃ ad A8 c8, A = some ad ∧ w.cell? (ad.add (i * 9)) = some (.int .i64 x.f0) ∧ w.cell? ⟨(ad.add (i * 9)).block, (ad.add (i * 9)).off + 1, none⟩ = some (.string x.f1) ∧ w.cell? ⟨(ad.add (i * 9)).block, (ad.add (i * 9)).off + 2, none⟩ = some (.string x.f2) ∧
    w.cell? ⟨(ad.add (i * 9)).block, (ad.add (i * 9)).off + 3, none⟩ = some (.int .i64 x.f3) ∧ w.cell? ⟨(ad.add (i * 9)).block, (ad.add (i * 9)).off + 4, none⟩ = some (.int .i64 x.f4) ∧ w.cell? ⟨(ad.add (i * 9)).block, (ad.add (i * 9)).off + 5, none⟩ = some (.bool x.f5) ∧ w.cell? ⟨(ad.add (i * 9)).block, (ad.add (i * 9)).off + 6, none⟩ = some (.int .i64 x.f6) ∧ w.cell? ⟨(ad.add (i * 9)).block, (ad.add (i * 9)).off + 7, none⟩ = some (.int .i64 x.f7) ∧
    w.cell? ⟨(ad.add (i * 9)).block, (ad.add (i * 9)).off + 8, none⟩ = some (.slice A8 x.f8.length c8) ∧ x.f8.length ≤ c8 ∧ Kd.C k63 w A8 x.f8.length x.f8 := by
  obtain ⟨ad, A8, c8, e, a0, a1, a2, a3, a4, a5, a6, a7, a8, l8, C⟩ := at_T63 h i (by omega) (by omega)
  have er : rd_T63 xs (i : Int) = x := by
    unfold rd_T63
    rw [Int.toNat_natCast, List.getD_eq_getElem?_getD, hx]; rfl
  rw [er, Int.toNat_natCast] at a0 a1 a2 a3 a4 a5 a6 a7 a8
  rw [er] at l8 C
  exact ⟨ad, A8, c8, e, a0, a1, a2, a3, a4, a5, a6, a7, a8, l8, C⟩
set_option maxHeartbeats 16000000 in
theorem same_eq : ∀ (m : Nat) (X : List S63), SizeOf.sizeOf X < m → ∀ (w : World) (A A' : Option Addr) (c c' : Nat), X.length ≤ 9223372036854775807 → Kd.C k63 w A X.length X → Kd.C k63 w A' X.length X →
    Calls Tryz.prog 16 #[.slice A X.length c, .slice A' X.length c'] w fun e w' => e = .returned (.bool true) ∧ Below w.heap.size w w'
  | 0, X, h, _, _, _, _, _, _, _, _ => absurd h (Nat.not_lt_zero _)
  | m + 1, X, h, w, A, A', c, c', hl, hA, hB => by
    have IH := Lib.hid (same_eq m)
    go_enter Tryz.func16, Tryz.ntmps16
    go_wp2
    go_loopw [5] (fun kv wr => ∃ k : Nat, kv = .int .i64 k ∧ k ≤ X.length ∧ Below w.heap.size w wr) (fun kv _ => X.length - (intOf kv).toNat)
    case atStart => exact ⟨0, rfl, Nat.zero_le _, Below.refl _ _⟩
    case round =>
      obtain ⟨k, rfl, hk, hb⟩ := hrel
      by_cases hlt : k < X.length
      · have hx : X[k]? = some X[k] := List.getElem?_eq_getElem hlt
        obtain ⟨ad, A8, c8, rfl, a0, a1, a2, a3, a4, a5, a6, a7, a8, l8, C8⟩ := rowAt63 (Kd.C_below hA hb) k hlt _ hx
        have hsz := Lib.hid (kid_small X k _ hx)
        obtain ⟨x, hx0⟩ : ∃ x, X[k] = x := ⟨_, rfl⟩
        rw [hx0] at a0 a1 a2 a3 a4 a5 a6 a7 a8 l8 C8 hx hsz
        have hb1 : Below w.heap.size w (wr.alloc (.cells #[.int .i64 x.f0, .string x.f1, .string x.f2, .int .i64 x.f3, .int .i64 x.f4, .bool x.f5, .int .i64 x.f6, .int .i64 x.f7, .slice A8 x.f8.length c8] 63)) := hb.alloc hb.size _
        obtain ⟨ad', B8, d8, rfl, b0, b1, b2, b3, b4, b5, b6, b7, b8, m8, D8⟩ := rowAt63 (Kd.C_below hB hb1) k hlt x hx
        have hb2 : Below w.heap.size w ((wr.alloc (.cells #[.int .i64 x.f0, .string x.f1, .string x.f2, .int .i64 x.f3, .int .i64 x.f4, .bool x.f5, .int .i64 x.f6, .int .i64 x.f7, .slice A8 x.f8.length c8] 63)).alloc (.cells #[.int .i64 x.f0, .string x.f1, .string x.f2, .int .i64 x.f3, .int .i64 x.f4, .bool x.f5, .int .i64 x.f6, .int .i64 x.f7, .slice B8 x.f8.length d8] 63)) := hb1.alloc hb1.size _
        have hbw2 : Below wr.heap.size wr ((wr.alloc (.cells #[.int .i64 x.f0, .string x.f1, .string x.f2, .int .i64 x.f3, .int .i64 x.f4, .bool x.f5, .int .i64 x.f6, .int .i64 x.f7, .slice A8 x.f8.length c8] 63)).alloc (.cells #[.int .i64 x.f0, .string x.f1, .string x.f2, .int .i64 x.f3, .int .i64 x.f4, .bool x.f5, .int .i64 x.f6, .int .i64 x.f7, .slice B8 x.f8.length d8] 63)) := ((Below.refl _ wr).alloc (Nat.le_refl _) _).alloc (by simp) _
        have CC := IH.out x.f8 (by have := hsz.out; omega) _ A8 B8 c8 d8 C8.2.1 (Kd.C_below C8 hbw2) (Kd.C_below D8 ((Below.refl _ _).alloc (Nat.le_refl _) _))
        clear hx hx0 C8 D8 l8 m8 hb1 hbw2 hA hB
        go_wp2_with (go_at_call 16; (with_reducible refine CC.mono ?_); rintro e w5 ⟨rfl, b5⟩)
        go_roundw
        case rel => exact ⟨k + 1, by go_num, by omega, hb2.trans (b5.mono hb2.size)⟩
        case measure => simp [intOf]; omega
      · have hke : k = X.length := by omega
        subst hke
        go_wp2
        go_ret
        exact ⟨rfl, hb⟩
end Bk
end Go.Proofs.YtehmcahdjldhbaaGreatDoor
end
section
set_option linter.unusedVariables false
set_option linter.unusedSimpArgs false
set_option maxRecDepth 100000
namespace Go.Proofs.YtehmcahdjldhbaaGreatDoor
open Wk
namespace Bk
def mv (r c : Nat) (j : Nat) : Nat := if j = 0 then r else j + c
def mvN (r c dl : Nat) (d : Nd) : Nd := { d with first := d.first + dl, last := d.last + dl, parent := d.parent.map (mv r c), kids := d.kids.map (mv r c) }
structure Sim (r c dl : Nat) (pre pk : List Nat) (K : Nat → List Nat) (σ τ : St) : Prop where
  rc : r ≤ c
  gs : Good σ
  gt : Good τ
  nd : ∀ j, 0 < j → j < σ.n → τ.nd (j + c) = mvN r c dl (σ.nd j)
  kids0 : (τ.nd r).kids = pk ++ (σ.nd 0).kids.map (mv r c)
  kind0 : (τ.nd r).kind ≠ 3
  low : ∀ j, j < r → (τ.nd j).kids = K j
  n : τ.n = σ.n + c
  opn : τ.opn = pre ++ σ.opn.map (mv r c)
  met : τ.met = pre.length + σ.met
  leaf : τ.leaf = σ.leaf.map (mv r c)
  line : τ.line = σ.line + dl
  s : τ.s = σ.s
  col : τ.col = σ.col ∨ 9 ∉ σ.s
def Bg (σ τ : St) : Prop := σ.leaf = none ∨ τ.began = σ.began
theorem mv_pos {r c j : Nat} (h : 0 < j) : mv r c j = j + c := by unfold mv; rw [if_neg (by omega)]
theorem mv_zero {r c : Nat} : mv r c 0 = r := by unfold mv; rw [if_pos rfl]
theorem mv_inj {r c i j : Nat} (h : r ≤ c) (e : mv r c i = mv r c j) : i = j := by unfold mv at e; split at e <;> split at e <;> omega
theorem indW_notab : ∀ (l : Bs) (c c' : Nat), 9 ∉ l → indW l c = indW l c'
  | [], _, _, _ => rfl
  | b :: t, c, c', h => by
    have hb : b ≠ 9 := fun e => h (e ▸ List.mem_cons_self ..)
    have ht : 9 ∉ t := fun e => h (List.mem_cons_of_mem _ e)
    simp only [indW]
    rw [if_neg hb, if_neg hb, indW_notab t (c + 1) (c' + 1) ht]
theorem skip_notab : ∀ (l : Bs) (c c' n : Nat), 9 ∉ l → (skip l c n).1 = (skip l c' n).1
  | [], _, _, n, _ => by simp [skip]
  | b :: t, c, c', n, h => by
    have hb : b ≠ 9 := fun e => h (e ▸ List.mem_cons_self ..)
    have ht : 9 ∉ t := fun e => h (List.mem_cons_of_mem _ e)
    simp only [skip]
    by_cases h0 : n = 0
    · rw [if_pos h0, if_pos h0]
    · rw [if_neg h0, if_neg h0]
      by_cases h32 : b = 32
      · rw [if_pos h32, if_pos h32]; exact skip_notab t _ _ _ ht
      · rw [if_neg h32, if_neg h32, if_neg hb, if_neg hb]
theorem skip_tabs : ∀ (l : Bs) (c n : Nat), 9 ∉ l → 9 ∉ (skip l c n).1
  | [], _, n, _ => by simp [skip]
  | b :: t, c, n, h => by
    have hb : b ≠ 9 := fun e => h (e ▸ List.mem_cons_self ..)
    have ht : 9 ∉ t := fun e => h (List.mem_cons_of_mem _ e)
    simp only [skip]
    by_cases h0 : n = 0
    · rw [if_pos h0]; exact h
    · rw [if_neg h0]
      by_cases h32 : b = 32
      · rw [if_pos h32]; exact skip_tabs t _ _ ht
      · rw [if_neg h32, if_neg hb]; exact h
namespace Sim
variable {r c dl : Nat} {pre pk : List Nat} {K : Nat → List Nat} {σ τ : St}
theorem npos (h : Sim r c dl pre pk K σ τ) : 0 < σ.n := (h.gs.opnH _ (List.mem_of_getElem? h.gs.root.1)).1
theorem par0 (h : Sim r c dl pre pk K σ τ) : (σ.nd 0).parent = none := by
  cases e : (σ.nd 0).parent with
  | none => rfl
  | some p => have := h.gs.par 0 h.npos p e; omega
theorem up_of {A B : Nat → Nd} {N : Nat} (hrc : r ≤ c) (h0 : (A 0).parent = none) (hB : ∀ j, 0 < j → j < N → (B (j + c)).parent = (A j).parent.map (mv r c)) (hA : ∀ j, j < N → ∀ p, (A j).parent = some p → p < j)
    {i j : Nat} (hi : i < N) (u : Up A i j) : Up B (mv r c i) (mv r c j) := by
  induction u with
  | refl i => exact .refl _
  | @step i p j e _ ih =>
    have hp := hA _ hi _ e
    have h1 : 0 < i := by omega
    refine .step (p := mv r c p) ?_ (ih (by omega))
    rw [mv_pos h1, hB _ h1 hi, e]; rfl
theorem up_back {A B : Nat → Nd} {N M : Nat} (hrc : r ≤ c) (hB : ∀ j, 0 < j → j < N → (B (j + c)).parent = (A j).parent.map (mv r c)) (hA : ∀ j, j < N → ∀ p, (A j).parent = some p → p < j)
    (hr : r < M) (hBp : ∀ j, j < M → ∀ p, (B j).parent = some p → p < j) {x y : Nat} (u : Up B x y) : ∀ i j, x = mv r c i → i < N → y = mv r c j → 0 < j → Up A i j := by
  induction u with
  | refl x =>
    intro i j e1 hi e2 hj
    have := mv_inj hrc (e1.symm.trans e2)
    subst this; exact .refl _
  | @step x p y e u ih =>
    intro i j e1 hi e2 hj
    by_cases h0 : i = 0
    · subst h0
      rw [mv_zero] at e1
      subst e1
      have hp := hBp _ hr _ e
      have := u.le fun k q hk hq => hBp k (by omega) q hq
      rw [e2, mv_pos hj] at this
      omega
    · rw [e1, mv_pos (by omega), hB i (by omega) hi] at e
      cases hq : (A i).parent with
      | none => rw [hq] at e; cases e
      | some q =>
        rw [hq] at e
        have hqi := hA i hi q hq
        have e' : mv r c q = p := Option.some.inj e
        exact .step hq (ih q j e'.symm (by omega) e2 hj)
theorem rN (h : Sim r c dl pre pk K σ τ) : r < τ.n := by have := h.n; have := h.npos; have := h.rc; omega
theorem up (h : Sim r c dl pre pk K σ τ) {i j : Nat} (hi : i < σ.n) (hj : 0 < j) : Up τ.nd (mv r c i) (j + c) ↔ Up σ.nd i j := by
  have hB : ∀ j, 0 < j → j < σ.n → (τ.nd (j + c)).parent = (σ.nd j).parent.map (mv r c) := fun j h1 h2 => by rw [h.nd j h1 h2]; rfl
  constructor
  · intro u; exact up_back h.rc hB h.gs.par h.rN h.gt.par u i j rfl hi (mv_pos hj).symm hj
  · intro u; have := up_of h.rc h.par0 hB h.gs.par hi u; rwa [mv_pos hj] at this
theorem mvlt (h : Sim r c dl pre pk K σ τ) {i : Nat} (hi : i < σ.n) : mv r c i < τ.n := by
  have := h.n; have := h.rN; unfold mv; split <;> omega
theorem touch (h : Sim r c dl pre pk K σ τ) {i : Nat} (hi : i < σ.n) : Sim r c dl pre pk K (σ.touch i) (τ.touch (mv r c i)) := by
  have l1 := touchA_last σ.n σ.nd i σ.line (fun j p hj hp => h.gs.par j (by omega) p hp) hi
  have hm := h.mvlt hi
  have l2 := touchA_last τ.n τ.nd (mv r c i) τ.line (fun j p hj hp => h.gt.par j (by omega) p hp) hm
  refine { h with gs := h.gs.touch i hi, gt := h.gt.touch _ hm, nd := fun j h1 h2 => ?_, kids0 := ?_, kind0 := ?_, low := fun j hj => by rw [touch_nd]; exact h.low j hj }
  · rw [touch_nd τ (mv r c i) (j + c), touch_nd σ i j, h.nd j h1 h2]
    have hn := h.nd j h1 h2
    show ({ mvN r c dl (σ.nd j) with last := (touchA τ.n τ.nd (some (mv r c i)) τ.line (j + c)).last } : Nd) = mvN r c dl { σ.nd j with last := (touchA σ.n σ.nd (some i) σ.line j).last }
    have e : (touchA τ.n τ.nd (some (mv r c i)) τ.line (j + c)).last = (touchA σ.n σ.nd (some i) σ.line j).last + dl := by
      by_cases u : Up σ.nd i j
      · rw [(l1 j).1 u, (l2 (j + c)).1 ((h.up hi h1).2 u), h.line]
      · rw [(l1 j).2 u, (l2 (j + c)).2 (fun v => u ((h.up hi h1).1 v)), hn]; rfl
    rw [e]; rfl
  · rw [touch_nd τ (mv r c i) r, touch_nd σ i 0]; exact h.kids0
  · rw [touch_nd]; exact h.kind0
theorem put (h : Sim r c dl pre pk K σ τ) {i : Nat} (hp : 0 < i) (hi : i < σ.n) (f : Nd → Nd) (hf : ∀ d, f (mvN r c dl d) = mvN r c dl (f d)) (hs : Good (σ.put i f)) (ht : Good (τ.put (i + c) f)) :
    Sim r c dl pre pk K (σ.put i f) (τ.put (i + c) f) := by
  refine { h with gs := hs, gt := ht, nd := fun j h1 h2 => ?_, kids0 := ?_, kind0 := ?_, low := ?_ }
  · show upd τ.nd (i + c) f (j + c) = mvN r c dl (upd σ.nd i f j)
    unfold upd
    by_cases e : j = i
    · subst e; rw [if_pos rfl, if_pos rfl, h.nd j h1 h2, hf]
    · rw [if_neg (by omega), if_neg e, h.nd j h1 h2]
  · show (upd τ.nd (i + c) f r).kids = pk ++ (upd σ.nd i f 0).kids.map _
    have := h.rc
    unfold upd; rw [if_neg (by omega), if_neg (by omega)]; exact h.kids0
  · show (upd τ.nd (i + c) f r).kind ≠ 3
    have := h.rc
    unfold upd; rw [if_neg (by omega)]; exact h.kind0
  · intro j hj
    have := h.rc
    show (upd τ.nd (i + c) f j).kids = _
    unfold upd; rw [if_neg (by omega)]; exact h.low j hj
theorem cur (h : Sim r c dl pre pk K σ τ) (s : Bs) (a b : Nat) (hc : b = a ∨ 9 ∉ s) : Sim r c dl pre pk K { σ with s := s, col := a } { τ with s := s, col := b } :=
  { h with gs := { h.gs with }, gt := { h.gt with }, s := rfl, col := hc }
theorem close (h : Sim r c dl pre pk K σ τ) : Sim r c dl pre pk K σ.close τ.close :=
  { h with gs := h.gs.op (.leaf _), gt := h.gt.op (.leaf _), leaf := rfl }
theorem began (h : Sim r c dl pre pk K σ τ) (a b : Bool) : Sim r c dl pre pk K { σ with began := a } { τ with began := b } :=
  { h with gs := h.gs.op (.began _ _), gt := h.gt.op (.began _ _) }
theorem setMet (h : Sim r c dl pre pk K σ τ) (m : Nat) (h1 : 1 ≤ m) (h2 : m ≤ σ.opn.length) : Sim r c dl pre pk K { σ with met := m } { τ with met := pre.length + m } :=
  { h with gs := h.gs.op (.met _ m h1 h2), gt := h.gt.op (.met _ _ (by omega) (by rw [h.opn]; simp; omega)), met := rfl }
theorem cut (h : Sim r c dl pre pk K σ τ) : Sim r c dl pre pk K { σ with opn := σ.opn.take σ.met } { τ with opn := τ.opn.take τ.met } :=
  { h with gs := h.gs.op (.cut _), gt := h.gt.op (.cut _),
           opn := by
             show τ.opn.take τ.met = pre ++ (σ.opn.take σ.met).map (mv r c)
             rw [h.opn, h.met, List.take_append, List.take_of_length_le (by omega), List.map_take]
             congr 2; omega }
theorem w_eq (h : Sim r c dl pre pk K σ τ) : τ.w = σ.w := by
  unfold St.w
  rw [h.s]
  rcases h.col with e | e
  · rw [e]
  · exact indW_notab _ _ _ e
theorem t_eq (h : Sim r c dl pre pk K σ τ) : τ.t = σ.t := by unfold St.t; rw [h.s]
theorem blank_eq (h : Sim r c dl pre pk K σ τ) : τ.blank = σ.blank := by unfold St.blank; rw [h.s]
theorem all_eq (h : Sim r c dl pre pk K σ τ) : τ.all = σ.all := by
  unfold St.all; rw [h.met, h.opn, List.length_append, List.length_map]
  by_cases e : σ.met = σ.opn.length
  · rw [e]; simp
  · have : ¬ pre.length + σ.met = pre.length + σ.opn.length := by omega
    rw [beq_eq_false_iff_ne.2 e, beq_eq_false_iff_ne.2 this]
theorem leafKind_eq (h : Sim r c dl pre pk K σ τ) : τ.leafKind = σ.leafKind := by
  unfold St.leafKind
  rw [h.leaf]
  cases e : σ.leaf with
  | none => rfl
  | some i =>
    obtain ⟨h1, h2⟩ := h.gs.leafN i e
    show (τ.nd (mv r c i)).kind = (σ.nd i).kind
    rw [mv_pos h1, h.nd i h1 h2]; rfl
theorem goes_eq (h : Sim r c dl pre pk K σ τ) (b : Bg σ τ) : τ.goes = σ.goes := by
  unfold St.goes
  rw [h.leafKind_eq, h.leaf]
  rcases b with b | b
  · rw [b]; rfl
  · rw [b]; cases σ.leaf <;> rfl
theorem plain_eq (h : Sim r c dl pre pk K σ τ) (b : Bg σ τ) : τ.plain = σ.plain := by
  unfold St.plain
  rw [h.leafKind_eq, h.leaf, h.all_eq]
  rcases b with b | b
  · rw [b]; simp
  · rw [b]; cases σ.leaf <;> rfl
theorem last_eq (h : Sim r c dl pre pk K σ τ) : τ.last = mv r c σ.last := by
  have h1 := h.gs.met1
  have h2 := h.gs.lastIn
  have h3 := h.gt.lastIn
  rw [h.opn, h.met, List.getElem?_append_right (by omega), List.getElem?_map, show pre.length + σ.met - 1 - pre.length = σ.met - 1 by omega, h2] at h3
  exact (Option.some.inj h3).symm
theorem kind_eq (h : Sim r c dl pre pk K σ τ) {i : Nat} (hi : i < σ.n) : ((τ.nd (mv r c i)).kind = 3 ↔ (σ.nd i).kind = 3) ∧ ((σ.nd i).kind = 3 → (τ.nd (mv r c i)).M = (σ.nd i).M) := by
  by_cases e : i = 0
  · subst e
    rw [mv_zero]
    have := h.gs.root.2
    have := h.kind0
    exact ⟨⟨fun x => absurd x h.kind0, fun x => by omega⟩, fun x => by omega⟩
  · rw [mv_pos (by omega), h.nd i (by omega) hi]
    exact ⟨Iff.rfl, fun _ => rfl⟩
theorem lastKind (h : Sim r c dl pre pk K σ τ) : ((τ.nd τ.last).kind = 3 ↔ (σ.nd σ.last).kind = 3) ∧ ((σ.nd σ.last).kind = 3 → (τ.nd τ.last).M = (σ.nd σ.last).M) := by
  rw [h.last_eq]; exact h.kind_eq h.gs.lastLt
theorem lay0 (h : Sim r c dl pre pk K σ τ) (k : Nat) (h4 : k = 4 → (σ.nd σ.last).kind = 3) : Sim r c dl pre pk K (σ.lay0 k) (τ.lay0 k) := by
  have hg := (h.gs.lay0 k h4).1
  have hg2 := (h.gt.lay0 k fun e => h.lastKind.1.2 (h4 e)).1
  have hl := h.lastKind.1
  unfold St.lay0 at *
  by_cases e : (σ.nd σ.last).kind = 3 ∧ k ≠ 4
  · rw [if_pos e] at hg ⊢
    rw [if_pos ⟨hl.2 e.1, e.2⟩] at hg2 ⊢
    have := hg.met1
    have h1 : 1 ≤ σ.met - 1 := this
    exact { h with gs := hg, gt := hg2, met := by show τ.met - 1 = _ + (σ.met - 1); have := h.met; omega }
  · rw [if_neg e]
    rw [if_neg (fun x => e ⟨hl.1 x.1, x.2⟩)]
    exact h
theorem lay1 (h : Sim r c dl pre pk K σ τ) (d : Nd) (hk : d.kids = []) (h4 : d.kind = 4 ↔ (σ.nd σ.last).kind = 3) : Sim r c dl pre pk K ((σ.lay1 d).touch σ.n) ((τ.lay1 d).touch τ.n) := by
  have h4t : d.kind = 4 ↔ (τ.nd τ.last).kind = 3 := h4.trans h.lastKind.1.symm
  have g1 : Good ((σ.lay1 d).touch σ.n) := h.gs.lay1 d hk h4 none (.inl rfl)
  have g2 : Good ((τ.lay1 d).touch τ.n) := h.gt.lay1 d hk h4t none (.inl rfl)
  have hle := h.last_eq
  have hlt := h.gs.lastLt
  have hlt2 := h.gt.lastLt
  have hn := h.n
  have hnp := h.npos
  have a1 : ∀ j, (σ.lay1 d).nd j = if j = σ.n then { d with parent := some σ.last, first := σ.line } else if j = σ.last then { σ.nd j with kids := (σ.nd j).kids ++ [σ.n] } else σ.nd j := fun j => rfl
  have a2 : ∀ j, (τ.lay1 d).nd j = if j = τ.n then { d with parent := some τ.last, first := τ.line } else if j = τ.last then { τ.nd j with kids := (τ.nd j).kids ++ [τ.n] } else τ.nd j := fun j => rfl
  have hmn : mv r c σ.n = τ.n := by rw [mv_pos hnp, hn]
  have p1 : ∀ j, j < σ.n + 1 → ∀ p, ((σ.lay1 d).nd j).parent = some p → p < j := fun j hj p hp => by
    rw [a1] at hp
    split at hp
    · cases hp; omega
    · split at hp <;> exact h.gs.par j (by omega) p hp
  have p2 : ∀ j, j < τ.n + 1 → ∀ p, ((τ.lay1 d).nd j).parent = some p → p < j := fun j hj p hp => by
    rw [a2] at hp
    split at hp
    · cases hp; omega
    · split at hp <;> exact h.gt.par j (by omega) p hp
  -- the new arenas, but for what is met last
  have key : ∀ j, 0 < j → j < σ.n + 1 → { (τ.lay1 d).nd (j + c) with last := 0 } = { mvN r c dl ((σ.lay1 d).nd j) with last := 0 } := fun j h1 h2 => by
    rw [a1, a2]
    by_cases e : j = σ.n
    · rw [if_pos (by omega), if_pos e, hle, h.line]
      show ({ d with first := σ.line + dl, last := 0, parent := some (mv r c σ.last) } : Nd) = { d with first := σ.line + dl, last := 0, parent := some (mv r c σ.last), kids := d.kids.map (mv r c) }
      rw [hk]; rfl
    · rw [if_neg (by omega), if_neg e]
      have hj : j < σ.n := by omega
      by_cases e2 : j = σ.last
      · have e3 : j + c = τ.last := by rw [hle, ← e2, mv_pos h1]
        rw [if_pos e3, if_pos e2, h.nd j h1 hj]
        show ({ mvN r c dl (σ.nd j) with kids := (σ.nd j).kids.map (mv r c) ++ [τ.n], last := 0 } : Nd) = { mvN r c dl (σ.nd j) with kids := ((σ.nd j).kids ++ [σ.n]).map (mv r c), last := 0 }
        rw [List.map_append, List.map_singleton, hmn]
      · have e3 : j + c ≠ τ.last := fun x => e2 (by rw [hle] at x; rw [← mv_pos h1 (r := r)] at x; exact mv_inj h.rc x)
        rw [if_neg e3, if_neg e2, h.nd j h1 hj]
  have lst : ∀ j, 0 < j → j < σ.n → ((τ.lay1 d).nd (j + c)).last = ((σ.lay1 d).nd j).last + dl := fun j h1 h2 => by
    have x1 : ((τ.lay1 d).nd (j + c)).last = (τ.nd (j + c)).last := by
      rw [a2, if_neg (by omega)]; split <;> rfl
    have x2 : ((σ.lay1 d).nd j).last = (σ.nd j).last := by
      rw [a1, if_neg (by omega)]; split <;> rfl
    rw [x1, x2, h.nd j h1 h2]; rfl
  have hB : ∀ j, 0 < j → j < σ.n + 1 → ((τ.lay1 d).nd (j + c)).parent = ((σ.lay1 d).nd j).parent.map (mv r c) := fun j h1 h2 => by
    have := congrArg Nd.parent (key j h1 h2); exact this
  have h0 : ((σ.lay1 d).nd 0).parent = none := by
    cases e : ((σ.lay1 d).nd 0).parent with
    | none => rfl
    | some p => have := p1 0 (by omega) p e; omega
  have l1 := touchA_last (σ.n + 1) (σ.lay1 d).nd σ.n σ.line (fun j p hj hp => p1 j (by omega) p hp) (by omega)
  have l2 := touchA_last (τ.n + 1) (τ.lay1 d).nd τ.n τ.line (fun j p hj hp => p2 j (by omega) p hp) (by omega)
  refine { rc := h.rc, gs := g1, gt := g2, nd := fun j h1 h2 => ?_, kids0 := ?_, kind0 := ?_, low := fun j hj => ?_, n := ?_, opn := ?_, met := h.met, leaf := rfl, line := h.line, s := h.s, col := h.col }
  · change j < σ.n + 1 at h2
    rw [touch_nd (τ.lay1 d) τ.n (j + c), touch_nd (σ.lay1 d) σ.n j]
    have e : (((τ.lay1 d).touch τ.n).nd (j + c)).last = (((σ.lay1 d).touch σ.n).nd j).last + dl := by
      by_cases u : Up (σ.lay1 d).nd σ.n j
      · have u2 := up_of h.rc h0 hB p1 (by omega) u
        rw [hmn, mv_pos h1] at u2
        have x1 := (l1 j).1 u
        have x2 := (l2 (j + c)).1 u2
        show (touchA (τ.n + 1) (τ.lay1 d).nd (some τ.n) τ.line (j + c)).last = (touchA (σ.n + 1) (σ.lay1 d).nd (some σ.n) σ.line j).last + dl
        rw [x1, x2, h.line]
      · have u2 : ¬ Up (τ.lay1 d).nd τ.n (j + c) := fun v => u (up_back h.rc hB p1 (by have := h.rN; omega : r < τ.n + 1) p2 v σ.n j hmn.symm (by omega) (mv_pos h1).symm h1)
        have x1 := (l1 j).2 u
        have x2 := (l2 (j + c)).2 u2
        show (touchA (τ.n + 1) (τ.lay1 d).nd (some τ.n) τ.line (j + c)).last = (touchA (σ.n + 1) (σ.lay1 d).nd (some σ.n) σ.line j).last + dl
        rw [x1, x2]
        have hjn : j < σ.n := by
          by_cases e : j = σ.n
          · subst e; exact absurd (.refl _) u
          · omega
        exact lst j h1 hjn
    rw [e]
    have k := key j h1 h2
    have k2 : ({ (τ.lay1 d).nd (j + c) with last := (((σ.lay1 d).touch σ.n).nd j).last + dl } : Nd) = { mvN r c dl ((σ.lay1 d).nd j) with last := (((σ.lay1 d).touch σ.n).nd j).last + dl } := by
      have := congrArg (fun x : Nd => ({ x with last := (((σ.lay1 d).touch σ.n).nd j).last + dl } : Nd)) k
      exact this
    rw [k2]; rfl
  · rw [touch_nd (τ.lay1 d) τ.n r, touch_nd (σ.lay1 d) σ.n 0]
    show ((τ.lay1 d).nd r).kids = pk ++ ((σ.lay1 d).nd 0).kids.map (mv r c)
    rw [a1, a2, if_neg (show ¬ r = τ.n by have := h.rN; omega), if_neg (show ¬ 0 = σ.n by omega)]
    by_cases e2 : 0 = σ.last
    · have e3 : r = τ.last := by rw [hle, ← e2, mv_zero]
      rw [if_pos e3, if_pos e2]
      show (τ.nd r).kids ++ [τ.n] = pk ++ ((σ.nd 0).kids ++ [σ.n]).map (mv r c)
      rw [h.kids0, List.map_append, List.map_singleton, hmn, List.append_assoc]
    · have e3 : r ≠ τ.last := fun x => e2 (by rw [hle, ← mv_zero (r := r) (c := c)] at x; exact mv_inj h.rc x)
      rw [if_neg e3, if_neg e2]; exact h.kids0
  · rw [touch_nd]
    show ((τ.lay1 d).nd r).kind ≠ 3
    rw [a2, if_neg (show ¬ r = τ.n by have := h.rN; omega)]
    split
    · exact h.kind0
    · exact h.kind0
  · rw [touch_nd]
    show ((τ.lay1 d).nd j).kids = _
    have hr := h.rN
    have hl : r ≤ τ.last := by rw [hle]; have := h.rc; unfold mv; split <;> omega
    rw [a2, if_neg (show ¬ j = τ.n by omega), if_neg (show ¬ j = τ.last by omega)]; exact h.low j hj
  · show τ.n + 1 = σ.n + 1 + c; omega
  · show τ.opn.take τ.met = pre ++ (σ.opn.take σ.met).map (mv r c)
    rw [h.opn, h.met, List.take_append, List.take_of_length_le (by omega), List.map_take]
    congr 2; omega
theorem lay (h : Sim r c dl pre pk K σ τ) (d : Nd) (hk : d.kids = []) (h4 : d.kind = 4 → (σ.nd σ.last).kind = 3) : Sim r c dl pre pk K (σ.lay d) (τ.lay d) := by
  have h0 := h.lay0 d.kind h4
  have x := (h.gs.lay0 d.kind h4)
  have y := (h.gt.lay0 d.kind fun e => h.lastKind.1.2 (h4 e))
  have h1 := h0.lay1 d hk x.2.1
  rw [x.2.2.1, y.2.2.1] at h1
  exact h1
theorem layLeaf (h : Sim r c dl pre pk K σ τ) (d : Nd) (hk : d.kids = []) (h4 : d.kind ≠ 4) : Sim r c dl pre pk K (σ.layLeaf d) (τ.layLeaf d) :=
  { h.lay d hk (fun e => absurd e h4) with
    gs := h.gs.lay d hk (fun e => absurd e h4) (some σ.n) (.inr rfl)
    gt := h.gt.lay d hk (fun e => absurd e h4) (some τ.n) (.inr rfl)
    leaf := by show some τ.n = some (mv r c σ.n); rw [mv_pos h.npos, h.n] }
theorem enter (h : Sim r c dl pre pk K σ τ) (d : Nd) (hk : d.kids = []) (h4 : d.kind = 4 → (σ.nd σ.last).kind = 3) (hh : Holds d.kind) : Sim r c dl pre pk K (σ.enter d) (τ.enter d) := by
  have hl := h.lay d hk h4
  exact
    { hl with
      gs := h.gs.enter d hk h4 hh
      gt := h.gt.enter d hk (fun e => h.lastKind.1.2 (h4 e)) hh
      opn := by
        show (τ.lay d).opn ++ [τ.n] = pre ++ ((σ.lay d).opn ++ [σ.n]).map (mv r c)
        rw [hl.opn, List.map_append, List.map_singleton, mv_pos h.npos, h.n, List.append_assoc]
      met := by
        show (τ.lay d).opn.length + 1 = pre.length + ((σ.lay d).opn.length + 1)
        rw [hl.opn, List.length_append, List.length_map]; omega
      leaf := rfl }
end Sim
end Bk
end Go.Proofs.YtehmcahdjldhbaaGreatDoor
end
