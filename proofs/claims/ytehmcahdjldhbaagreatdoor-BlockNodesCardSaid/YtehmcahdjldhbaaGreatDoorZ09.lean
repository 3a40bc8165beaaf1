/- Parts of this session's proof, one behind the other: M12 M13 M14 M15 M17. -/
import Derived.Test.YtehmcahdjldhbaaGreatDoorZ08
import Derived.Test.YtehmcahdjldhbaaGreatDoorZ06
section
/- Package block: html. -/
open Go Go.RowKit
set_option linter.unusedVariables false
set_option linter.unusedSimpArgs false
set_option maxRecDepth 100000
namespace Go.Proofs.YtehmcahdjldhbaaGreatDoor
open Wk
namespace Bk
theorem small_of' {l : Bs} (h : l.length ≤ 4000000000) : Small (mk l) := by unfold Small; rw [mk_size]; exact h
def EntPostB (B mb : Nat) (mask : Int) (b : Bool) (τ : St) (w : World) (e : Ending) (w' : World) : Prop :=
  ∃ nb kv lv ov, e = .returned (.bool b) ∧ MRep B w' mb mask nb kv lv ov τ ∧ Below B w w'
theorem add_leaf (σ : St) (s : Bs) : (σ.add s).leaf = σ.leaf ∧ (σ.add s).s = σ.s ∧ (σ.add s).n = σ.n ∧ (σ.add s).opn = σ.opn ∧ (σ.add s).met = σ.met ∧ (σ.add s).col = σ.col ∧ (σ.add s).began = σ.began ∧ (σ.add s).line = σ.line := by
  unfold St.add
  cases h : σ.leaf with
  | none => simp [h]
  | some i => dsimp only; split <;> exact ⟨h, rfl, rfl, rfl, rfl, rfl, rfl, rfl⟩

set_option maxHeartbeats 4000000 in
theorem html_any {B : Nat} {w : World} {mb : Nat} {mask : Int} {nb : Nat → Nat} {kv lv : Nat → Value} {ov : Value} {σ : St} {C L : Nat} (h : MRep B w mb mask nb kv lv ov σ) (hF : Fit C L σ) (hC : C ≤ 1000000000000) (hL : L ≤ 1000000000000)
    (i : Nat) (hlf : σ.leaf = some i) :
    Calls Tryz.prog 50 #[.pointer (some ⟨mb, 0, none⟩)] w (EntPostB B mb mask (σ.htmlOk i) (σ.html i) w) := by
  have hi := hF.leafN i hlf
  have hB := h.mlow
  have hN := hF.near
  have c3 := h.c3_some hlf
  have cn : w.cell? ⟨nb i, 3, none⟩ = some (.int .i64 (σ.nd i).N) := (h.ncell hi 3).trans rfl
  have BL := mblank_any h hN
  have AD := fun w (h : MRep B w mb mask nb kv lv ov σ) => add_any h hF hC hL i hlf σ.s hN.len
  have HE := fun w hE => htmlEnds_any (mk σ.s) (σ.nd i).N w (small_of' hN.len) hE
  rw [mk_data] at HE
  obtain ⟨al, asx, _⟩ := add_leaf σ σ.s
  have alf : (σ.add σ.s).leaf = some i := al.trans hlf
  by_cases h5 : 5 < (σ.nd i).N
  · have d5 : decide ((5 : Int) < ((σ.nd i).N : Int)) = true := by rw [decide_eq_true_iff]; omega
    have d6 : decide (((σ.nd i).N : Int) ≤ 5) = false := by rw [decide_eq_false_iff_not]; omega
    cases hb : σ.blank with
    | true =>
      have e1 : σ.htmlOk i = false := by unfold St.htmlOk; rw [hb]; simp [h5]
      have e2 : Hid (σ.html i = σ.close) := by apply Lib.hid; unfold St.html; rw [e1]; rfl
      rw [hb] at BL
      rw [e1]
      clear e1 al asx alf
      go_enter Tryz.func50, Tryz.ntmps50
      go_wp2_with (go_at_call 46; (with_reducible refine BL.mono ?_); rintro e w1 ⟨rfl, hb1⟩; have M2 := h.below hb1; have f3 := M2.free 3; have c3' := M2.c3_some hlf)
      go_ret
      exact ⟨nb, kv, lv, ov, rfl, by rw [e2.out]; exact M2.mset 3 (.pointer none) σ.close rfl rfl rfl rfl, (hb1.mono hB).setCell h.mbase _⟩
    | false =>
      have e1 : σ.htmlOk i = true := by unfold St.htmlOk; rw [hb]; simp
      have e2 : Hid (σ.html i = σ.add σ.s) := by apply Lib.hid; unfold St.html; rw [e1, if_pos rfl, if_neg (fun hx => by have := hx.1; omega)]
      rw [hb] at BL
      rw [e1]
      clear e1 al asx alf
      go_enter Tryz.func50, Tryz.ntmps50
      go_wp2_with (first
        | (go_at_call 46; (with_reducible refine BL.mono ?_); rintro e w1 ⟨rfl, hb1⟩; have M2 := h.below hb1; have c0 := M2.c0)
        | (go_at_call 59; (with_reducible refine (AD _ M2).mono ?_); rintro e w6 ⟨lv6, rfl, M6, hb6⟩))
      go_ret
      exact ⟨nb, kv, lv6, ov, rfl, by rw [e2.out]; exact M6, (hb1.mono hB).trans hb6⟩
  · have d5 : decide ((5 : Int) < ((σ.nd i).N : Int)) = false := by rw [decide_eq_false_iff_not]; omega
    have d6 : decide (((σ.nd i).N : Int) ≤ 5) = true := by rw [decide_eq_true_iff]; omega
    have e1 : σ.htmlOk i = true := by unfold St.htmlOk; simp [h5]
    have c0 := h.c0
    rw [e1]
    cases hh : Sc.htmlEnds σ.s (σ.nd i).N with
    | true =>
      have e2 : Hid (σ.html i = (σ.add σ.s).close) := by apply Lib.hid; unfold St.html; rw [e1, if_pos rfl, if_pos ⟨by omega, hh⟩]
      rw [hh] at HE
      clear e1
      go_enter Tryz.func50, Tryz.ntmps50
      go_wp2_with (first
        | (go_at_call 59; (with_reducible refine (AD _ h).mono ?_); rintro e w6 ⟨lv6, rfl, M6, hb6⟩; have c0' : w6.cell? ⟨mb, 0, none⟩ = some (.string (mk σ.s)) := by rw [← asx]; exact M6.c0)
        | (go_at_call 76; (with_reducible refine (HE _ M6.low.env).mono ?_); rintro e w7 ⟨rfl, hb7⟩; have M7 := M6.below hb7; have f3 := M7.free 3; have c3' := M7.c3_some alf))
      go_ret
      exact ⟨nb, kv, lv6, ov, rfl, by rw [e2.out]; exact M7.mset 3 (.pointer none) _ rfl rfl rfl rfl, (hb6.trans (hb7.mono M6.mlow)).setCell h.mbase _⟩
    | false =>
      have e2 : Hid (σ.html i = σ.add σ.s) := by apply Lib.hid; unfold St.html; rw [e1, if_pos rfl, if_neg (by rw [hh]; simp)]
      rw [hh] at HE
      clear e1
      go_enter Tryz.func50, Tryz.ntmps50
      go_wp2_with (first
        | (go_at_call 59; (with_reducible refine (AD _ h).mono ?_); rintro e w6 ⟨lv6, rfl, M6, hb6⟩; have c0' : w6.cell? ⟨mb, 0, none⟩ = some (.string (mk σ.s)) := by rw [← asx]; exact M6.c0)
        | (go_at_call 76; (with_reducible refine (HE _ M6.low.env).mono ?_); rintro e w7 ⟨rfl, hb7⟩; have M7 := M6.below hb7))
      go_ret
      exact ⟨nb, kv, lv6, ov, rfl, by rw [e2.out]; exact M7, hb6.trans (hb7.mono M6.mlow)⟩
end Bk
end Go.Proofs.YtehmcahdjldhbaaGreatDoor
end
section
/- Package block: takes, code. -/
open Go Go.RowKit
set_option linter.unusedVariables false
set_option linter.unusedSimpArgs false
set_option maxRecDepth 100000
namespace Go.Proofs.YtehmcahdjldhbaaGreatDoor
open Wk
namespace Bk
set_option maxHeartbeats 4000000 in
theorem takes_any {B : Nat} {w : World} {mb : Nat} {mask : Int} {nb : Nat → Nat} {kv lv : Nat → Value} {ov : Value} {σ : St} {C L : Nat} (h : MRep B w mb mask nb kv lv ov σ) (hF : Fit C L σ) (hC : C ≤ 1000000000000) (hL : L ≤ 1000000000000) :
    Calls Tryz.prog 33 #[.pointer (some ⟨mb, 0, none⟩)] w (EntPostB B mb mask σ.takes.1 σ.takes.2 w) := by
  have hB := h.mlow
  have AL := all_any h
  cases ha : σ.all with
  | false =>
    have e1 : σ.takes = (false, σ) := by unfold St.takes; rw [ha]; rfl
    rw [ha] at AL
    rw [e1]
    clear e1
    go_enter Tryz.func33, Tryz.ntmps33
    go_wp2_with (go_at_call 48; (with_reducible refine AL.mono ?_); rintro e w1 ⟨rfl, hb1⟩)
    go_ret
    exact ⟨nb, kv, lv, ov, rfl, h.below hb1, hb1.mono hB⟩
  | true =>
    rw [ha] at AL
    cases hlf : σ.leaf with
    | none =>
      have e1 : σ.takes = (false, σ) := by unfold St.takes; rw [ha, hlf]; rfl
      rw [e1]
      clear e1
      go_enter Tryz.func33, Tryz.ntmps33
      go_wp2_with (go_at_call 48; (with_reducible refine AL.mono ?_); rintro e w1 ⟨rfl, hb1⟩; have c3 := (h.below hb1).c3_none hlf)
      go_ret
      exact ⟨nb, kv, lv, ov, rfl, h.below hb1, hb1.mono hB⟩
    | some i =>
      have hi := hF.leafN i hlf
      have FE := fun w (h : MRep B w mb mask nb kv lv ov σ) => fenced_any h hF hC hL i hlf
      have HT := fun w (h : MRep B w mb mask nb kv lv ov σ) => html_any h hF hC hL i hlf
      have KN : ∀ {w}, MRep B w mb mask nb kv lv ov σ → w.cell? ⟨nb i, 13, none⟩ = some (.int .i64 (σ.nd i).fn) := fun h => (h.ncell hi 13).trans rfl
      by_cases hf : 0 < (σ.nd i).fn
      · have e1 : σ.takes = (true, σ.fenced i) := by unfold St.takes; rw [ha, hlf]; simp [hf]
        have df : decide ((0 : Int) < ((σ.nd i).fn : Int)) = true := by rw [decide_eq_true_iff]; omega
        rw [e1]
        clear e1
        go_enter Tryz.func33, Tryz.ntmps33
        go_wp2_with (first
          | (go_at_call 48; (with_reducible refine AL.mono ?_); rintro e w1 ⟨rfl, hb1⟩; have M1 := h.below hb1; have c3 := M1.c3_some hlf; have k13 := KN M1)
          | (go_at_call 49; (with_reducible refine (FE _ M1).mono ?_); rintro e w2 ⟨nb2, kv2, lv2, ov2, rfl, M2, hb2⟩))
        go_ret
        exact ⟨nb2, kv2, lv2, ov2, rfl, M2, (hb1.mono hB).trans hb2⟩
      · have df : decide ((0 : Int) < ((σ.nd i).fn : Int)) = false := by rw [decide_eq_false_iff_not]; omega
        by_cases hk : (σ.nd i).kind = 6
        · have e1 : σ.takes = (σ.htmlOk i, σ.html i) := by unfold St.takes; rw [ha, hlf]; simp [hf, hk]
          rw [e1]
          clear e1
          go_enter Tryz.func33, Tryz.ntmps33
          go_wp2_with (first
            | (go_at_call 48; (with_reducible refine AL.mono ?_); rintro e w1 ⟨rfl, hb1⟩; have M1 := h.below hb1; have c3 := M1.c3_some hlf; have k13 := KN M1; have kk := M1.nkind hi; rw [hk] at kk)
            | (go_at_call 50; (with_reducible refine (HT _ M1).mono ?_); rintro e w2 ⟨nb2, kv2, lv2, ov2, rfl, M2, hb2⟩))
          go_ret
          exact ⟨nb2, kv2, lv2, ov2, rfl, M2, (hb1.mono hB).trans hb2⟩
        · have e1 : σ.takes = (false, σ) := by unfold St.takes; rw [ha, hlf]; simp [hf, hk]
          have dk : (((σ.nd i).kind : Int) == 6) = false := by rw [beq_eq_false_iff_ne]; omega
          rw [e1]
          clear e1
          go_enter Tryz.func33, Tryz.ntmps33
          go_wp2_with (first
            | (go_at_call 48; (with_reducible refine AL.mono ?_); rintro e w1 ⟨rfl, hb1⟩; have M1 := h.below hb1; have c3 := M1.c3_some hlf; have k13 := KN M1; have kk := M1.nkind hi))
          go_ret
          exact ⟨nb, kv, lv, ov, rfl, M1, hb1.mono hB⟩

/-- A state but for its leaf; a new node the leaf. -/
theorem Fit.leafSet {C L : Nat} {σ : St} (h : Fit C L σ) (o : Option Nat) (ho : ∀ i, o = some i → i < σ.n) : Fit C L { σ with leaf := o } := { h with leafN := ho }
theorem Fit.layLeaf {C L : Nat} {σ : St} (h : Fit C L σ) {d : Nd} (hk : d.kids = []) (hn : d.small) (hl : d.lines.length ≤ L) : Fit (C + 1) L (σ.layLeaf d) :=
  (h.lay hk hn hl).leafSet _ fun i e => by cases e; rw [lay_n]; omega
theorem zeroNode_cells (nb : Nat → Nat) (k : Nat) : cells nb (.slice none 0 0) (.slice none 0 0) { kind := k } =
    #[.int .i64 k, .string ⟨#[]⟩, .string ⟨#[]⟩, .int .i64 0, .int .i64 0, .bool false, .int .i64 0, .int .i64 0, .slice none 0 0, .pointer none, .slice none 0 0, .slice none 0 0, .int .u8 0, .int .i64 0, .int .i64 0, .int .i64 0, .bool false] := rfl
/-- lay, the new node just laid in memory, without lines. -/
theorem lay_fresh {B : Nat} {w : World} {mb : Nat} {mask : Int} {nb : Nat → Nat} {kv lv : Nat → Value} {ov : Value} {σ : St} {C L : Nat} (h : MRep B w mb mask nb kv lv ov σ) (hF : Fit C L σ) (hC : C ≤ 1000000000000) (d : Nd) (hl : d.lines = []) (hk : d.kids = []) (hp : d.parent = none)
    (cs : Array Value) (hcs : cells nb (.slice none 0 0) (.slice none 0 0) d = cs) :
    Calls Tryz.prog 61 #[.pointer (some ⟨mb, 0, none⟩), .pointer (some ⟨w.heap.size, 0, none⟩)] (w.alloc (.cells cs 53)) (LayPost B mb mask w.heap.size σ.n (σ.lay d) (w.alloc (.cells cs 53))) := by
  refine lay_any h hF hC ((Below.refl _ _).alloc (Nat.le_refl _) _) (lv' := .slice none 0 0) ?_ ?_ hk hp (Nat.le_refl _) (fun k e => by cases e)
  · rw [hcs]; exact heap_alloc_new w _
  · rw [hl]; exact World.ownsRow_nil _ _ _ _
theorem enter_fresh {B : Nat} {w : World} {mb : Nat} {mask : Int} {nb : Nat → Nat} {kv lv : Nat → Value} {ov : Value} {σ : St} {C L : Nat} (h : MRep B w mb mask nb kv lv ov σ) (hF : Fit C L σ) (hC : C ≤ 1000000000000) (d : Nd) (hl : d.lines = []) (hk : d.kids = []) (hp : d.parent = none)
    (cs : Array Value) (hcs : cells nb (.slice none 0 0) (.slice none 0 0) d = cs) :
    Calls Tryz.prog 54 #[.pointer (some ⟨mb, 0, none⟩), .pointer (some ⟨w.heap.size, 0, none⟩)] (w.alloc (.cells cs 53)) (EntPost B mb mask (σ.enter d) (w.alloc (.cells cs 53))) := by
  refine enter_any h hF hC ((Below.refl _ _).alloc (Nat.le_refl _) _) (lv' := .slice none 0 0) ?_ ?_ hk hp (Nat.le_refl _) (fun k e => by cases e)
  · rw [hcs]; exact heap_alloc_new w _
  · rw [hl]; exact World.ownsRow_nil _ _ _ _
theorem small0 : Nd.small {} := ⟨by decide, by decide, by decide⟩

set_option maxHeartbeats 4000000 in
theorem code_any {B : Nat} {w : World} {mb : Nat} {mask : Int} {nb : Nat → Nat} {kv lv : Nat → Value} {ov : Value} {σ : St} {C L : Nat} (h : MRep B w mb mask nb kv lv ov σ) (hF : Fit C L σ) (hC : C < 1000000000000) (hL : L ≤ 1000000000000) :
    Calls Tryz.prog 53 #[.pointer (some ⟨mb, 0, none⟩)] w (EntPost B mb mask σ.code w) := by
  have hB := h.mlow
  have PL := plain_any h hF.leafN
  have hN := hF.near
  cases hp : σ.plain with
  | true =>
    obtain ⟨i, hlf⟩ : ∃ i, σ.leaf = some i := by
      have : σ.leaf.isSome = true := by unfold St.plain at hp; simp at hp; exact hp.1.2
      exact Option.isSome_iff_exists.1 this
    have e1 : Hid (σ.code = σ.add (σ.without 4)) := by apply Lib.hid; unfold St.code; rw [hp]; rfl
    rw [hp] at PL
    have WO := fun w (h : MRep B w mb mask nb kv lv ov σ) => mwithout_any h hN 4 _ cast4 (by omega)
    have AD := fun w (h : MRep B w mb mask nb kv lv ov σ) => add_any h hF (by omega) hL i hlf (σ.without 4) (hN.without _)
    go_enter Tryz.func53, Tryz.ntmps53
    go_wp2_with (first
      | (go_at_call 58; (with_reducible refine PL.mono ?_); rintro e w1 ⟨rfl, hb1⟩; have M1 := h.below hb1)
      | (go_at_call 60; (with_reducible refine (WO _ M1).mono ?_); rintro e w5 ⟨rfl, hb5⟩; have M5 := M1.below hb5)
      | (go_at_call 59; (with_reducible refine (AD _ M5).mono ?_); rintro e w6 ⟨lv6, rfl, M6, hb6⟩))
    go_end0
    exact ⟨nb, kv, lv6, ov, rfl, by rw [e1.out]; exact M6, ((hb1.mono hB).trans (hb5.mono M1.mlow)).trans hb6⟩
  | false =>
    rw [hp] at PL
    have e1 : Hid (σ.code = (σ.layLeaf { kind := 5 }).add ((σ.layLeaf { kind := 5 }).without 4)) := by apply Lib.hid; unfold St.code; rw [hp]; rfl
    have LY := fun w (h : MRep B w mb mask nb kv lv ov σ) => lay_fresh h hF (by omega) { kind := 5 } rfl rfl rfl _ (zeroNode_cells nb 5)
    have hF1 := hF.lay (d := { kind := 5 }) rfl ⟨by decide, by decide, by decide⟩ (Nat.zero_le _)
    have hF2 := hF.layLeaf (d := { kind := 5 }) rfl ⟨by decide, by decide, by decide⟩ (Nat.zero_le _)
    have WO := fun w nb kv lv ov (h : MRep B w mb mask nb kv lv ov (σ.layLeaf { kind := 5 })) => mwithout_any h hF2.near 4 _ cast4 (by omega)
    have AD := fun w nb kv lv ov (h : MRep B w mb mask nb kv lv ov (σ.layLeaf { kind := 5 })) => add_any h hF2 (by omega) hL σ.n rfl ((σ.layLeaf { kind := 5 }).without 4) (hF2.near.without _)
    go_enter Tryz.func53, Tryz.ntmps53
    go_wp2_with (first
      | (go_at_call 58; (with_reducible refine PL.mono ?_); rintro e w1 ⟨rfl, hb1⟩; have M1 := h.below hb1; have LY1 := LY _ M1; have hbA := (Below.refl B w1).alloc M1.mlow (.cells #[.int .i64 5, .string ⟨#[]⟩, .string ⟨#[]⟩, .int .i64 0, .int .i64 0, .bool false, .int .i64 0, .int .i64 0, .slice none 0 0, .pointer none, .slice none 0 0, .slice none 0 0, .int .u8 0, .int .i64 0, .int .i64 0, .int .i64 0, .bool false] 53))
      | (go_at_call 61; (refine LY1.mono ?_); clear LY LY1; rintro e w2 ⟨nb2, kv2, lv2, ov2, rfl, M2, hnb2, hb2, og, rfl⟩; have f3 := M2.free 3; have c3 := M2.c3_none (show (σ.lay { kind := 5 }).leaf = none from rfl); have M3 := M2.mset 3 (ptrV (some (nb2 σ.n))) (σ.layLeaf { kind := 5 }) rfl rfl rfl rfl; rw [hnb2] at M3; have M4 : MRep B (w2.setCell ⟨mb, 3, none⟩ (.pointer (some ⟨w1.heap.size, 0, none⟩))) mb mask nb2 kv2 lv2 _ (σ.layLeaf { kind := 5 }) := M3; have hb4 := hb2.setCell (p := ⟨mb, 3, none⟩) M2.mbase (.pointer (some ⟨w1.heap.size, 0, none⟩)); clear M3)
      | (go_at_call 60; (with_reducible refine (WO _ _ _ _ _ M4).mono ?_); rintro e w5 ⟨rfl, hb5⟩; have M5 := M4.below hb5)
      | (go_at_call 59; (with_reducible refine (AD _ _ _ _ _ M5).mono ?_); rintro e w6 ⟨lv6, rfl, M6, hb6⟩))
    go_end0
    exact ⟨nb2, kv2, lv6, _, rfl, by rw [e1.out]; exact M6, ((((hb1.mono hB).trans hbA).trans hb4).trans (hb5.mono M4.mlow)).trans hb6⟩
end Bk
end Go.Proofs.YtehmcahdjldhbaaGreatDoor
end
section
/- Package block: text: what is left of a line, as a text. -/
open Go Go.RowKit
set_option linter.unusedVariables false
set_option linter.unusedSimpArgs false
set_option maxRecDepth 100000
namespace Go.Proofs.YtehmcahdjldhbaaGreatDoor
open Wk
namespace Bk
def St.blankEnd (σ : St) : St := { σ with leaf := if !σ.all || σ.goes then none else σ.leaf, opn := σ.opn.take σ.met }
def St.para (σ : St) : St := if σ.goes then σ else σ.layLeaf { kind := 7 }
theorem text_eq (σ : St) : σ.text = if σ.blank then (if σ.plain then σ.add (σ.without 4) else σ.blankEnd) else σ.para.add (trimLeft σ.para.s) := rfl

theorem lay_keeps (σ : St) (d : Nd) : (σ.lay d).s = σ.s ∧ (σ.lay d).col = σ.col ∧ (σ.lay d).line = σ.line ∧ (σ.lay d).began = σ.began := by
  show (σ.lay0 d.kind).s = _ ∧ (σ.lay0 d.kind).col = _ ∧ (σ.lay0 d.kind).line = _ ∧ (σ.lay0 d.kind).began = _
  unfold St.lay0
  split <;> exact ⟨rfl, rfl, rfl, rfl⟩
theorem MRep.cutOpen {B : Nat} {w : World} {mb : Nat} {mask : Int} {nb : Nat → Nat} {kv lv : Nat → Value} {σ : St} {og ocap : Nat} (h : MRep B w mb mask nb kv lv (.slice (some ⟨og, 0, none⟩) σ.opn.length ocap) σ) (hm : σ.met ≤ σ.opn.length) :
    MRep B (w.setCell ⟨mb, 2, none⟩ (.slice (some ⟨og, 0, none⟩) σ.met σ.met)) mb mask nb kv lv (.slice (some ⟨og, 0, none⟩) σ.met σ.met) { σ with opn := σ.opn.take σ.met } := by
  refine h.open rfl rfl rfl ?_ h.onk
  show Heads w B _ (List.map (nodeP nb) (σ.opn.take σ.met))
  rw [List.map_take]
  exact h.opn.take rfl σ.met (by rw [List.length_map]; exact hm)
set_option maxHeartbeats 8000000 in
theorem text_any {B : Nat} {w : World} {mb : Nat} {mask : Int} {nb : Nat → Nat} {kv lv : Nat → Value} {ov : Value} {σ : St} {C L : Nat} (h : MRep B w mb mask nb kv lv ov σ) (hF : Fit C L σ) (hC : C < 1000000000000) (hL : L ≤ 1000000000000) :
    Calls Tryz.prog 35 #[.pointer (some ⟨mb, 0, none⟩)] w (EntPost B mb mask σ.text w) := by
  have hB := h.mlow
  have hN := hF.near
  have PL := fun w (h : MRep B w mb mask nb kv lv ov σ) => plain_any h hF.leafN
  have BL := fun w (h : MRep B w mb mask nb kv lv ov σ) => mblank_any h hN
  have AL := fun w (h : MRep B w mb mask nb kv lv ov σ) => all_any h
  have GO := fun w (h : MRep B w mb mask nb kv lv ov σ) => goes_any h hF.leafN
  have TX := Lib.hid (text_eq σ)
  cases hb : σ.blank with
  | true =>
    rw [hb] at BL TX
    cases hp : σ.plain with
    | true =>
      rw [hp] at PL TX
      obtain ⟨i, hlf⟩ : ∃ i, σ.leaf = some i := by
        have : σ.leaf.isSome = true := by unfold St.plain at hp; simp at hp; exact hp.1.2
        exact Option.isSome_iff_exists.1 this
      have WO := fun w (h : MRep B w mb mask nb kv lv ov σ) => mwithout_any h hN 4 _ cast4 (by omega)
      have AD := fun w (h : MRep B w mb mask nb kv lv ov σ) => add_any h hF (by omega) hL i hlf (σ.without 4) (hN.without _)
      go_enter Tryz.func35, Tryz.ntmps35
      go_wp2_with (first
        | (go_at_call 46; (with_reducible refine (BL _ h).mono ?_); rintro e w0 ⟨rfl, hb0⟩; have M0 := h.below hb0)
        | (go_at_call 58; (with_reducible refine (PL _ M0).mono ?_); rintro e w1 ⟨rfl, hb1⟩; have M1 := M0.below hb1)
        | (go_at_call 60; (with_reducible refine (WO _ M1).mono ?_); rintro e w5 ⟨rfl, hb5⟩; have M5 := M1.below hb5)
        | (go_at_call 59; (with_reducible refine (AD _ M5).mono ?_); rintro e w6 ⟨lv6, rfl, M6, hb6⟩))
      go_end0
      exact ⟨nb, kv, lv6, ov, rfl, by rw [TX.out]; exact M6, (((hb0.mono hB).trans (hb1.mono M0.mlow)).trans (hb5.mono M1.mlow)).trans hb6⟩
    | false =>
      rw [hp] at PL TX
      obtain ⟨og, ocap, hov, hogB, hocap, hocell⟩ := h.ov_form
      have hmL := hF.metL
      have hoL := hF.opnL
      have hm1 := hF.met1
      subst hov
      have END1 : ∀ {w}, MRep B w mb mask nb kv lv (.slice (some ⟨og, 0, none⟩) σ.opn.length ocap) σ → (!σ.all || σ.goes) = true → MRep B ((w.setCell ⟨mb, 3, none⟩ (.pointer none)).setCell ⟨mb, 2, none⟩ (.slice (some ⟨og, 0, none⟩) σ.met σ.met)) mb mask nb kv lv (.slice (some ⟨og, 0, none⟩) σ.met σ.met) σ.text := fun h hc => by
        have e1 : σ.text = { σ with leaf := none, opn := σ.opn.take σ.met } := by rw [TX.out]; show σ.blankEnd = _; unfold St.blankEnd; rw [if_pos hc]
        rw [e1]
        exact MRep.cutOpen (σ := { σ with leaf := none }) (h.mset 3 (.pointer none) { σ with leaf := none } rfl rfl rfl rfl) hmL
      have END2 : ∀ {w}, MRep B w mb mask nb kv lv (.slice (some ⟨og, 0, none⟩) σ.opn.length ocap) σ → (!σ.all || σ.goes) = false → MRep B (w.setCell ⟨mb, 2, none⟩ (.slice (some ⟨og, 0, none⟩) σ.met σ.met)) mb mask nb kv lv (.slice (some ⟨og, 0, none⟩) σ.met σ.met) σ.text := fun h hc => by
        have e1 : σ.text = { σ with opn := σ.opn.take σ.met } := by rw [TX.out]; show σ.blankEnd = _; unfold St.blankEnd; rw [if_neg (by rw [hc]; simp)]
        rw [e1]
        exact h.cutOpen hmL
      cases ha : σ.all with
      | false =>
        rw [ha] at AL
        have E := fun {w} (h : MRep B w mb mask nb kv lv (.slice (some ⟨og, 0, none⟩) σ.opn.length ocap) σ) => END1 h (by rw [ha]; rfl)
        go_enter Tryz.func35, Tryz.ntmps35
        go_wp2_with (first
          | (go_at_call 46; (with_reducible refine (BL _ h).mono ?_); rintro e w0 ⟨rfl, hb0⟩; have M0 := h.below hb0)
          | (go_at_call 58; (with_reducible refine (PL _ M0).mono ?_); rintro e w1 ⟨rfl, hb1⟩; have M1 := M0.below hb1)
          | (go_at_call 46; (with_reducible refine (BL _ M1).mono ?_); rintro e w2 ⟨rfl, hb2⟩; have M2 := M1.below hb2)
          | (go_at_call 48; (with_reducible refine (AL _ M2).mono ?_); rintro e w3 ⟨rfl, hb3⟩; have M3 := M2.below hb3; have f3 := M3.free 3; have f2 := M3.free 2; have c2 := M3.c2; have c5 := M3.c5; have c3 := M3.c3))
        go_region
        all_goals (try go_wp2)
        all_goals go_end0
        all_goals exact ⟨nb, kv, lv, _, rfl, (E M3).drew, ((((((hb0.mono hB).trans (hb1.mono M0.mlow)).trans (hb2.mono M1.mlow)).trans (hb3.mono M2.mlow)).setCell (p := ⟨mb, 3, none⟩) h.mbase _).setCell (p := ⟨mb, 2, none⟩) h.mbase _).drew⟩
      | true =>
        rw [ha] at AL
        cases hg : σ.goes with
        | true =>
          rw [hg] at GO
          have E := fun {w} (h : MRep B w mb mask nb kv lv (.slice (some ⟨og, 0, none⟩) σ.opn.length ocap) σ) => END1 h (by rw [hg]; simp)
          go_enter Tryz.func35, Tryz.ntmps35
          go_wp2_with (first
            | (go_at_call 46; (with_reducible refine (BL _ h).mono ?_); rintro e w0 ⟨rfl, hb0⟩; have M0 := h.below hb0)
            | (go_at_call 58; (with_reducible refine (PL _ M0).mono ?_); rintro e w1 ⟨rfl, hb1⟩; have M1 := M0.below hb1)
            | (go_at_call 46; (with_reducible refine (BL _ M1).mono ?_); rintro e w2 ⟨rfl, hb2⟩; have M2 := M1.below hb2)
            | (go_at_call 48; (with_reducible refine (AL _ M2).mono ?_); rintro e w3 ⟨rfl, hb3⟩; have M3 := M2.below hb3)
            | (go_at_call 52; (with_reducible refine (GO _ M3).mono ?_); rintro e w4 ⟨rfl, hb4⟩; have M4 := M3.below hb4; have f3 := M4.free 3; have f2 := M4.free 2; have c2 := M4.c2; have c5 := M4.c5; have c3 := M4.c3))
          go_region
          all_goals (try go_wp2)
          all_goals go_end0
          all_goals exact ⟨nb, kv, lv, _, rfl, (E M4).drew, (((((((hb0.mono hB).trans (hb1.mono M0.mlow)).trans (hb2.mono M1.mlow)).trans (hb3.mono M2.mlow)).trans (hb4.mono M3.mlow)).setCell (p := ⟨mb, 3, none⟩) h.mbase _).setCell (p := ⟨mb, 2, none⟩) h.mbase _).drew⟩
        | false =>
          rw [hg] at GO
          have E := fun {w} (h : MRep B w mb mask nb kv lv (.slice (some ⟨og, 0, none⟩) σ.opn.length ocap) σ) => END2 h (by rw [hg, ha]; simp)
          go_enter Tryz.func35, Tryz.ntmps35
          go_wp2_with (first
            | (go_at_call 46; (with_reducible refine (BL _ h).mono ?_); rintro e w0 ⟨rfl, hb0⟩; have M0 := h.below hb0)
            | (go_at_call 58; (with_reducible refine (PL _ M0).mono ?_); rintro e w1 ⟨rfl, hb1⟩; have M1 := M0.below hb1)
            | (go_at_call 46; (with_reducible refine (BL _ M1).mono ?_); rintro e w2 ⟨rfl, hb2⟩; have M2 := M1.below hb2)
            | (go_at_call 48; (with_reducible refine (AL _ M2).mono ?_); rintro e w3 ⟨rfl, hb3⟩; have M3 := M2.below hb3)
            | (go_at_call 52; (with_reducible refine (GO _ M3).mono ?_); rintro e w4 ⟨rfl, hb4⟩; have M4 := M3.below hb4; have f2 := M4.free 2; have c2 := M4.c2; have c5 := M4.c5))
          go_region
          all_goals (try go_wp2)
          all_goals go_end0
          all_goals exact ⟨nb, kv, lv, _, rfl, (E M4).drew, ((((((hb0.mono hB).trans (hb1.mono M0.mlow)).trans (hb2.mono M1.mlow)).trans (hb3.mono M2.mlow)).trans (hb4.mono M3.mlow)).setCell (p := ⟨mb, 2, none⟩) h.mbase _).drew⟩
  | false =>
    rw [hb] at BL TX
    cases hg : σ.goes with
    | true =>
      rw [hg] at GO
      have e1 : Hid (σ.text = σ.add (trimLeft σ.s)) := by apply Lib.hid; rw [TX.out]; unfold St.para; rw [hg]; rfl
      obtain ⟨i, hlf⟩ : ∃ i, σ.leaf = some i := by
        have : σ.leaf.isSome = true := by unfold St.goes at hg; simp at hg; exact hg.1.1
        exact Option.isSome_iff_exists.1 this
      have hz : (trimLeft σ.s).length ≤ 4000000000 := by
        have : (trimLeft σ.s).length ≤ σ.s.length := by unfold trimLeft Lib.trimLeftS; exact Sc.len_dropWhile _
        have := hN.len; omega
      have AD := fun w (h : MRep B w mb mask nb kv lv ov σ) => add_any h hF (by omega) hL i hlf (trimLeft σ.s) hz
      have TL := fun w => TrimLeft_any (mk σ.s) w
      rw [mk_data] at TL
      clear TX
      go_enter Tryz.func35, Tryz.ntmps35
      go_wp2_with (first
        | (go_at_call 46; (with_reducible refine (BL _ h).mono ?_); rintro e w0 ⟨rfl, hb0⟩; have M0 := h.below hb0)
        | (go_at_call 46; (with_reducible refine (BL _ M0).mono ?_); rintro e w1 ⟨rfl, hb1⟩; have M1 := M0.below hb1)
        | (go_at_call 52; (with_reducible refine (GO _ M1).mono ?_); rintro e w2 ⟨rfl, hb2⟩; have M2 := M1.below hb2; have c0 := M2.c0)
        | (go_at_call 62; (with_reducible refine (TL _).mono ?_); rintro e w3 ⟨rfl, hb3⟩; have M3 := M2.below hb3)
        | (go_at_call 59; (refine (AD _ M3).mono ?_); rintro e w6 ⟨lv6, rfl, M6, hb6⟩))
      go_end0
      exact ⟨nb, kv, lv6, ov, rfl, by rw [e1.out]; exact M6, ((((hb0.mono hB).trans (hb1.mono M0.mlow)).trans (hb2.mono M1.mlow)).trans (hb3.mono M2.mlow)).trans hb6⟩
    | false =>
      rw [hg] at GO
      have e1 : Hid (σ.text = (σ.layLeaf { kind := 7 }).add (trimLeft σ.s)) := by
        apply Lib.hid
        rw [TX.out]; unfold St.para; rw [hg]
        have : (σ.layLeaf { kind := 7 }).s = σ.s := (lay_keeps σ _).1
        show (σ.layLeaf { kind := 7 }).add (trimLeft (σ.layLeaf { kind := 7 }).s) = _
        rw [this]
      have hz : (trimLeft σ.s).length ≤ 4000000000 := by
        have : (trimLeft σ.s).length ≤ σ.s.length := by unfold trimLeft Lib.trimLeftS; exact Sc.len_dropWhile _
        have := hN.len; omega
      have LY := fun w (h : MRep B w mb mask nb kv lv ov σ) => lay_fresh h hF (by omega) { kind := 7 } rfl rfl rfl _ (zeroNode_cells nb 7)
      have hF2 := hF.layLeaf (d := { kind := 7 }) rfl ⟨by decide, by decide, by decide⟩ (Nat.zero_le _)
      have AD := fun w nb kv lv ov (h : MRep B w mb mask nb kv lv ov (σ.layLeaf { kind := 7 })) => add_any h hF2 (by omega) hL σ.n rfl (trimLeft σ.s) hz
      have TL := fun w => TrimLeft_any (mk σ.s) w
      rw [mk_data] at TL
      have hs2 : (σ.layLeaf { kind := 7 }).s = σ.s := (lay_keeps σ _).1
      have S0 : ∀ {w nb kv lv ov}, MRep B w mb mask nb kv lv ov (σ.layLeaf { kind := 7 }) → w.cell? ⟨mb, 0, none⟩ = some (.string (mk σ.s)) := fun h => by rw [← hs2]; exact h.c0
      clear TX hs2
      go_enter Tryz.func35, Tryz.ntmps35
      go_wp2_with (first
        | (go_at_call 46; (with_reducible refine (BL _ h).mono ?_); rintro e w0 ⟨rfl, hb0⟩; have M0 := h.below hb0)
        | (go_at_call 46; (with_reducible refine (BL _ M0).mono ?_); rintro e w1 ⟨rfl, hb1⟩; have M1 := M0.below hb1)
        | (go_at_call 52; (with_reducible refine (GO _ M1).mono ?_); rintro e w2 ⟨rfl, hb2⟩; have M2 := M1.below hb2; have LY1 := LY _ M2; have hbA := (Below.refl B w2).alloc M2.mlow (.cells #[.int .i64 7, .string ⟨#[]⟩, .string ⟨#[]⟩, .int .i64 0, .int .i64 0, .bool false, .int .i64 0, .int .i64 0, .slice none 0 0, .pointer none, .slice none 0 0, .slice none 0 0, .int .u8 0, .int .i64 0, .int .i64 0, .int .i64 0, .bool false] 53))
        | (go_at_call 61; (refine LY1.mono ?_); clear LY LY1; rintro e w4 ⟨nb2, kv2, lv2, ov2, rfl, M4, hnb2, hb4, og, rfl⟩; have f3 := M4.free 3; have c3 := M4.c3_none (show (σ.lay { kind := 7 }).leaf = none from rfl); have M5 := M4.mset 3 (ptrV (some (nb2 σ.n))) (σ.layLeaf { kind := 7 }) rfl rfl rfl rfl; rw [hnb2] at M5; have M6 : MRep B (w4.setCell ⟨mb, 3, none⟩ (.pointer (some ⟨w2.heap.size, 0, none⟩))) mb mask nb2 kv2 lv2 _ (σ.layLeaf { kind := 7 }) := M5; have hb6 := hb4.setCell (p := ⟨mb, 3, none⟩) M4.mbase (.pointer (some ⟨w2.heap.size, 0, none⟩)); have c0 := S0 M6; clear M5)
        | (go_at_call 62; (with_reducible refine (TL _).mono ?_); rintro e w7 ⟨rfl, hb7⟩; have M7 := M6.below hb7)
        | (go_at_call 59; (refine (AD _ _ _ _ _ M7).mono ?_); rintro e w8 ⟨lv8, rfl, M8, hb8⟩))
      go_end0
      exact ⟨nb2, kv2, lv8, _, rfl, by rw [e1.out]; exact M8, ((((((hb0.mono hB).trans (hb1.mono M0.mlow)).trans (hb2.mono M1.mlow)).trans hbA).trans hb6).trans (hb7.mono M6.mlow)).trans hb8⟩
end Bk
end Go.Proofs.YtehmcahdjldhbaaGreatDoor
end
section
/- Package block: body, marker, Label. -/
open Go Go.RowKit
set_option linter.unusedVariables false
set_option linter.unusedSimpArgs false
set_option maxRecDepth 100000
namespace Go.Proofs.YtehmcahdjldhbaaGreatDoor
open Wk
namespace Bk
theorem body_any {B : Nat} {w : World} {mb : Nat} {mask : Int} {nb : Nat → Nat} {kv lv : Nat → Value} {ov : Value} {σ : St} (h : MRep B w mb mask nb kv lv ov σ) (i : Nat) (hi : i < σ.n) (hL : (σ.nd i).lines.length ≤ 1000000000000) (hz : (joinNl (σ.nd i).lines).length ≤ 4000000000) :
    Calls Tryz.prog 66 #[.pointer (some ⟨nb i, 0, none⟩)] w fun e w' => e = .returned (.string (mk (body (σ.nd i).lines))) ∧ Below w.heap.size w w' := by
  have cl : w.cell? ⟨nb i, 11, none⟩ = some (lv i) := (h.ncell hi 11).trans rfl
  have hown := h.rep.lines i hi
  have TR := fun w => TrimRight_any (mk (joinNl (σ.nd i).lines)) w (by rw [mk_size]; omega)
  rw [mk_data] at TR
  have JN : ∀ w0, Below w.heap.size w w0 → Calls Tryz.prog 97 #[lv i, .string ⟨#[10]⟩] w0 fun e w' => e = .returned (.string (mk (joinNl (σ.nd i).lines))) ∧ Below w0.heap.size w0 w' := by
    intro w0 hb0
    have ho := own_below hown hb0
    rcases ho.2 with ⟨e, h0⟩ | ⟨g, cap, cur, e, hgB, hg, hle, hm, hs, ht⟩
    · rw [e]
      have hnil : (σ.nd i).lines = [] := List.eq_nil_of_length_eq_zero h0
      rw [hnil]
      refine (Tryz.strings_Join_none none 0 ⟨#[10]⟩ w0).mono ?_
      rintro e1 w1 ⟨rfl, rfl⟩
      exact ⟨rfl, Below.refl _ _⟩
    · rw [e]
      have hj : (((σ.nd i).lines.map mk).map (·.data.toList)) = (σ.nd i).lines := by rw [List.map_map]; exact List.map_id' _ |>.symm ▸ (by simp [Function.comp_def, mk_data])
      have hl2 : ((σ.nd i).lines.map mk).length = (σ.nd i).lines.length := List.length_map ..
      have J := Tryz.strings_Join g 0 cap ((σ.nd i).lines.map mk) ⟨#[10]⟩ w0 (by
        intro j x hx
        rw [List.getElem?_map] at hx
        obtain ⟨y, hy, rfl⟩ := Option.map_eq_some_iff.1 hx
        have hc := ho.cells (g := g) (by rw [e]; rfl) j (strV y) (by rw [List.getElem?_map, hy]; rfl)
        rw [Nat.zero_add]
        have ea : (⟨g, 0, none⟩ : Addr).add j = ⟨g, j, none⟩ := by unfold Addr.add; split <;> simp_all
        rw [ea] at hc; exact hc) (blk_lt hg) (by rw [hl2]; omega) (by rw [hl2]; exact hle) (by rw [hj]; show (joinNl (σ.nd i).lines).length ≤ _; omega)
      rw [hj, hl2] at J
      exact J
  go_enter Tryz.func66, Tryz.ntmps66
  go_wp2_with (first
    | (go_at_call 97; (with_reducible refine (JN _ (Below.refl _ _)).mono ?_); rintro e w1 ⟨rfl, hb1⟩)
    | (go_at_call 96; (with_reducible refine (TR _).mono ?_); rintro e w2 ⟨rfl, hb2⟩))
  go_ret
  exact ⟨rfl, hb1.trans (hb2.mono hb1.size)⟩

theorem results_tmp4 {fn : Func} {t u v x : Tmp} (h : fn.results = #[.tmp t, .tmp u, .tmp v, .tmp x]) (tmps : Array Value) (P : Program) (w : World) :
    (results fn tmps).run P w = .ok (.tuple #[tmps.getD t undef, tmps.getD u undef, tmps.getD v undef, tmps.getD x undef]) w := by
  simp [results, h]
theorem marker_any (t : Bs) (w : World) (ht : t.length ≤ 1000000000) :
    Calls Tryz.prog 85 #[.string (mk t)] w fun e w' => e = .returned (.tuple #[.int .i64 (marker t).1, .int .u8 ((marker t).2.1.toNat : Int), .int .i64 (marker t).2.2.1, .bool (marker t).2.2.2]) ∧ Below w.heap.size w w' := by
  have BU := fun w => bullet_any (mk t) w
  have OR := fun w => ordered_any (mk t) w (by unfold Small; rw [mk_size]; omega)
  rw [mk_data] at BU OR
  by_cases h0 : 0 < Sc.bullet t
  · have d0 : decide ((0 : Int) < (Sc.bullet t : Int)) = true := by rw [decide_eq_true_iff]; omega
    have hm : marker t = (0, t.headD 0, 1, false) := by unfold marker; rw [if_pos h0]
    cases t with
    | nil => simp [Sc.bullet] at h0
    | cons b r =>
      have hsz : 0 < (mk (b :: r)).size := by rw [mk_size]; simp
      have hb0 : (mk (b :: r))[0] = b := rfl
      rw [hm]
      go_enter Tryz.func85, Tryz.ntmps85
      go_wp2_with (first
        | (go_at_call 122; (with_reducible refine (BU _).mono ?_); rintro e w1 ⟨rfl, hb1⟩))
      go_quiet (fail)
      go_wp2
      refine bodyPost_ret (results_tmp4 rfl _ _ _) rfl ?_
      exact ⟨rfl, bdn hb1 _⟩
  · have d0 : decide ((0 : Int) < (Sc.bullet t : Int)) = false := by rw [decide_eq_false_iff_not]; omega
    have hm : marker t = ((Sc.ordered t).1, (Sc.ordered t).2.1, (Sc.ordered t).2.2, decide (0 < (Sc.ordered t).2.2)) := by unfold marker; rw [if_neg h0]
    rw [hm]
    clear hm
    generalize Sc.ordered t = o at *
    go_enter Tryz.func85, Tryz.ntmps85
    go_wp2_with (first
      | (go_at_call 122; (with_reducible refine (BU _).mono ?_); rintro e w1 ⟨rfl, hb1⟩)
      | (go_at_call 123; (with_reducible refine (OR _).mono ?_); rintro e w2 ⟨rfl, hb2⟩))
    refine bodyPost_ret (results_tmp4 rfl _ _ _) rfl ?_
    exact ⟨rfl, hb1.trans (hb2.mono hb1.size)⟩
end Bk
end Go.Proofs.YtehmcahdjldhbaaGreatDoor
end
section
/- Package block: head, where refs.All answers. -/
open Go Go.RowKit
set_option linter.unusedVariables false
set_option linter.unusedSimpArgs false
set_option maxRecDepth 100000
namespace Go.Proofs.YtehmcahdjldhbaaGreatDoor
open Wk
namespace Bk
def refVals (r : Ref) : List Value := [strV r.label, strV r.dest, strV r.title]
def TR : Nat := 65
def RefsPost (F : Bs → List Ref × Bs) (s : Bs) (w : World) (e : Ending) (w' : World) : Prop :=
  ∃ v, e = .returned (.tuple #[v, .string (mk (F s).2)]) ∧ w'.ownsRow w.heap.size TR 3 v (F s).1.length ((F s).1.flatMap refVals) ∧ Below w.heap.size w w'
/-- What is asked of refs.All at a text: that it answers F, and leaves what was there. -/
def RefsC (F : Bs → List Ref × Bs) (s : Bs) : Prop := ∀ w, Env w → Calls Tryz.prog 67 #[.string (mk s)] w (RefsPost F s w)
theorem put_put (σ : St) (i : Nat) (f g : Nd → Nd) : (σ.put i f).put i g = σ.put i fun d => g (f d) := by
  unfold St.put
  congr 1
  funext j
  unfold upd
  by_cases e : j = i <;> simp [e]
/-- What a paragraph that is looked at for definitions must be. -/
structure Asked (F : Bs → List Ref × Bs) (σ : St) : Prop where
  refs : ∀ i, σ.leaf = some i → (σ.nd i).kind = 7 → RefsC F (body (σ.nd i).lines)
  len : ∀ i, σ.leaf = some i → (joinNl (σ.nd i).lines).length ≤ 4000000000

set_option maxHeartbeats 8000000 in
theorem head_any {B : Nat} {w : World} {mb : Nat} {mask : Int} {nb : Nat → Nat} {kv lv : Nat → Value} {ov : Value} {σ : St} {C L : Nat} {F : Bs → List Ref × Bs} (h : MRep B w mb mask nb kv lv ov σ) (hF : Fit C L σ) (hC : C < 1000000000000) (hL : L ≤ 1000000000000) (hA : Asked F σ) (level : Nat) :
    Calls Tryz.prog 82 #[.pointer (some ⟨mb, 0, none⟩), .int .i64 level] w (EntPostB B mb mask (σ.headOk F level) (σ.head F level) w) := by
  have hB := h.mlow
  have AL := all_any h
  have GO := fun w (h : MRep B w mb mask nb kv lv ov σ) => goes_any h hF.leafN
  by_cases hl0 : level = 0
  · subst hl0
    have e1 : σ.headOk F 0 = false := by unfold St.headOk; rw [if_pos rfl]
    have e2 : Hid (σ.head F 0 = σ) := by apply Lib.hid; unfold St.head; rw [e1]; rfl
    rw [e1]
    clear e1
    go_enter Tryz.func82, Tryz.ntmps82
    go_wp2
    go_ret
    exact ⟨nb, kv, lv, ov, rfl, by rw [e2.out]; exact h, Below.refl _ _⟩
  · have d0 : ((level : Int) == 0) = false := by rw [beq_eq_false_iff_ne]; omega
    cases ha : σ.all with
    | false =>
      rw [ha] at AL
      have e1 : σ.headOk F level = false := by unfold St.headOk; rw [if_neg hl0, ha]; rfl
      have e2 : Hid (σ.head F level = σ) := by apply Lib.hid; unfold St.head; rw [e1]; rfl
      rw [e1]
      clear e1
      go_enter Tryz.func82, Tryz.ntmps82
      go_wp2_with (go_at_call 48; (with_reducible refine AL.mono ?_); rintro e w1 ⟨rfl, hb1⟩; have M1 := h.below hb1)
      go_ret
      exact ⟨nb, kv, lv, ov, rfl, by rw [e2.out]; exact M1, hb1.mono hB⟩
    | true =>
      rw [ha] at AL
      cases hg : σ.goes with
      | false =>
        rw [hg] at GO
        have e1 : σ.headOk F level = false := by unfold St.headOk; rw [if_neg hl0, ha, hg]; rfl
        have e2 : Hid (σ.head F level = σ) := by apply Lib.hid; unfold St.head; rw [e1]; rfl
        rw [e1]
        clear e1
        go_enter Tryz.func82, Tryz.ntmps82
        go_wp2_with (first
          | (go_at_call 48; (with_reducible refine AL.mono ?_); rintro e w1 ⟨rfl, hb1⟩; have M1 := h.below hb1)
          | (go_at_call 52; (with_reducible refine (GO _ M1).mono ?_); rintro e w2 ⟨rfl, hb2⟩; have M2 := M1.below hb2))
        go_ret
        exact ⟨nb, kv, lv, ov, rfl, by rw [e2.out]; exact M2, (hb1.mono hB).trans (hb2.mono M1.mlow)⟩
      | true =>
        rw [hg] at GO
        obtain ⟨i, hlf⟩ : ∃ i, σ.leaf = some i := by
          have : σ.leaf.isSome = true := by unfold St.goes at hg; simp at hg; exact hg.1.1
          exact Option.isSome_iff_exists.1 this
        have hk7 : (σ.nd i).kind = 7 := by unfold St.goes St.leafKind at hg; rw [hlf] at hg; simp at hg; exact hg.1
        have hi := hF.leafN i hlf
        have BO := fun w (h : MRep B w mb mask nb kv lv ov σ) => body_any h i hi (by have := hF.linL i hi; omega) (hA.len i hlf)
        have RF := hA.refs i hlf hk7
        have TO := fun w (h : MRep B w mb mask nb kv lv ov σ) => touch_any h i hi hF.par σ.line
        unfold RefsC RefsPost at RF
        cases hr : (F (body (σ.nd i).lines)).2 with
        | nil =>
          have e1 : σ.headOk F level = false := by unfold St.headOk; rw [if_neg hl0, ha, hg, hlf]; simp [hr]
          have e2 : Hid (σ.head F level = σ) := by apply Lib.hid; unfold St.head; rw [e1]; rfl
          have hmk : (mk []).toList = [] := by rw [toList_data]; rfl
          rw [e1]
          rw [hr] at RF
          clear e1
          go_enter Tryz.func82, Tryz.ntmps82
          go_wp2_with (first
            | (go_at_call 48; (with_reducible refine AL.mono ?_); rintro e w1 ⟨rfl, hb1⟩; have M1 := h.below hb1)
            | (go_at_call 52; (with_reducible refine (GO _ M1).mono ?_); rintro e w2 ⟨rfl, hb2⟩; have M2 := M1.below hb2; have c3 := M2.c3_some hlf)
            | (go_at_call 66; (with_reducible refine (BO _ M2).mono ?_); rintro e w3 ⟨rfl, hb3⟩; have M3 := M2.below hb3)
            | (go_at_call 67; (with_reducible refine (RF _ M3.low.env).mono ?_); rintro e w4 ⟨v4, rfl, ho4, hb4⟩; have M4 := M3.below hb4))
          go_ret
          exact ⟨nb, kv, lv, ov, rfl, by rw [e2.out]; exact M4, (((hb1.mono hB).trans (hb2.mono M1.mlow)).trans (hb3.mono M2.mlow)).trans (hb4.mono M3.mlow)⟩
        | cons x r =>
          have e1 : σ.headOk F level = true := by unfold St.headOk; rw [if_neg hl0, ha, hg, hlf]; simp [hr]
          have e2 : Hid (σ.head F level = { (σ.touch i).put i (fun d => { d with kind := 8, N := level, setext := true }) with leaf := none }) := by apply Lib.hid; unfold St.head; rw [e1, hlf]; rfl
          have hmk : ((mk (x :: r)).toList == ([] : List UInt8)) = false := by rw [toList_data]; rfl
          rw [e1]
          rw [hr] at RF
          have S3 : ∀ {w}, MRep B w mb mask nb kv lv ov (σ.touch i) → MRep B ((((w.setCell ⟨nb i, 0, none⟩ (.int .i64 8)).setCell ⟨nb i, 3, none⟩ (.int .i64 level)).setCell ⟨nb i, 16, none⟩ (.bool true)).setCell ⟨mb, 3, none⟩ (.pointer none)) mb mask nb kv lv ov (σ.head F level) := fun h => by
            rw [e2.out]
            have q1 := h.nset hi 0 (natV 8) (fun d => { d with kind := 8 }) rfl rfl rfl
            have q2 := q1.nset hi 3 (natV level) (fun d => { d with N := level }) rfl rfl rfl
            have q3 := q2.nset hi 16 (.bool true) (fun d => { d with setext := true }) rfl rfl rfl
            rw [put_put, put_put] at q3
            exact q3.mset 3 (.pointer none) _ rfl rfl rfl rfl
          clear e1 hr
          go_enter Tryz.func82, Tryz.ntmps82
          go_wp2_with (first
            | (go_at_call 48; (with_reducible refine AL.mono ?_); rintro e w1 ⟨rfl, hb1⟩; have M1 := h.below hb1)
            | (go_at_call 52; (with_reducible refine (GO _ M1).mono ?_); rintro e w2 ⟨rfl, hb2⟩; have M2 := M1.below hb2; have c3 := M2.c3_some hlf)
            | (go_at_call 66; (with_reducible refine (BO _ M2).mono ?_); rintro e w3 ⟨rfl, hb3⟩; have M3 := M2.below hb3)
            | (go_at_call 67; (with_reducible refine (RF _ M3.low.env).mono ?_); rintro e w4 ⟨v4, rfl, ho4, hb4⟩; have M4 := M3.below hb4; have c3' := M4.c3_some hlf; have c4' := M4.c4))
          have TO4 := TO _ M4.drew
          go_region_with ((go_at_call 45; (with_reducible refine TO4.mono ?_); rintro e w5 ⟨rfl, M5, hb5⟩; replace M5 : MRep B w5 mb mask nb kv lv ov (σ.touch i) := M5; have k0 : w5.cell? ⟨nb i, 0, none⟩ = some (.int .i64 ((σ.touch i).nd i).kind) := (M5.ncell hi 0).trans rfl; have k3 : w5.cell? ⟨nb i, 3, none⟩ = some (.int .i64 ((σ.touch i).nd i).N) := (M5.ncell hi 3).trans rfl; have k16 : w5.cell? ⟨nb i, 16, none⟩ = some (.bool ((σ.touch i).nd i).setext) := (M5.ncell hi 16).trans rfl; have hnm := M5.ne hi; have c5 := M5.c3_some (i := i) hlf; have g0 := M5.nfree hi 0; have g3 := M5.nfree hi 3; have g16 := M5.nfree hi 16; have m3 := M5.free 3))
          all_goals go_wp2
          all_goals go_region
          all_goals (try go_wp2)
          all_goals go_ret
          all_goals exact ⟨nb, kv, lv, ov, rfl, (S3 M5).drew, (((((((((hb1.mono hB).trans (hb2.mono M1.mlow)).trans (hb3.mono M2.mlow)).trans (hb4.mono M3.mlow)).trans ((Below.refl B w4).drew.trans hb5)).setCell (p := ⟨nb i, 0, none⟩) (h.rep.base i hi) (.int .i64 8)).setCell (p := ⟨nb i, 3, none⟩) (h.rep.base i hi) (.int .i64 level)).setCell (p := ⟨nb i, 16, none⟩) (h.rep.base i hi) (.bool true)).setCell (p := ⟨mb, 3, none⟩) h.mbase (.pointer none)).drew⟩
end Bk
end Go.Proofs.YtehmcahdjldhbaaGreatDoor
end
