/- Parts of this session's proof, one behind the other: E22 E23 E24. -/
import Derived.Test.YtehmcahdjldhbaaGreatDoorZ20
import Derived.RangeFuncNested
import Derived.RangeFuncBound
import Derived.RangeFuncCalls
import Derived.RangeFuncLeaves
import Derived.Shelf.Abstract
import Derived.WalkKit
import Derived.OwnWalkIn
import Derived.TacticsInMore
import Derived.LoopNIn
import Derived.LoopIn
import Derived.RangeFuncRecord
import Derived.RangeFuncBox
import Derived.Maps.AppendAt
section
/- Package refs: Take. -/
open Go Go.RowKit
set_option linter.unusedVariables false
set_option linter.unusedSimpArgs false
set_option maxRecDepth 100000
namespace Go.Proofs.YtehmcahdjldhbaaGreatDoor
open Wk
namespace Tx
open Bk (Ref refV)
def ref0 : Ref := ⟨[], [], []⟩
section
variable (U : Bs → Bs)
/-- refs.Take behind the label. -/
def take2 (l0 : Nat) (lbl rest : Bs) : Ref × Nat :=
  let g := whiteN rest
  let d := dest U (rest.drop g)
  if d.2.2 = false then (ref0, 0) else
  let rest2 := rest.drop (g + d.2.1)
  let t := titled U rest2
  if t.2.2 = true then (⟨label lbl, d.1, t.1⟩, l0 - rest2.length + t.2.1)
  else if (rend rest2).2 = true then (⟨label lbl, d.1, []⟩, l0 - rest2.length + (rend rest2).1)
  else (ref0, 0)
/-- refs.Take. -/
def take (l : Bs) : Ref × Nat :=
  match l.drop (lab l).2 with
  | [] => (ref0, 0)
  | b :: rest => if (lab l).2 = 0 ∨ b ≠ 58 ∨ rgapB rest = false then (ref0, 0) else take2 U l.length (lab l).1 rest
theorem lab_le (l : Bs) : (lab l).2 ≤ l.length := by
  unfold lab
  split
  · rename_i t
    dsimp only
    have h1 := eachG_le stopL () t
    generalize hk : (eachG stopL () t).1 = k at *
    split
    · rename_i b r hd
      have := congrArg List.length hd
      rw [List.length_drop, List.length_cons] at this
      split
      · exact Nat.zero_le _
      · show k + 2 ≤ _; rw [List.length_cons]; omega
    · exact Nat.zero_le _
  · exact Nat.zero_le _
theorem lab_text (l : Bs) : (lab l).1.length ≤ l.length := by
  unfold lab
  split
  · rename_i t
    dsimp only
    generalize hk : (eachG stopL () t).1 = k at *
    split
    · split
      · exact Nat.zero_le _
      · show (t.take k).length ≤ _; rw [List.length_take, List.length_cons]; omega
    · exact Nat.zero_le _
  · exact Nat.zero_le _
theorem angled_le (t : Bs) : (angled U t).2.1 ≤ t.length + 1 := by
  unfold angled
  dsimp only
  have h1 := eachG_le stopA () t
  generalize hk : (eachG stopA () t).1 = k at *
  split
  · rename_i b r hd
    have := congrArg List.length hd
    rw [List.length_drop, List.length_cons] at this
    split
    · exact Nat.zero_le _
    · show k + 2 ≤ _; omega
  · exact Nat.zero_le _
theorem dest_le (l : Bs) : (dest U l).2.1 ≤ l.length := by
  have h0 : (dest0 U l).2.1 ≤ l.length := by
    unfold dest0
    dsimp only
    split
    · exact Nat.zero_le _
    · exact eachG_le _ _ _
  unfold dest
  split
  · exact h0
  · split
    · exact angled_le U _
    · exact h0
end
end Tx
namespace Bk
theorem blk_alloc' {w : World} {g : Nat} {o : Obj} (h : w.heap[g]? = some o) (o' : Obj) : (w.alloc o').heap[g]? = some o := (Below.heap_alloc w o' g (blk_lt h)).trans h
end Bk
namespace Tx
open Bk (Ref refV)
section
variable (U : Bs → Bs)
theorem rct {P : Program} {fn : Func} {p u : Tmp} {ty : TypeId} (h : fn.results = #[.cell p ty, .tmp u]) (tmps : Array Value) (w : World) (g : Nat) (t : TypeId) (cs : Array Value) (fr : Nat × Nat) (d : TypeDesc)
    (hp : tmps.getD p undef = .pointer (some ⟨g, 0, none⟩)) (hg : w.heap[g]? = some (.cells cs t fr))
    (hu : P.underlying ty = some d) (hd : (match d with | .struct _ | .array _ _ => true | _ => false) = true) (hi : (P.info? ty).map (·.size) = some cs.size) :
    (results fn tmps).run P w = .ok (.tuple #[.agg cs, tmps.getD u undef]) w := by
  have hp' : tmps[p]?.getD undef = .pointer (some ⟨g, 0, none⟩) := by simpa using hp
  simp [results, h, hp', asAddr, run_loadVar_row w g t ty cs fr d hg hu hd hi]
theorem infRf : (Tryz.prog.info? 65).map (·.size) = some 3 := by kernel_rfl
set_option maxHeartbeats 8000000 in
theorem take_any (s : ByteArray) (w : World) (hE : Env w) (hs : s.size ≤ 10000000) (hU : ∀ x, Bk.Suf0 s.data.toList x → UnC U x) :
    Calls Tryz.prog 136 #[.string s] w fun e w' => e = .returned (.tuple #[refV (take U s.data.toList).1, .int .i64 (take U s.data.toList).2]) ∧ Below w.heap.size w w' := by
  have hb0 : Below w.heap.size w (w.alloc (.cells #[.string ⟨#[]⟩, .string ⟨#[]⟩, .string ⟨#[]⟩] 65)) := (Below.refl _ w).alloc (Nat.le_refl _) _
  have LA := fun w' => Label_any s w' (by omega)
  have hll := lab_le s.data.toList
  rw [Sc.len_size] at hll
  have CP := fun w' => Tryz.strings_CutPrefix (s.extract (lab s.data.toList).2 s.size) ⟨#[58]⟩ w'
  rw [Sc.drop_data, show (⟨#[58]⟩ : ByteArray).data.toList = [58] from rfl] at CP
  have hT : Hid (take U s.data.toList = match s.data.toList.drop (lab s.data.toList).2 with
    | [] => (ref0, 0)
    | b :: rest => if (lab s.data.toList).2 = 0 ∨ b ≠ 58 ∨ rgapB rest = false then (ref0, 0) else take2 U s.data.toList.length (lab s.data.toList).1 rest) := Lib.hid rfl
  have hGs : ∀ x : Bs, x.length ≤ s.size → ∀ w', Calls Tryz.prog 159 #[.string (mk x)] w' fun e w'' => e = .returned (.tuple #[.int .i64 (whiteN x), .bool (rgapB x)]) ∧ Below w'.heap.size w' w'' := fun x hx w' => rgap_any (mk x) w' (by rw [mk_size]; omega)
  have hdl : (s.data.toList.drop (lab s.data.toList).2).length ≤ s.size := by rw [List.length_drop, Sc.len_size]; omega
  have hUd : ∀ a k, UnC U (((s.data.toList.drop (lab s.data.toList).2).drop a).take k) := fun a k => hU _ (by rw [List.drop_drop]; exact ⟨_, _, rfl⟩)
  clear hU
  generalize take U s.data.toList = R at *
  rw [Sc.len_size] at hT
  have hlb0 := lab_text s.data.toList
  rw [Sc.len_size] at hlb0
  have hlb : (lab s.data.toList).1.length ≤ 10000000 := by omega
  clear hlb0
  generalize lab s.data.toList = lbn at *
  obtain ⟨lb, ln⟩ := lbn
  dsimp only at *
  have K : ∀ (p : ByteArray) (ok : Bool), p.size ≤ s.size → (∀ w', Calls Tryz.prog 28 #[.string (s.extract ln s.size), .string ⟨#[58]⟩] w' fun e w'_1 => e = .returned (.tuple #[.string p, .bool ok]) ∧ w'_1 = w') → (ln = 0 ∨ ok = false ∨ rgapB p.data.toList = false) →
      Calls Tryz.prog 136 #[.string s] w fun e w' => e = .returned (.tuple #[refV ref0, .int .i64 (0 : Nat)]) ∧ Below w.heap.size w w' := by
    intro p ok hP CP hno
    have GA := fun w' => rgap_any p w' (by omega)
    generalize rgapB p.data.toList = gb at *
    generalize whiteN p.data.toList = gn at *
    have n0 := heap_alloc_new w (.cells #[.string ⟨#[]⟩, .string ⟨#[]⟩, .string ⟨#[]⟩] 65)
    clear hT hUd
    by_cases a1 : ln = 0
    · have e1 : ((ln : Int) == 0) = true := by rw [beq_iff_eq]; omega
      clear hno a1
      go_enter Tryz.func136, Tryz.ntmps136
      go_wp2_with (first
        | (go_at_call 158; (with_reducible refine (LA _).mono ?_); rintro e w1 ⟨rfl, b1⟩; have n1 := Bk.blk_below' n0 b1; have B1 := hb0.trans (b1.mono hb0.size))
        | (go_at_call 28; (with_reducible refine (CP _).mono ?_); rintro e w2 ⟨rfl, rfl⟩)
        | (go_at_call 159; (with_reducible refine (GA _).mono ?_); rintro e w3 ⟨rfl, b3⟩; have n3 := Bk.blk_below' n1 b3; have B3 := B1.trans (b3.mono B1.size); have c0 := (cell_blk n3 0).trans rfl; have f0 := Bk.blk_free n3 0; have c1 := (cell_blk n3 1).trans rfl; have f1 := Bk.blk_free n3 1; have c2 := (cell_blk n3 2).trans rfl; have f2 := Bk.blk_free n3 2))
      have m0 := Bk.blk_set n3 0 (.string ⟨#[]⟩)
      have m1 := Bk.blk_set m0 1 (.string ⟨#[]⟩)
      have m2 := Bk.blk_set m1 2 (.string ⟨#[]⟩)
      refine bodyPost_ret (rct (p := 2) (u := 3) (by kernel_rfl) _ _ w.heap.size 65 #[.string ⟨#[]⟩, .string ⟨#[]⟩, .string ⟨#[]⟩] (0, 0) _ rfl m2 Tryz.underlying65 rfl (by rw [infRf]; rfl)) rfl ?_
      exact ⟨rfl, ((B3.setCell (Nat.le_refl _) _).setCell (Nat.le_refl _) _).setCell (Nat.le_refl _) _⟩
    · have e1 : ((ln : Int) == 0) = false := by rw [beq_eq_false_iff_ne]; omega
      have hno : ok = false ∨ gb = false := hno.resolve_left a1
      clear a1
      cases ok with
      | false =>
        clear hno
        go_enter Tryz.func136, Tryz.ntmps136
        go_wp2_with (first
          | (go_at_call 158; (with_reducible refine (LA _).mono ?_); rintro e w1 ⟨rfl, b1⟩; have n1 := Bk.blk_below' n0 b1; have B1 := hb0.trans (b1.mono hb0.size))
          | (go_at_call 28; (with_reducible refine (CP _).mono ?_); rintro e w2 ⟨rfl, rfl⟩)
          | (go_at_call 159; (with_reducible refine (GA _).mono ?_); rintro e w3 ⟨rfl, b3⟩; have n3 := Bk.blk_below' n1 b3; have B3 := B1.trans (b3.mono B1.size); have c0 := (cell_blk n3 0).trans rfl; have f0 := Bk.blk_free n3 0; have c1 := (cell_blk n3 1).trans rfl; have f1 := Bk.blk_free n3 1; have c2 := (cell_blk n3 2).trans rfl; have f2 := Bk.blk_free n3 2))
        have m0 := Bk.blk_set n3 0 (.string ⟨#[]⟩)
        have m1 := Bk.blk_set m0 1 (.string ⟨#[]⟩)
        have m2 := Bk.blk_set m1 2 (.string ⟨#[]⟩)
        refine bodyPost_ret (rct (p := 2) (u := 3) (by kernel_rfl) _ _ w.heap.size 65 #[.string ⟨#[]⟩, .string ⟨#[]⟩, .string ⟨#[]⟩] (0, 0) _ rfl m2 Tryz.underlying65 rfl (by rw [infRf]; rfl)) rfl ?_
        exact ⟨rfl, ((B3.setCell (Nat.le_refl _) _).setCell (Nat.le_refl _) _).setCell (Nat.le_refl _) _⟩
      | true =>
        have hgb : gb = false := hno.resolve_left (by simp)
        subst hgb
        clear hno
        go_enter Tryz.func136, Tryz.ntmps136
        go_wp2_with (first
          | (go_at_call 158; (with_reducible refine (LA _).mono ?_); rintro e w1 ⟨rfl, b1⟩; have n1 := Bk.blk_below' n0 b1; have B1 := hb0.trans (b1.mono hb0.size))
          | (go_at_call 28; (with_reducible refine (CP _).mono ?_); rintro e w2 ⟨rfl, rfl⟩)
          | (go_at_call 159; (with_reducible refine (GA _).mono ?_); rintro e w3 ⟨rfl, b3⟩; have n3 := Bk.blk_below' n1 b3; have B3 := B1.trans (b3.mono B1.size); have c0 := (cell_blk n3 0).trans rfl; have f0 := Bk.blk_free n3 0; have c1 := (cell_blk n3 1).trans rfl; have f1 := Bk.blk_free n3 1; have c2 := (cell_blk n3 2).trans rfl; have f2 := Bk.blk_free n3 2))
        have m0 := Bk.blk_set n3 0 (.string ⟨#[]⟩)
        have m1 := Bk.blk_set m0 1 (.string ⟨#[]⟩)
        have m2 := Bk.blk_set m1 2 (.string ⟨#[]⟩)
        refine bodyPost_ret (rct (p := 2) (u := 3) (by kernel_rfl) _ _ w.heap.size 65 #[.string ⟨#[]⟩, .string ⟨#[]⟩, .string ⟨#[]⟩] (0, 0) _ rfl m2 Tryz.underlying65 rfl (by rw [infRf]; rfl)) rfl ?_
        exact ⟨rfl, ((B3.setCell (Nat.le_refl _) _).setCell (Nat.le_refl _) _).setCell (Nat.le_refl _) _⟩
  have K2 : ∀ (p : ByteArray), p.size ≤ s.size → (∀ a k, UnC U ((p.data.toList.drop a).take k)) → (∀ w', Calls Tryz.prog 28 #[.string (s.extract ln s.size), .string ⟨#[58]⟩] w' fun e w'_1 => e = .returned (.tuple #[.string p, .bool true]) ∧ w'_1 = w') → ln ≠ 0 → rgapB p.data.toList = true →
      Calls Tryz.prog 136 #[.string s] w fun e w' => e = .returned (.tuple #[refV (take2 U s.size lb p.data.toList).1, .int .i64 (take2 U s.size lb p.data.toList).2]) ∧ Below w.heap.size w w' := by
    intro p hP hUp CP a1 hg
    have GA := fun w' => rgap_any p w' (by omega)
    rw [hg] at GA
    have hgn := whiteN_le p.data.toList
    have hdn := dest_le U (p.data.toList.drop (whiteN p.data.toList))
    rw [List.length_drop] at hdn
    rw [Sc.len_size] at hgn hdn
    have DS := fun wr (hE' : Env wr) => Dest_any U (p.extract (whiteN p.data.toList) p.size) wr hE' (by rw [ByteArray.size_extract]; omega) (by
      rw [Sc.drop_data]
      rintro x ⟨a, k, rfl⟩
      rw [List.drop_drop]
      exact hUp _ _)
    rw [Sc.drop_data] at DS
    have hT2 : Hid (take2 U s.size lb p.data.toList = if (dest U (p.data.toList.drop (whiteN p.data.toList))).2.2 = false then (ref0, 0) else
      if (titled U (p.data.toList.drop (whiteN p.data.toList + (dest U (p.data.toList.drop (whiteN p.data.toList))).2.1))).2.2 = true then (⟨label lb, (dest U (p.data.toList.drop (whiteN p.data.toList))).1, (titled U (p.data.toList.drop (whiteN p.data.toList + (dest U (p.data.toList.drop (whiteN p.data.toList))).2.1))).1⟩, s.size - (p.data.toList.drop (whiteN p.data.toList + (dest U (p.data.toList.drop (whiteN p.data.toList))).2.1)).length + (titled U (p.data.toList.drop (whiteN p.data.toList + (dest U (p.data.toList.drop (whiteN p.data.toList))).2.1))).2.1)
      else if (rend (p.data.toList.drop (whiteN p.data.toList + (dest U (p.data.toList.drop (whiteN p.data.toList))).2.1))).2 = true then (⟨label lb, (dest U (p.data.toList.drop (whiteN p.data.toList))).1, []⟩, s.size - (p.data.toList.drop (whiteN p.data.toList + (dest U (p.data.toList.drop (whiteN p.data.toList))).2.1)).length + (rend (p.data.toList.drop (whiteN p.data.toList + (dest U (p.data.toList.drop (whiteN p.data.toList))).2.1))).1)
      else (ref0, 0)) := Lib.hid rfl
    generalize take2 U s.size lb p.data.toList = R2 at *
    generalize hgnE : whiteN p.data.toList = gn at *
    clear hgnE
    have n0 := heap_alloc_new w (.cells #[.string ⟨#[]⟩, .string ⟨#[]⟩, .string ⟨#[]⟩] 65)
    have e1 : ((ln : Int) == 0) = false := by rw [beq_eq_false_iff_ne]; omega
    generalize hdE : dest U (p.data.toList.drop gn) = D at *
    clear hdE
    obtain ⟨dd, dn, db⟩ := D
    dsimp only at *
    cases db with
    | false =>
      have hT2 := Lib.hid (hT2.out.trans (if_pos rfl))
      rw [hT2.out]
      clear hT2 hT hUd hUp a1 hg
      go_enter Tryz.func136, Tryz.ntmps136
      go_wp2_with (first
        | (go_at_call 158; (with_reducible refine (LA _).mono ?_); rintro e w1 ⟨rfl, b1⟩; have n1 := Bk.blk_below' n0 b1; have B1 := hb0.trans (b1.mono hb0.size))
        | (go_at_call 28; (with_reducible refine (CP _).mono ?_); rintro e w2 ⟨rfl, rfl⟩)
        | (go_at_call 159; (with_reducible refine (GA _).mono ?_); rintro e w3 ⟨rfl, b3⟩; have n3 := Bk.blk_below' n1 b3; have B3 := B1.trans (b3.mono B1.size))
        | (go_at_call 160; (with_reducible refine (DS _ (hE.below B3)).mono ?_); rintro e w4 ⟨rfl, b4⟩; have n4 := Bk.blk_below' n3 b4; have B4 := B3.trans (b4.mono B3.size); have c0 := (cell_blk n4 0).trans rfl; have f0 := Bk.blk_free n4 0; have c1 := (cell_blk n4 1).trans rfl; have f1 := Bk.blk_free n4 1; have c2 := (cell_blk n4 2).trans rfl; have f2 := Bk.blk_free n4 2))
      have m0 := Bk.blk_set n4 0 (.string ⟨#[]⟩)
      have m1 := Bk.blk_set m0 1 (.string ⟨#[]⟩)
      have m2 := Bk.blk_set m1 2 (.string ⟨#[]⟩)
      refine bodyPost_ret (rct (p := 2) (u := 3) (by kernel_rfl) _ _ w.heap.size 65 #[.string ⟨#[]⟩, .string ⟨#[]⟩, .string ⟨#[]⟩] (0, 0) _ rfl m2 Tryz.underlying65 rfl (by rw [infRf]; rfl)) rfl ?_
      exact ⟨rfl, ((B4.setCell (Nat.le_refl _) _).setCell (Nat.le_refl _) _).setCell (Nat.le_refl _) _⟩
    | true =>
      have hT2 := Lib.hid (hT2.out.trans (if_neg (by simp)))
      have CL := fun wr (hE' : Env wr) => ClassLabel_any lb wr hE' hlb
      have hq2 : (p.extract (gn + dn) p.size).size = p.size - (gn + dn) := by rw [ByteArray.size_extract]; omega
      have TI := fun wr (hE' : Env wr) => titled_any U (p.extract (gn + dn) p.size) wr hE' (by omega) (by
        rw [Sc.drop_data]
        rintro x ⟨a, k, rfl⟩
        rw [List.drop_drop]
        exact hUp _ _)
      have RE := fun wr => rend_any (p.extract (gn + dn) p.size) wr (by omega)
      have htn := titled_le U (p.data.toList.drop (gn + dn))
      have hrn := rend_le (p.data.toList.drop (gn + dn))
      have hdl2 : (p.data.toList.drop (gn + dn)).length = p.size - (gn + dn) := by rw [List.length_drop, Sc.len_size]
      rw [Sc.drop_data] at TI RE
      rw [hdl2] at htn hrn hT2
      generalize titled U (p.data.toList.drop (gn + dn)) = T at *
      generalize rend (p.data.toList.drop (gn + dn)) = E at *
      obtain ⟨tt, tn, tb⟩ := T
      obtain ⟨en, eb⟩ := E
      dsimp only at *
      generalize label lb = LB at *
      clear hUp hUd hT hdl2 hg
      cases tb with
      | true =>
        have hT2 := Lib.hid (hT2.out.trans (if_pos rfl))
        rw [hT2.out]
        clear hT2 RE hrn
        go_enter Tryz.func136, Tryz.ntmps136
        go_wp2_with (first
          | (go_at_call 158; (with_reducible refine (LA _).mono ?_); rintro e w1 ⟨rfl, b1⟩; have n1 := Bk.blk_below' n0 b1; have B1 := hb0.trans (b1.mono hb0.size))
          | (go_at_call 28; (with_reducible refine (CP _).mono ?_); rintro e w2 ⟨rfl, rfl⟩)
          | (go_at_call 159; (with_reducible refine (GA _).mono ?_); rintro e w3 ⟨rfl, b3⟩; have n3 := Bk.blk_below' n1 b3; have B3 := B1.trans (b3.mono B1.size))
          | (go_at_call 160; (with_reducible refine (DS _ (hE.below B3)).mono ?_); rintro e w4 ⟨rfl, b4⟩; have n4 := Bk.blk_below' n3 b4; have B4 := B3.trans (b4.mono B3.size))
          | (go_at_call 161; (with_reducible refine (CL _ (hE.below B4)).mono ?_); rintro e w5 ⟨rfl, b5⟩; have n5 := Bk.blk_below' n4 b5; have B5 := B4.trans (b5.mono B4.size); have r5 := heap_alloc_new w5 (.cells #[.string (mk LB), .string (mk dd), .string ⟨#[]⟩] 65); have n6 := Bk.blk_alloc' n5 (.cells #[.string (mk LB), .string (mk dd), .string ⟨#[]⟩] 65); have B6 := B5.alloc B5.size (.cells #[.string (mk LB), .string (mk dd), .string ⟨#[]⟩] 65); have hlt : Hid (w.heap.size ≠ w5.heap.size) := Lib.hid (Nat.ne_of_lt (Bk.blk_lt n5)))
          | (go_at_call 162; (with_reducible refine (TI _ (hE.below B6)).mono ?_); rintro e w7 ⟨rfl, b7⟩; have n7 := Bk.blk_below' n6 b7; have r7 := Bk.blk_below' r5 b7; have B7 := B6.trans (b7.mono B6.size); have hl1 := hlt.out; have hl2 := hl1.symm; have c0 := (cell_blk n7 0).trans rfl; have f0 := Bk.blk_free n7 0; have c1 := (cell_blk n7 1).trans rfl; have f1 := Bk.blk_free n7 1; have c2 := (cell_blk n7 2).trans rfl; have f2 := Bk.blk_free n7 2; have d0 := (cell_blk r7 0).trans rfl; have g0 := Bk.blk_free r7 0; have d1 := (cell_blk r7 1).trans rfl; have g1 := Bk.blk_free r7 1; have d2 := (cell_blk r7 2).trans rfl; have g2 := Bk.blk_free r7 2))
        have k7 := Bk.blk_far n7 (p := ⟨w5.heap.size, 2, none⟩) hlt.out (.string (mk tt))
        have m0 := Bk.blk_set k7 0 (.string (mk LB))
        have m1 := Bk.blk_set m0 1 (.string (mk dd))
        have m2 := Bk.blk_set m1 2 (.string (mk tt))
        refine bodyPost_ret (rct (p := 2) (u := 3) (by kernel_rfl) _ _ w.heap.size 65 #[.string (mk LB), .string (mk dd), .string (mk tt)] (0, 0) _ rfl m2 Tryz.underlying65 rfl (by rw [infRf]; rfl)) rfl ?_
        refine ⟨?_, (((B7.setCell B5.size _).setCell (Nat.le_refl _) _).setCell (Nat.le_refl _) _).setCell (Nat.le_refl _) _⟩
        show Ending.returned (.tuple #[_, .int .i64 ((s.size : Int) - ((p.size - (gn + dn) : Nat) : Int) + tn)]) = _
        rw [show (s.size : Int) - ((p.size - (gn + dn) : Nat) : Int) + tn = ((s.size - (p.size - (gn + dn)) + tn : Nat) : Int) from by omega]
        rfl
      | false =>
        have hT2 := Lib.hid (hT2.out.trans (if_neg (by simp)))
        cases eb with
        | true =>
          have hT2 := Lib.hid (hT2.out.trans (if_pos rfl))
          rw [hT2.out]
          clear hT2
          go_enter Tryz.func136, Tryz.ntmps136
          go_wp2_with (first
            | (go_at_call 158; (with_reducible refine (LA _).mono ?_); rintro e w1 ⟨rfl, b1⟩; have n1 := Bk.blk_below' n0 b1; have B1 := hb0.trans (b1.mono hb0.size))
            | (go_at_call 28; (with_reducible refine (CP _).mono ?_); rintro e w2 ⟨rfl, rfl⟩)
            | (go_at_call 159; (with_reducible refine (GA _).mono ?_); rintro e w3 ⟨rfl, b3⟩; have n3 := Bk.blk_below' n1 b3; have B3 := B1.trans (b3.mono B1.size))
            | (go_at_call 160; (with_reducible refine (DS _ (hE.below B3)).mono ?_); rintro e w4 ⟨rfl, b4⟩; have n4 := Bk.blk_below' n3 b4; have B4 := B3.trans (b4.mono B3.size))
            | (go_at_call 161; (with_reducible refine (CL _ (hE.below B4)).mono ?_); rintro e w5 ⟨rfl, b5⟩; have n5 := Bk.blk_below' n4 b5; have B5 := B4.trans (b5.mono B4.size); have r5 := heap_alloc_new w5 (.cells #[.string (mk LB), .string (mk dd), .string ⟨#[]⟩] 65); have n6 := Bk.blk_alloc' n5 (.cells #[.string (mk LB), .string (mk dd), .string ⟨#[]⟩] 65); have B6 := B5.alloc B5.size (.cells #[.string (mk LB), .string (mk dd), .string ⟨#[]⟩] 65); have hlt : Hid (w.heap.size ≠ w5.heap.size) := Lib.hid (Nat.ne_of_lt (Bk.blk_lt n5)))
            | (go_at_call 162; (with_reducible refine (TI _ (hE.below B6)).mono ?_); rintro e w7 ⟨rfl, b7⟩; have n7 := Bk.blk_below' n6 b7; have r7 := Bk.blk_below' r5 b7; have B7 := B6.trans (b7.mono B6.size))
            | (go_at_call 163; (with_reducible refine (RE _).mono ?_); rintro e w8 ⟨rfl, b8⟩; have n8 := Bk.blk_below' n7 b8; have r8 := Bk.blk_below' r7 b8; have B8 := B7.trans (b8.mono B7.size); have hl1 := hlt.out; have hl2 := hl1.symm; have c0 := (cell_blk n8 0).trans rfl; have f0 := Bk.blk_free n8 0; have c1 := (cell_blk n8 1).trans rfl; have f1 := Bk.blk_free n8 1; have c2 := (cell_blk n8 2).trans rfl; have f2 := Bk.blk_free n8 2; have d0 := (cell_blk r8 0).trans rfl; have g0 := Bk.blk_free r8 0; have d1 := (cell_blk r8 1).trans rfl; have g1 := Bk.blk_free r8 1; have d2 := (cell_blk r8 2).trans rfl; have g2 := Bk.blk_free r8 2))
          have m0 := Bk.blk_set n8 0 (.string (mk LB))
          have m1 := Bk.blk_set m0 1 (.string (mk dd))
          have m2 := Bk.blk_set m1 2 (.string ⟨#[]⟩)
          refine bodyPost_ret (rct (p := 2) (u := 3) (by kernel_rfl) _ _ w.heap.size 65 #[.string (mk LB), .string (mk dd), .string ⟨#[]⟩] (0, 0) _ rfl m2 Tryz.underlying65 rfl (by rw [infRf]; rfl)) rfl ?_
          refine ⟨?_, ((B8.setCell (Nat.le_refl _) _).setCell (Nat.le_refl _) _).setCell (Nat.le_refl _) _⟩
          show Ending.returned (.tuple #[_, .int .i64 ((s.size : Int) - ((p.size - (gn + dn) : Nat) : Int) + en)]) = _
          rw [show (s.size : Int) - ((p.size - (gn + dn) : Nat) : Int) + en = ((s.size - (p.size - (gn + dn)) + en : Nat) : Int) from by omega]
          rfl
        | false =>
          have hT2 := Lib.hid (hT2.out.trans (if_neg (by simp)))
          rw [hT2.out]
          clear hT2
          go_enter Tryz.func136, Tryz.ntmps136
          go_wp2_with (first
            | (go_at_call 158; (with_reducible refine (LA _).mono ?_); rintro e w1 ⟨rfl, b1⟩; have n1 := Bk.blk_below' n0 b1; have B1 := hb0.trans (b1.mono hb0.size))
            | (go_at_call 28; (with_reducible refine (CP _).mono ?_); rintro e w2 ⟨rfl, rfl⟩)
            | (go_at_call 159; (with_reducible refine (GA _).mono ?_); rintro e w3 ⟨rfl, b3⟩; have n3 := Bk.blk_below' n1 b3; have B3 := B1.trans (b3.mono B1.size))
            | (go_at_call 160; (with_reducible refine (DS _ (hE.below B3)).mono ?_); rintro e w4 ⟨rfl, b4⟩; have n4 := Bk.blk_below' n3 b4; have B4 := B3.trans (b4.mono B3.size))
            | (go_at_call 161; (with_reducible refine (CL _ (hE.below B4)).mono ?_); rintro e w5 ⟨rfl, b5⟩; have n5 := Bk.blk_below' n4 b5; have B5 := B4.trans (b5.mono B4.size); have r5 := heap_alloc_new w5 (.cells #[.string (mk LB), .string (mk dd), .string ⟨#[]⟩] 65); have n6 := Bk.blk_alloc' n5 (.cells #[.string (mk LB), .string (mk dd), .string ⟨#[]⟩] 65); have B6 := B5.alloc B5.size (.cells #[.string (mk LB), .string (mk dd), .string ⟨#[]⟩] 65); have hlt : Hid (w.heap.size ≠ w5.heap.size) := Lib.hid (Nat.ne_of_lt (Bk.blk_lt n5)))
            | (go_at_call 162; (with_reducible refine (TI _ (hE.below B6)).mono ?_); rintro e w7 ⟨rfl, b7⟩; have n7 := Bk.blk_below' n6 b7; have r7 := Bk.blk_below' r5 b7; have B7 := B6.trans (b7.mono B6.size))
            | (go_at_call 163; (with_reducible refine (RE _).mono ?_); rintro e w8 ⟨rfl, b8⟩; have n8 := Bk.blk_below' n7 b8; have r8 := Bk.blk_below' r7 b8; have B8 := B7.trans (b8.mono B7.size); have c0 := (cell_blk n8 0).trans rfl; have f0 := Bk.blk_free n8 0; have c1 := (cell_blk n8 1).trans rfl; have f1 := Bk.blk_free n8 1; have c2 := (cell_blk n8 2).trans rfl; have f2 := Bk.blk_free n8 2))
          have m0 := Bk.blk_set n8 0 (.string ⟨#[]⟩)
          have m1 := Bk.blk_set m0 1 (.string ⟨#[]⟩)
          have m2 := Bk.blk_set m1 2 (.string ⟨#[]⟩)
          refine bodyPost_ret (rct (p := 2) (u := 3) (by kernel_rfl) _ _ w.heap.size 65 #[.string ⟨#[]⟩, .string ⟨#[]⟩, .string ⟨#[]⟩] (0, 0) _ rfl m2 Tryz.underlying65 rfl (by rw [infRf]; rfl)) rfl ?_
          exact ⟨rfl, ((B8.setCell (Nat.le_refl _) _).setCell (Nat.le_refl _) _).setCell (Nat.le_refl _) _⟩
  have hsz2 : (s.data.toList.drop ln).length ≤ s.size := hdl
  generalize hx : s.data.toList.drop ln = x at *
  cases x with
  | nil =>
    have hT := Lib.hid hT.out
    rw [hT.out]
    refine K (mk []) false (Nat.zero_le _) (fun w' => ?_) (.inr (.inl rfl))
    exact CP w'
  | cons b t =>
    rw [List.length_cons] at hsz2
    by_cases q : b = 58
    · subst q
      have e1 : Lib.hasPrefix (58 :: t) [58] = true := by unfold Lib.hasPrefix; simp [List.isPrefixOf]
      have e2 : Lib.trimPrefix (58 :: t) [58] = t := by unfold Lib.trimPrefix; rw [e1]; rfl
      rw [e1, e2] at CP
      by_cases q2 : ln = 0 ∨ rgapB t = false
      · have hT := Lib.hid (hT.out.trans (if_pos (by rcases q2 with q2 | q2; exact .inl q2; exact .inr (.inr q2))))
        rw [hT.out]
        exact K (mk t) true (by rw [mk_size]; omega) CP (by rcases q2 with q2 | q2; exact .inl q2; exact .inr (.inr q2))
      · have hT := Lib.hid (hT.out.trans (if_neg (by rintro (h | h | h); exact q2 (.inl h); exact h rfl; exact q2 (.inr h))))
        rw [hT.out]
        refine K2 (mk t) (by rw [mk_size]; omega) ?_ CP (fun h => q2 (.inl h)) (by
          cases h : rgapB t with
          | true => exact h
          | false => exact absurd (.inr h) q2)
        intro a k
        have := hUd (a + 1) k
        rwa [List.drop_succ_cons] at this
    · have hT := Lib.hid (hT.out.trans (if_pos (.inr (.inl q))))
      rw [hT.out]
      have e1 : Lib.hasPrefix (b :: t) [58] = false := by unfold Lib.hasPrefix; simp [List.isPrefixOf]; exact fun e => q e.symm
      rw [e1] at CP
      exact K _ false (by
        unfold Lib.trimPrefix; rw [e1]
        show (mk (b :: t)).size ≤ _
        rw [mk_size, List.length_cons]; exact hsz2) CP (.inr (.inl rfl))
end
end Tx
end Go.Proofs.YtehmcahdjldhbaaGreatDoor
end
section
/- Package refs: each$1, the iterator. -/
open Go Go.RowKit
set_option linter.unusedVariables false
set_option linter.unusedSimpArgs false
set_option maxRecDepth 100000
namespace Go.Proofs.YtehmcahdjldhbaaGreatDoor
open Wk
namespace Tx
open Bk (Ref refV strV)
attribute [local go_sem] Oper.semAt_some
section
variable (U : Bs → Bs)
/-- refs.All. -/
def allN : Nat → Bs → List Ref × Bs
  | 0, s => ([], s)
  | n + 1, s => if (take U s).2 = 0 then ([], s) else ((take U s).1 :: (allN n (s.drop (take U s).2)).1, (allN n (s.drop (take U s).2)).2)
def allR (s : Bs) : List Ref × Bs := allN U s.length s
theorem take_le (l : Bs) : (take U l).2 ≤ l.length := by
  unfold take
  split
  · exact Nat.zero_le _
  · rename_i b rest hd
    have h0 := congrArg List.length hd
    rw [List.length_drop, List.length_cons] at h0
    split
    · exact Nat.zero_le _
    · unfold take2
      dsimp only
      split
      · exact Nat.zero_le _
      · have h1 := titled_le U (rest.drop (whiteN rest + (dest U (rest.drop (whiteN rest))).2.1))
        have h2 := rend_le (rest.drop (whiteN rest + (dest U (rest.drop (whiteN rest))).2.1))
        have h3 : (rest.drop (whiteN rest + (dest U (rest.drop (whiteN rest))).2.1)).length ≤ rest.length := by rw [List.length_drop]; omega
        split
        · show _ - _ + _ ≤ _; omega
        · split
          · show _ - _ + _ ≤ _; omega
          · exact Nat.zero_le _
theorem allN_more : ∀ (k : Nat) (s : Bs), s.length ≤ k → allN U (k + 1) s = allN U k s
  | 0, s, h => by
    have hl := take_le U s
    have e : (take U s).2 = 0 := by omega
    unfold allN; rw [if_pos e]
  | k + 1, s, h => by
    have e1 : allN U (k + 1 + 1) s = if (take U s).2 = 0 then ([], s) else ((take U s).1 :: (allN U (k + 1) (s.drop (take U s).2)).1, (allN U (k + 1) (s.drop (take U s).2)).2) := rfl
    have e2 : allN U (k + 1) s = if (take U s).2 = 0 then ([], s) else ((take U s).1 :: (allN U k (s.drop (take U s).2)).1, (allN U k (s.drop (take U s).2)).2) := rfl
    rw [e1, e2]
    split
    · rfl
    · rw [allN_more k _ (by rw [List.length_drop]; omega)]
theorem allN_all (s : Bs) : ∀ k, s.length ≤ k → allN U k s = allR U s := by
  intro k hk
  obtain ⟨d, rfl⟩ : ∃ d, k = s.length + d := ⟨k - s.length, by omega⟩
  induction d with
  | zero => rfl
  | succ d ih => rw [← Nat.add_assoc, allN_more U _ s (by omega), ih (by omega)]
theorem allR_end (s : Bs) (h : (take U s).2 = 0) : allR U s = ([], s) := by
  rw [← allN_all U s (s.length + 1) (by omega), allN, if_pos h]
theorem allR_step (s : Bs) (h : (take U s).2 ≠ 0) : allR U s = ((take U s).1 :: (allR U (s.drop (take U s).2)).1, (allR U (s.drop (take U s).2)).2) := by
  rw [← allN_all U s (s.length + 1) (by omega), allN, if_neg h, allN_all U _ _ (by rw [List.length_drop]; omega)]
theorem allN_few : ∀ (k : Nat) (s : Bs), (allN U k s).1.length ≤ s.length
  | 0, s => Nat.zero_le _
  | k + 1, s => by
    unfold allN
    split
    · exact Nat.zero_le _
    · have h1 := allN_few k (s.drop (take U s).2)
      have h2 := take_le U s
      rw [List.length_drop] at h1
      rw [List.length_cons]; omega
theorem allR_few (s : Bs) : (allR U s).1.length ≤ s.length := allN_few U _ _
theorem set_size (w : World) (a : Addr) (v : Value) : (w.setCell a v).heap.size = w.heap.size := by unfold World.setCell; simp
def leftAt (be : Nat) (W : World) : Nat := match W.cell? ⟨be, 0, none⟩ with | some (.string s) => s.size | _ => 0
set_option maxHeartbeats 8000000 in
theorem iter_in (s : Bs) (hs : s.length ≤ 1000000) (m n l be : Nat) (J : List Ref → Bs → World → Prop)
    (hn : 1 ≤ n)
    (hE : ∀ rs c W, J rs c W → Env W)
    (hJ1 : ∀ rs c W W', J rs c W → Below W.heap.size W W' → J rs c W')
    (hJ2 : ∀ rs c W v x, W.heap[be]? = some (.cells #[x] 9 (0, 0)) → J rs c W → J rs c (W.setCell ⟨be, 0, none⟩ v))
    (hU : ∀ k x, Bk.Suf0 (s.drop k) x → UnC U x)
    (hY : ∀ rs c r c' W, J rs c W → rs.length ≤ 1000000 → W.heap[be]? = some (.cells #[strV c'] 9 (0, 0)) → YieldAt Fence.wide (n - 1) Tryz.prog l #[refV r, strV c'] W fun e W' => e = .returned (.bool true) ∧ J (rs ++ [r]) c' W' ∧ W'.heap[be]? = W.heap[be]?)
    (W : World) (hbe : W.heap[be]? = some (.cells #[strV s] 9 (0, 0))) (h0 : J [] s W) :
    CallsIn Fence.wide n Tryz.prog 135 #[.func (.yield l) #[] #[], .pointer (some ⟨be, 0, none⟩)] W fun e W' => (∃ v, e = .returned v) ∧ J (allR U s).1 (allR U s).2 W' := by
  refine callsIn_of_wp Tryz.func135 rfl trivial ?_ rfl
  simp only [Tryz.ntmps135, List.size_toArray, List.length_cons, List.length_nil, Nat.reduceAdd, Nat.reduceSub, Array.replicate_succ, Array.replicate_zero, List.push_toArray, List.append_toArray, List.nil_append, List.cons_append]
  have hR0 : Hid (allR U s = allR U s) := Lib.hid rfl
  generalize hR : allR U s = R at *
  gi_wp2
  gi_loopw [] (fun wr => ∃ (k : Nat) (rs : List Ref), k ≤ s.length ∧ rs.length ≤ k ∧ wr.heap[be]? = some (.cells #[strV (s.drop k)] 9 (0, 0)) ∧ J rs (s.drop k) wr ∧ Hid (R = (rs ++ (allR U (s.drop k)).1, (allR U (s.drop k)).2)))
    (fun wr => leftAt be wr)
  case atStart => exact ⟨0, [], Nat.zero_le _, Nat.zero_le _, hbe, h0, Lib.hid (by rw [List.drop_zero, hR]; rfl)⟩
  case round =>
    obtain ⟨k, rs, hk, hrk, hc, hJ, hA⟩ := hrel
    have TK := take_any U (mk (s.drop k)) wr (hE _ _ _ hJ) (by rw [mk_size, List.length_drop]; omega) (hU k)
    rw [mk_data] at TK
    have htl := take_le U (s.drop k)
    have hend := allR_end U (s.drop k)
    have hst := allR_step U (s.drop k)
    rw [List.length_drop] at htl
    have hex : (mk (s.drop k)).extract (take U (s.drop k)).2 (mk (s.drop k)).size = mk (s.drop (k + (take U (s.drop k)).2)) := by
      rw [ext_drop, mk_data, List.drop_drop]
    rw [List.drop_drop] at hst
    generalize take U (s.drop k) = T at *
    obtain ⟨⟨lb, dd, tt⟩, n'⟩ := T
    dsimp only at *
    have hYr := fun W h1 h2 h3 => hY rs (s.drop k) ⟨lb, dd, tt⟩ (s.drop (k + n')) W h1 h2 h3
    unfold refV strV at TK hYr
    dsimp only at TK hYr
    unfold strV at hc
    have cb : wr.cell? ⟨be, 0, none⟩ = some (.string (mk (s.drop k))) := (cell_blk hc 0).trans rfl
    have hsz : n' ≤ (mk (s.drop k)).size := by rw [mk_size, List.length_drop]; exact htl
    clear hR0 hbe h0
    by_cases hn' : n' = 0
    · have hend2 := Lib.hid (hend hn')
      clear hend
      subst hn'
      have hex : (mk (s.drop k)).extract 0 (mk (s.drop k)).size = mk (s.drop k) := hex
      clear hst hYr
      gi_wp2_with (refine ⟨trivial, ?_⟩; gi_at_call 136; refine ((callsIn_wide (n := n - 1)).2 TK).mono ?_; rintro e w1 ⟨rfl, b1⟩; have c1 := Bk.blk_below' hc b1; have c2 := Bk.blk_alloc' c1 (.cells #[.string (mk lb), .string (mk dd), .string (mk tt)] 65); have d2 : (w1.alloc (.cells #[.string (mk lb), .string (mk dd), .string (mk tt)] 65)).cell? ⟨be, 0, none⟩ = some (.string (mk (s.drop k))) := (cell_blk c2 0).trans rfl; have f2 := Bk.blk_free c2 0; have hlt := Bk.blk_lt c1; have hne := Nat.ne_of_lt hlt; have hne2 := hne.symm; have k1 : (w1.setCell ⟨be, 0, none⟩ (.string (mk (s.drop k)))).heap[be]? = some (.cells #[.string (mk (s.drop k))] 9 (0, 0)) := Bk.blk_set c1 0 (.string (mk (s.drop k))); have c3 := Bk.blk_alloc' k1 (.cells #[.string (mk lb), .string (mk dd), .string (mk tt)] 65); have d3 : ((w1.setCell ⟨be, 0, none⟩ (.string (mk (s.drop k)))).alloc (.cells #[.string (mk lb), .string (mk dd), .string (mk tt)] 65)).cell? ⟨be, 0, none⟩ = some (.string (mk (s.drop k))) := (cell_blk c3 0).trans rfl; have hJ3 := hJ1 _ _ _ ((w1.setCell ⟨be, 0, none⟩ (.string (mk (s.drop k)))).alloc (.cells #[.string (mk lb), .string (mk dd), .string (mk tt)] 65)) (hJ2 _ _ _ (.string (mk (s.drop k))) _ c1 (hJ1 _ _ _ w1 hJ b1)) ((Below.refl _ _).alloc (Nat.le_refl _) _))
      all_goals
        refine ⟨fun _ h => (by cases h), ?_⟩
        gi_wp2
        refine bodyPost_ret (results_none rfl _ _ _) rfl ?_
        refine ⟨⟨_, rfl⟩, ?_⟩
        rw [hA.out, hend2.out]
        show J (rs ++ []) (s.drop k) _
        rw [List.append_nil]
        exact hJ3
    · have e1 : ((n' : Int) == 0) = false := by rw [beq_eq_false_iff_ne]; omega
      have hst := Lib.hid (hst hn')
      have hle : Hid (k + n' ≤ s.length) := by apply Lib.hid; omega
      have hpos := Lib.hid hn'
      clear hend hn'
      gi_wp2_with (refine ⟨trivial, ?_⟩; gi_at_call 136; refine ((callsIn_wide (n := n - 1)).2 TK).mono ?_; rintro e w1 ⟨rfl, b1⟩; have c1 := Bk.blk_below' hc b1; have c2 := Bk.blk_alloc' c1 (.cells #[.string (mk lb), .string (mk dd), .string (mk tt)] 65); have d2 : (w1.alloc (.cells #[.string (mk lb), .string (mk dd), .string (mk tt)] 65)).cell? ⟨be, 0, none⟩ = some (.string (mk (s.drop k))) := (cell_blk c2 0).trans rfl; have f2 := Bk.blk_free c2 0; have hlt := Bk.blk_lt c1; have hne := Nat.ne_of_lt hlt; have hne2 := hne.symm; have k1 : (w1.setCell ⟨be, 0, none⟩ (.string (mk (s.drop (k + n'))))).heap[be]? = some (.cells #[.string (mk (s.drop (k + n')))] 9 (0, 0)) := Bk.blk_set c1 0 (.string (mk (s.drop (k + n')))); have c3 := Bk.blk_alloc' k1 (.cells #[.string (mk lb), .string (mk dd), .string (mk tt)] 65); have d3 : ((w1.setCell ⟨be, 0, none⟩ (.string (mk (s.drop (k + n'))))).alloc (.cells #[.string (mk lb), .string (mk dd), .string (mk tt)] 65)).cell? ⟨be, 0, none⟩ = some (.string (mk (s.drop (k + n')))) := (cell_blk c3 0).trans rfl; have hJ3 := hJ1 _ _ _ ((w1.setCell ⟨be, 0, none⟩ (.string (mk (s.drop (k + n'))))).alloc (.cells #[.string (mk lb), .string (mk dd), .string (mk tt)] 65)) (hJ2 _ _ _ (.string (mk (s.drop (k + n')))) _ c1 (hJ1 _ _ _ w1 hJ b1)) ((Below.refl _ _).alloc (Nat.le_refl _) _); have r3 : ((w1.setCell ⟨be, 0, none⟩ (.string (mk (s.drop (k + n'))))).alloc (.cells #[.string (mk lb), .string (mk dd), .string (mk tt)] 65)).heap[w1.heap.size]? = some (.cells #[.string (mk lb), .string (mk dd), .string (mk tt)] 65) := (by have hh := heap_alloc_new (w1.setCell ⟨be, 0, none⟩ (.string (mk (s.drop (k + n'))))) (.cells #[.string (mk lb), .string (mk dd), .string (mk tt)] 65); rwa [set_size] at hh); have q0 := (cell_blk r3 0).trans rfl; have q1 := (cell_blk r3 1).trans rfl; have q2 := (cell_blk r3 2).trans rfl; obtain ⟨fn, tmps, assign, body, hy, hRd⟩ := hYr _ hJ3 (by omega) c3)
      refine hRd.mono ?_
      rintro e W3 ⟨rfl, hJ4, hk3⟩
      rw [c3] at hk3
      gi_wp2
      go_roundw
      case rel => exact ⟨k + n', rs ++ [⟨lb, dd, tt⟩], hle.out, by rw [List.length_append]; show rs.length + 1 ≤ _; have := hpos.out; omega, hk3, hJ4, Lib.hid (by rw [hA.out, hst.out, List.append_assoc]; rfl)⟩
      case measure =>
        have h1 : leftAt be W3 = s.length - (k + n') := by
          unfold leftAt
          rw [show W3.cell? ⟨be, 0, none⟩ = some (.string (mk (s.drop (k + n')))) from (cell_blk hk3 0).trans rfl]
          show (mk (s.drop (k + n'))).size = _
          rw [mk_size, List.length_drop]
        have h2 : leftAt be wr = s.length - k := by
          unfold leftAt
          rw [cb]
          show (mk (s.drop k)).size = _
          rw [mk_size, List.length_drop]
        have := hpos.out; have := hle.out
        rw [h1, h2]; omega
end
end Tx
end Go.Proofs.YtehmcahdjldhbaaGreatDoor
end
section
/- Package refs: each, All. -/
open Go Go.RowKit
set_option linter.unusedVariables false
set_option linter.unusedSimpArgs false
set_option maxRecDepth 100000
namespace Go.Proofs.YtehmcahdjldhbaaGreatDoor
open Wk
namespace Tx
open Bk (Ref refV strV refVals TR)
attribute [local go_sem] Oper.semAt_some
theorem each_any (s : ByteArray) (w : World) :
    Calls Tryz.prog 98 #[.string s] w fun e w' => e = .returned (.func (.func 135) #[] #[.pointer (some ⟨w.heap.size, 0, none⟩)]) ∧ w' = w.alloc (.cells #[.string s] 9) := by
  go_enter Tryz.func98, Tryz.ntmps98
  go_wp2
  go_ret
  exact ⟨rfl, rfl⟩
structure Mid (w : World) (b1 b4 l D : Nat) (rec : Loop) (rs : List Ref) (cur : Bs) (W : World) : Prop where
  c1 : W.heap[b1]? = some (.cells #[.string (mk cur)] 9 (0, 0))
  c4 : ∃ v, W.heap[b4]? = some (.cells #[v] 26 (0, 0)) ∧ W.ownsRow w.heap.size TR 3 v rs.length (rs.flatMap refVals)
  hl : W.heap[l]? = some (.loop rec)
  hD : W.heap[D]? = some (.deferred (some []))
  bel : Below w.heap.size w W
theorem Mid.below {w : World} {b1 b4 l D : Nat} {rec : Loop} {rs : List Ref} {cur : Bs} {W W' : World} (h : Mid w b1 b4 l D rec rs cur W) (hb : Below W.heap.size W W') : Mid w b1 b4 l D rec rs cur W' := by
  obtain ⟨v, h4, ho⟩ := h.c4
  exact ⟨Bk.blk_below' h.c1 hb, ⟨v, Bk.blk_below' h4 hb, Bk.own_below ho hb⟩, Bk.blk_below' h.hl hb, Bk.blk_below' h.hD hb, h.bel.trans (hb.mono h.bel.size)⟩
theorem put_below {B : Nat} {w W : World} (h : Below B w W) {l : Nat} (hl : B ≤ l) (o : Obj) : Below B w (W.putObj l o) :=
  ⟨h.os, h.tape, h.output, by rw [World.putObj_size]; exact h.size, fun k hk => (World.putObj_heap_other (by omega)).trans (h.block k hk)⟩
theorem own_other {w w' : World} {B e size n : Nat} {v : Value} {xs : List Value} (h : w.ownsRow B e size v n xs) (hk : ∀ (g : Nat) (cs : Array Value), w.heap[g]? = some (Obj.cells cs e (0, 0)) → w'.heap[g]? = w.heap[g]?) : w'.ownsRow B e size v n xs := by
  refine ⟨h.1, ?_⟩
  rcases h.2 with ⟨rfl, h0⟩ | ⟨g, cap, cur, rfl, hB, hg, r⟩
  · exact .inl ⟨rfl, h0⟩
  · exact .inr ⟨g, cap, cur, rfl, hB, (hk g cur hg).trans hg, r⟩
theorem Mid.put {w : World} {b1 b4 l D : Nat} {rec rec' : Loop} {rs : List Ref} {cur : Bs} {W : World} (h : Mid w b1 b4 l D rec rs cur W) (hBl : w.heap.size ≤ l) : Mid w b1 b4 l D rec' rs cur (W.putObj l (.loop rec')) := by
  obtain ⟨v, h4, ho⟩ := h.c4
  have far : ∀ (g : Nat) (c : Array Value) (t : TypeId) (f : Nat × Nat), W.heap[g]? = some (Obj.cells c t f) → (W.putObj l (.loop rec')).heap[g]? = W.heap[g]? := fun g c t f hg =>
    World.putObj_heap_other (fun e => by rw [e, h.hl] at hg; cases hg)
  exact ⟨(far _ _ _ _ h.c1).trans h.c1, ⟨v, (far _ _ _ _ h4).trans h4, own_other ho fun g cs hg => far _ _ _ _ hg⟩, World.putObj_heap_same (Bk.blk_lt h.hl),
    (World.putObj_heap_other (fun e => by have := h.hD; rw [e, h.hl] at this; cases this)).trans h.hD, put_below h.bel hBl _⟩
theorem Mid.set {w : World} {b1 b4 l D : Nat} {rec : Loop} {rs : List Ref} {cur : Bs} {W : World} (h : Mid w b1 b4 l D rec rs cur W) {be : Nat} {x : Value} (hbe : W.heap[be]? = some (.cells #[x] 9 (0, 0))) (hne : b1 ≠ be) (hB : w.heap.size ≤ be) (v : Value) : Mid w b1 b4 l D rec rs cur (W.setCell ⟨be, 0, none⟩ v) := by
  obtain ⟨v4, h4, ho⟩ := h.c4
  refine ⟨Bk.blk_far h.c1 hne v, ⟨v4, Bk.blk_far h4 (Bk.blk_ne h4 hbe (by decide)) v, ?_⟩, Bk.blk_far h.hl (fun e => ?_) v, Bk.blk_far h.hD (fun e => ?_) v, h.bel.setCell hB v⟩
  · refine own_other ho fun g cs hg => Below.heap_setCell _ _ _ _ ?_
    exact Bk.blk_ne hg hbe (by decide)
  · have := h.hl; rw [e] at this; rw [this] at hbe; cases hbe
  · have := h.hD; rw [e] at this; rw [this] at hbe; cases hbe
theorem Mid.begin {w : World} {b1 b4 l D : Nat} {rec : Loop} {rs : List Ref} {cur : Bs} {W : World} (h : Mid w b1 b4 l D rec rs cur W) (hr : rec.state = .ready) (hl : w.heap.size ≤ l) :
    ∃ W2, (Instr.beginRound l).run Tryz.prog W = .ok () W2 ∧ Mid w b1 b4 l D { rec with state := .busy } rs cur W2 ∧ (∀ (g : Nat) (c : Array Value) (t : TypeId) (f : Nat × Nat), W.heap[g]? = some (Obj.cells c t f) → W2.heap[g]? = some (Obj.cells c t f)) ∧ W2.heap.size = W.heap.size :=
  ⟨_, run_beginRound h.hl hr, h.put hl, fun g c t f hg => (World.putObj_heap_other (fun e => by rw [e, h.hl] at hg; cases hg)).trans hg, World.putObj_size⟩
theorem Mid.finish {w : World} {b1 b4 l D : Nat} {rec : Loop} {rs : List Ref} {cur : Bs} {W : World} (h : Mid w b1 b4 l D { rec with state := .busy } rs cur W) (hl : w.heap.size ≤ l) (hr : rec.state = .ready) (hp : rec.pending = none) :
    ∃ W2, (Instr.endRound l none).run Tryz.prog W = .ok (.bool true) W2 ∧ Mid w b1 b4 l D rec rs cur W2 ∧ (∀ (g : Nat) (c : Array Value) (t : TypeId) (f : Nat × Nat), W.heap[g]? = some (Obj.cells c t f) → W2.heap[g]? = some (Obj.cells c t f)) := by
  refine ⟨_, run_endRound none h.hl, ?_, fun g c t f hg => (World.putObj_heap_other (fun e => by rw [e, h.hl] at hg; cases hg)).trans hg⟩
  have := h.put (rec' := { ({ rec with state := .busy } : Loop) with state := .ready, pending := none }) hl
  cases rec
  dsimp only at hr hp
  subst hr hp
  exact this
theorem grown_far {w w1 : World} {B e size n : Nat} {v : Value} {xs : List Value} (hgr : w.grownBy w1 v.ownBlock) (ho : w.ownsRow B e size v n xs) {g : Nat} {o : Obj} (h : w.heap[g]? = some o) (hne : ∀ cs, o ≠ .cells cs e (0, 0)) : w1.heap[g]? = some o := by
  refine (hgr.block g (Bk.blk_lt h) ?_).trans h
  intro er
  rcases ho.2 with ⟨rfl, _⟩ | ⟨g', cap, cur, rfl, _, hg, _⟩
  · simp [Value.ownBlock] at er
  · simp [Value.ownBlock] at er
    subst er
    rw [hg] at h; cases h
    exact hne _ rfl
/-- Range over refs.each: the law. -/
theorem range_refs (U : Bs → Bs) (s : Bs) (hs : s.length ≤ 1000000) (hU : ∀ k x, Bk.Suf0 (s.drop k) x → UnC U x) (w W0 : World) (hE : Env w) (b1 b4 be n : Nat) (hn : 2 ≤ n) {g : Operand} {ps : Array Tmp} {A Bd : Code} {Q : Exit → Act → World → Prop} {tm : Array Value}
    (hg : (⟨tm, []⟩ : Act).eval g = .func (.func 135) #[] #[.pointer (some ⟨be, 0, none⟩)]) (hps : ps.size = 2)
    (h1 : W0.heap[b1]? = some (.cells #[.string (mk s)] 9 (0, 0))) (h4 : W0.heap[b4]? = some (.cells #[.slice none 0 0] 26 (0, 0))) (hbe : W0.heap[be]? = some (.cells #[.string (mk s)] 9 (0, 0)))
    (hne : b1 ≠ be) (hBe : w.heap.size ≤ be) (hB : Below w.heap.size w W0)
    (hround : ∀ (fn : FuncId) (l D : Nat) (rs : List Ref) (c : Bs) (r : Ref) (c' : Bs) (W : World), w.heap.size ≤ l → Mid w b1 b4 l D { state := .ready, pending := none, fn, tmps := tm, params := ps, assign := A, body := Bd, defers := D } rs c W → rs.length ≤ 1000000 → W.heap[be]? = some (.cells #[.string (mk c')] 9 (0, 0)) →
      RoundIn Fence.wide (n - 1 - 1) Tryz.prog l fn ((ps.zip #[refV r, strV c']).foldl (fun tmps (t, a) => tmps.setIfInBounds t a) tm) A Bd W fun e W' => e = .returned (.bool true) ∧ Mid w b1 b4 l D { state := .ready, pending := none, fn, tmps := tm, params := ps, assign := A, body := Bd, defers := D } (rs ++ [r]) c' W' ∧ W'.heap[be]? = W.heap[be]?)
    (hdone : ∀ (l D : Nat) (rec : Loop) (W : World), w.heap.size ≤ D → Mid w b1 b4 l D rec (allR U s).1 (allR U s).2 W → Q .normal { tmps := tm, defers := [{ target := .collected D, args := #[] }] } W) :
    (Code.rangeFunc g ps A Bd).wpIn Fence.wide n Tryz.prog Q { tmps := tm, defers := [] } W0 := by
  refine wpIn_rangeFunc ?_
  intro fn hfn
  have hz := hB.size
  obtain ⟨W1, hW1⟩ : ∃ W1, (W0.alloc (.deferred (some []))).alloc (.loop { state := .ready, pending := none, fn, tmps := tm, params := ps, assign := A, body := Bd, defers := W0.heap.size }) = W1 := ⟨_, rfl⟩
  have hold : Below W0.heap.size W0 W1 := by
    rw [← hW1]
    exact ((Below.refl _ W0).alloc (Nat.le_refl _) _).alloc (by simp) _
  have hM : Mid w b1 b4 (W0.heap.size + 1) W0.heap.size { state := .ready, pending := none, fn, tmps := tm, params := ps, assign := A, body := Bd, defers := W0.heap.size } [] s W1 := by
    refine ⟨Bk.blk_below' h1 hold, ⟨_, Bk.blk_below' h4 hold, World.ownsRow_nil _ _ _ _⟩, ?_, ?_, hB.trans (hold.mono hz)⟩
    · rw [← hW1]
      have := World.alloc_heap_new (W0.alloc (.deferred (some []))) (.loop { state := .ready, pending := none, fn, tmps := tm, params := ps, assign := A, body := Bd, defers := W0.heap.size })
      rwa [World.size_alloc] at this
    · rw [← hW1]
      exact (Below.heap_alloc _ _ _ (by simp)).trans (World.alloc_heap_new W0 _)
  have hbe1 := Bk.blk_below' hbe hold
  refine ⟨W0.heap.size + 1, [{ target := .collected W0.heap.size, args := #[] }], W1, { target := .fn (.func 135) #[.pointer (some ⟨be, 0, none⟩)], args := #[.func (.yield (W0.heap.size + 1)) #[] #[]] }, W1, 135,
    #[.func (.yield (W0.heap.size + 1)) #[] #[], .pointer (some ⟨be, 0, none⟩)], W1, ?_, ?_, ?_, ?_, ?_, ?_⟩
  · rw [← hW1]; exact run_enterLoop_outer _ _ _ _ _
  · simp only [resolve, rangeCall, hg]; simp [go_sem]
  · intro f' hf'; trivial
  · simp [invoke, go_sem]
  · intro h; cases h
  · refine (iter_in U s hs n (n - 1) (W0.heap.size + 1) be (fun rs c W => Mid w b1 b4 (W0.heap.size + 1) W0.heap.size { state := .ready, pending := none, fn, tmps := tm, params := ps, assign := A, body := Bd, defers := W0.heap.size } rs c W) (by omega)
      (fun rs c W h => hE.below h.bel) (fun rs c W W' h hb => h.below hb) (fun rs c W v x hx h => h.set hx hne hBe v) hU ?_ W1 hbe1 hM).mono ?_
    · intro rs c r c' W h hl hx
      refine ⟨fn, _, A, Bd, run_yield h.hl (by rw [hps]; rfl), hround fn _ _ rs c r c' W (by omega) h hl hx⟩
    · rintro e W2 ⟨⟨v, rfl⟩, h2⟩
      have hend := run_endLoop (P := Tryz.prog) h2.hl (by simp)
      exact ⟨none, _, hend, hdone _ _ _ _ hz (h2.put (by omega))⟩
set_option maxHeartbeats 4000000 in
theorem All_any (U : Bs → Bs) (s : Bs) (hs : s.length ≤ 1000000) (hU : ∀ k x, Bk.Suf0 (s.drop k) x → UnC U x) : Bk.RefsC (allR U) s := by
  intro w hE
  refine (callsIn_wide (n := 4)).1 ?_
  refine callsIn_of_wp_marks Tryz.func67 rfl trivial ?_ rfl
  simp only [Tryz.ntmps67, List.size_toArray, List.length_cons, List.length_nil, Nat.reduceAdd, Nat.reduceSub, Array.replicate_succ, Array.replicate_zero, List.push_toArray, List.append_toArray, List.nil_append, List.cons_append]
  gi_wp2_with (refine ⟨trivial, ?_⟩; gi_at_call 98; refine ((callsIn_wide (n := 4 - 1)).2 (each_any _ _)).mono ?_; rintro e w' ⟨rfl, rfl⟩)
  have hB0 : Below w.heap.size w (((w.alloc (.cells #[.string (mk s)] 9)).alloc (.cells #[.slice none 0 0] 26)).alloc (.cells #[.string (mk s)] 9)) := (((Below.refl _ w).alloc (Nat.le_refl _) _).alloc (by simp) _).alloc (by simp; omega) _
  have i1 := Bk.blk_alloc' (Bk.blk_alloc' (heap_alloc_new w (.cells #[.string (mk s)] 9)) (.cells #[.slice none 0 0] 26)) (.cells #[.string (mk s)] 9)
  have i4 := Bk.blk_alloc' (heap_alloc_new (w.alloc (.cells #[.string (mk s)] 9)) (.cells #[.slice none 0 0] 26)) (.cells #[.string (mk s)] 9)
  have ie := heap_alloc_new ((w.alloc (.cells #[.string (mk s)] 9)).alloc (.cells #[.slice none 0 0] 26)) (.cells #[.string (mk s)] 9)
  rw [World.size_alloc] at i4
  rw [World.size_alloc, World.size_alloc] at ie
  refine range_refs U s hs hU w _ hE w.heap.size (w.heap.size + 1) (w.heap.size + 1 + 1) 4 (by omega) rfl rfl i1 i4 ie (by omega) (by omega) hB0 ?round ?done
  case round =>
    rintro fn l D rs c ⟨lb, dd, tt⟩ c' W hl hM hrs hbe
    refine roundIn_of_wpIn (F := Fence.wide) trivial ?_
    have hM1 := hM.below ((Below.refl W.heap.size W).alloc (Nat.le_refl _) (.cells #[.string (mk lb), .string (mk dd), .string (mk tt)] 65))
    have hr1 := heap_alloc_new W (.cells #[.string (mk lb), .string (mk dd), .string (mk tt)] 65)
    have hbe1 := Bk.blk_alloc' hbe (.cells #[.string (mk lb), .string (mk dd), .string (mk tt)] 65)
    obtain ⟨W2, hbr, hM2, hk2, -⟩ := hM1.begin rfl hl
    have r2 := hk2 _ _ _ _ hr1
    have e2 := hk2 _ _ _ _ hbe1
    obtain ⟨v, h4, ho⟩ := hM2.c4
    have c4 : W2.cell? ⟨w.heap.size + 1, 0, none⟩ = some v := (cell_blk h4 0).trans rfl
    have q0 : W2.cell? ⟨W.heap.size, 0, none⟩ = some (.string (mk lb)) := (cell_blk r2 0).trans rfl
    have q1 : W2.cell? ⟨W.heap.size, 1, none⟩ = some (.string (mk dd)) := (cell_blk r2 1).trans rfl
    have q2 : W2.cell? ⟨W.heap.size, 2, none⟩ = some (.string (mk tt)) := (cell_blk r2 2).trans rfl
    obtain ⟨i0, hi0, hz0, hz1, hzz⟩ := info_parts Bk.infoTR
    have hbig := hM2.bel.size
    have h1 := hM2.c1
    unfold refV strV
    gi_wp2_with (gi_at_builtin; refine wpListIn_append_own _ rfl _ _ 26 rfl w.heap.size TR i0 (.agg #[(.string ⟨#[]⟩), (.string ⟨#[]⟩), (.string ⟨#[]⟩)]) 3 48 Bk.undR hi0 hz0 hz1 hzz rfl (by decide) v rs.length (rs.flatMap refVals) rfl (Bk.own_below ho ((Below.refl _ _).alloc (Nat.le_refl _) _)) ⟨W2.heap.size, 0, none⟩ 1 1 [.string (mk lb), .string (mk dd), .string (mk tt)] rfl rfl (World.news_of_block (heap_alloc_new W2 _)) (fun u hu => by simp at hu; rcases hu with rfl | rfl | rfl <;> rfl) (by simp [maxLen]; omega) (by omega) (by simp; omega) ?_; intro v' w1 hown' hgrow _; obtain ⟨g', cap', rfl⟩ := ownsRow_succ hown'; have o2 := Bk.own_below ho ((Below.refl W2.heap.size W2).alloc (Nat.le_refl _) (.cells #[.string (mk lb), .string (mk dd), .string (mk tt)] 65)); have m4 := grown_far hgrow o2 (Bk.blk_alloc' h4 _) (fun cs e => by cases e); have m1 := grown_far hgrow o2 (Bk.blk_alloc' h1 _) (fun cs e => by cases e); have d4 := (cell_blk m4 0).trans rfl; have f4 := Bk.blk_free m4 0; have d1 := (cell_blk m1 0).trans rfl; have f1 := Bk.blk_free m1 0)
    have ml := grown_far hgrow o2 (Bk.blk_alloc' hM2.hl _) (fun cs e => by cases e)
    have mD := grown_far hgrow o2 (Bk.blk_alloc' hM2.hD _) (fun cs e => by cases e)
    have me := grown_far hgrow o2 (Bk.blk_alloc' e2 _) (fun cs e => by cases e)
    have oth : ∀ (g : Nat) (o : Obj), w1.heap[g]? = some o → g ≠ w.heap.size → g ≠ w.heap.size + 1 → ((w1.setCell ⟨w.heap.size + 1, 0, none⟩ (.slice (some ⟨g', 0, none⟩) (rs.length + 1) cap')).setCell ⟨w.heap.size, 0, none⟩ (.string (mk c'))).heap[g]? = some o := fun g o hg n1 n2 => Bk.blk_far (Bk.blk_far hg n2 _) n1 _
    have M4 : ∀ rec, w1.heap[l]? = some (.loop rec) → Mid w w.heap.size (w.heap.size + 1) l D rec (rs ++ [⟨lb, dd, tt⟩]) c' ((w1.setCell ⟨w.heap.size + 1, 0, none⟩ (.slice (some ⟨g', 0, none⟩) (rs.length + 1) cap')).setCell ⟨w.heap.size, 0, none⟩ (.string (mk c'))) := by
      intro rec ml
      refine ⟨Bk.blk_set (Bk.blk_far m1 (by show w.heap.size ≠ w.heap.size + 1; omega) _) 0 _, ⟨_, Bk.blk_far (Bk.blk_set m4 0 _) (by show w.heap.size + 1 ≠ w.heap.size; omega) _, ?_⟩, oth _ _ ml (fun e => ?_) (fun e => ?_), oth _ _ mD (fun e => ?_) (fun e => ?_), ?_⟩
      · rw [List.length_append, List.flatMap_append]
        have : w1.ownsRow w.heap.size TR 3 (.slice (some ⟨g', 0, none⟩) (rs.length + 1) cap') (rs.length + 1) (rs.flatMap refVals ++ [(⟨lb, dd, tt⟩ : Ref)].flatMap refVals) := by simpa [refVals, strV] using hown'
        refine own_other this fun g cs hg => (oth g _ hg (fun e => ?_) (fun e => ?_)).trans hg.symm
        · rw [e] at hg; rw [hg] at m1; cases m1
        · rw [e] at hg; rw [hg] at m4; cases m4
      · rw [e] at ml; rw [ml] at m1; cases m1
      · rw [e] at ml; rw [ml] at m4; cases m4
      · rw [e] at mD; rw [mD] at m1; cases m1
      · rw [e] at mD; rw [mD] at m4; cases m4
      · refine (((hM2.bel.alloc hbig _).grown hgrow (by simp; omega) (fun k ek => ?_)).setCell (p := ⟨w.heap.size + 1, 0, none⟩) (by show w.heap.size ≤ w.heap.size + 1; omega) _).setCell (p := ⟨w.heap.size, 0, none⟩) (Nat.le_refl _) _
        rcases ho.2 with ⟨rfl, _⟩ | ⟨g2, cap, cur, rfl, hb, _, _⟩
        · simp [Value.ownBlock] at ek
        · obtain rfl : g2 = k := by simpa [Value.ownBlock] using ek
          exact hb
    obtain ⟨W5, he, hM5, hk5⟩ := (M4 _ ml).finish (rec := { state := .ready, pending := none, fn := fn, tmps := _, params := _, assign := _, body := _, defers := D }) hl rfl rfl
    exact ⟨_, _, he, rfl, hM5, (hk5 _ _ _ _ (oth _ _ me (by omega) (by omega)))⟩
  case done =>
    intro l D rec W hD hM
    obtain ⟨v, h4, ho⟩ := hM.c4
    have h1 := hM.c1
    have d4 := (cell_blk h4 0).trans rfl
    have d1 := (cell_blk h1 0).trans rfl
    have hK := hM.hD
    have hmx : Tryz.prog.follows .mixedOrders = true := by kernel_rfl
    gi_wp2
    gi_region
    all_goals gi_wp2
    refine ⟨by simp, .inl ⟨_, _, rfl, run_takeDeferred (w := W.drew) hK, ?_⟩⟩
    refine ⟨_, results_tmp2 rfl _ _ _, v, rfl, ?_, put_below hM.bel.drew hD _⟩
    refine own_other (w := W) ho fun g cs hg => World.putObj_heap_other (w := W.drew) (fun e => ?_)
    rw [e] at hg; rw [hg] at hK; cases hK
end Tx
end Go.Proofs.YtehmcahdjldhbaaGreatDoor
end
