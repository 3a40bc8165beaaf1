/- Parts of this session's proof, one behind the other: M25 M26 M27 M28. -/
import Derived.Test.YtehmcahdjldhbaaGreatDoorZ11
import Derived.Laws.Cover3
import Derived.Shelf.Strings.OnBuilder
section
/- Package block: tight. -/
open Go Go.RowKit
set_option linter.unusedVariables false
set_option linter.unusedSimpArgs false
set_option maxRecDepth 100000
namespace Go.Proofs.YtehmcahdjldhbaaGreatDoor
open Wk
namespace Bk
/-- Bounds under which the nodes are told. -/
structure Tells (n : Nat) (A : Nat → Nd) : Prop where
  last : ∀ i, i < n → (A i).last ≤ 1000000000000
  kids : ∀ i, i < n → ∀ j ∈ (A i).kids, j < n
  kidL : ∀ i, i < n → (A i).kids.length ≤ 1000000000000

theorem tight1_any {B : Nat} {w : World} {nb : Nat → Nat} {kv : Nat → Value} {n : Nat} {A : Nat → Nd} (h : Fixed B w nb kv n A) (hT : Tells n A) (i : Nat) (hi : i < n) :
    Calls Tryz.prog 91 #[.pointer (some ⟨nb i, 0, none⟩)] w fun e w' => e = .returned (.bool (apart A (A i).kids)) ∧ Below w.heap.size w w' := by
  have ck := h.kidv i hi
  have AP := fun w (h : Fixed B w nb kv n A) => apart_any h (A i).kids (hT.kids i hi) hT.last (hT.kidL i hi) (kv i) (h.kids i hi)
  go_enter Tryz.func91, Tryz.ntmps91
  go_wp2_with (go_at_call 89; (with_reducible refine (AP _ h).mono ?_); rintro e w1 ⟨rfl, hb⟩)
  go_ret
  exact ⟨rfl, hb⟩

def IdxPost (b : Bool) (w : World) (e : Ending) (w' : World) : Prop := ∃ r : Int, e = .returned (.int .i64 r) ∧ decide ((0 : Int) ≤ r) = b ∧ Below w.heap.size w w'
theorem indexf_any {B : Nat} {w : World} {nb : Nat → Nat} {kv : Nat → Value} {n : Nat} {A : Nat → Nd} (h : Fixed B w nb kv n A) (hT : Tells n A) (l : List Nat) (hl : ∀ i ∈ l, i < n) (hll : l.length ≤ 1000000000000)
    (v : Value) (hv : w.ownsRow B TP 1 v l.length (l.map (nodeP nb))) :
    Calls Tryz.prog 129 #[v, .func (.func 91) #[] #[]] w (IdxPost (l.any fun k => apart A (A k).kids) w) := by
  rcases own_cells hv with ⟨rfl, a, c, rfl⟩ | ⟨g, cap, rfl, hcap, hc⟩
  · go_enter Tryz.func129, Tryz.ntmps129
    go_wp2
    refine wp_loop_rounds 1 ?_
    rw [rounds_succ]
    go_wp2
    go_ret
    exact ⟨-1, rfl, rfl, Below.refl _ _⟩
  · go_enter Tryz.func129, Tryz.ntmps129
    go_wp2
    go_loopw [8] (fun kk wr => ∃ k : Nat, kk = .int .i64 k ∧ k ≤ l.length ∧ Hid ((l.any fun k => apart A (A k).kids) = ((l.drop k).any fun k => apart A (A k).kids)) ∧ Below w.heap.size w wr) (fun kk _ => l.length - (intOf kk).toNat)
    case atStart => exact ⟨0, rfl, Nat.zero_le _, by simp [Hid], Below.refl _ _⟩
    case round =>
      obtain ⟨k, rfl, hk, hA, hb⟩ := hrel
      by_cases hlt : k < l.length
      · have h1 : l[k]? = some l[k] := List.getElem?_eq_getElem hlt
        have m1 := hl _ (List.getElem_mem hlt)
        have q1 := (hb.cell (World.block_lt_of_cell? _ _ (hc k _ h1))).trans (hc k _ h1)
        have hfx := h.below hb
        have hst : Hid ((l.drop k).any (fun k => apart A (A k).kids) = (apart A (A l[k]).kids || (l.drop (k + 1)).any fun k => apart A (A k).kids)) := by
          apply Lib.hid; rw [List.drop_eq_getElem_cons hlt, List.any_cons]
        generalize l[k] = a at *
        have TI := tight1_any hfx hT a m1
        have hd : decide ((k : Int) < (l.length : Int)) = true := by rw [decide_eq_true_iff]; omega
        clear h1 hc hl
        cases hx : apart A (A a).kids with
        | true =>
          rw [hx] at TI
          have hT2 : Hid ((l.any fun k => apart A (A k).kids) = true) := by apply Lib.hid; rw [hA.out, hst.out, hx]; rfl
          go_wp2_with (go_at_call 91; (with_reducible refine TI.mono ?_); rintro e w1 ⟨rfl, hb1⟩)
          go_ret
          exact ⟨k, rfl, by rw [hT2.out]; rw [decide_eq_true_iff]; omega, hb.trans (hb1.mono hb.size)⟩
        | false =>
          rw [hx] at TI
          have hT2 : Hid ((l.any fun k => apart A (A k).kids) = ((l.drop (k + 1)).any fun k => apart A (A k).kids)) := by apply Lib.hid; rw [hA.out, hst.out, hx]; rfl
          go_wp2_with (go_at_call 91; (with_reducible refine TI.mono ?_); rintro e w1 ⟨rfl, hb1⟩)
          go_roundw
          case rel => exact ⟨k + 1, by go_num, by omega, hT2, hb.trans (hb1.mono hb.size)⟩
          case measure => simp [intOf]; omega
      · have hT2 : Hid ((l.any fun k => apart A (A k).kids) = false) := by
          apply Lib.hid; rw [hA.out, List.drop_eq_nil_of_le (by omega)]; rfl
        go_wp2
        go_ret
        exact ⟨-1, rfl, by rw [hT2.out]; rfl, hb⟩
theorem contains_any' {B : Nat} {w : World} {nb : Nat → Nat} {kv : Nat → Value} {n : Nat} {A : Nat → Nd} (h : Fixed B w nb kv n A) (hT : Tells n A) (l : List Nat) (hl : ∀ i ∈ l, i < n) (hll : l.length ≤ 1000000000000)
    (v : Value) (hv : w.ownsRow B TP 1 v l.length (l.map (nodeP nb))) :
    Calls Tryz.prog 90 #[v, .func (.func 91) #[] #[]] w fun e w' => e = .returned (.bool (l.any fun k => apart A (A k).kids)) ∧ Below w.heap.size w w' := by
  have IX := indexf_any h hT l hl hll v hv
  unfold IdxPost at IX
  go_enter Tryz.func90, Tryz.ntmps90
  go_wp2_with (go_at_call 129; (with_reducible refine IX.mono ?_); rintro e w1 ⟨r, rfl, hr, hb⟩; have HR := Lib.hid hr; clear hr)
  go_ret
  exact ⟨by rw [← HR.out]; rfl, hb⟩
theorem tight_any {B : Nat} {w : World} {nb : Nat → Nat} {kv : Nat → Value} {n : Nat} {A : Nat → Nd} (h : Fixed B w nb kv n A) (hT : Tells n A) (i : Nat) (hi : i < n) :
    Calls Tryz.prog 63 #[.pointer (some ⟨nb i, 0, none⟩)] w fun e w' => e = .returned (.bool (tight A i)) ∧ Below w.heap.size w w' := by
  have ck := fun w (h : Fixed B w nb kv n A) => h.kidv i hi
  have AP := apart_any h (A i).kids (hT.kids i hi) hT.last (hT.kidL i hi) (kv i) (h.kids i hi)
  have CF := fun w (h : Fixed B w nb kv n A) => contains_any' h hT (A i).kids (hT.kids i hi) (hT.kidL i hi) (kv i) (h.kids i hi)
  have ckh := ck _ h
  have e0 : Hid (tight A i = (!apart A (A i).kids && !(A i).kids.any fun k => apart A (A k).kids)) := Lib.hid rfl
  cases ha : apart A (A i).kids with
  | true =>
    rw [ha] at AP
    go_enter Tryz.func63, Tryz.ntmps63
    go_wp2_with (go_at_call 89; (with_reducible refine AP.mono ?_); rintro e w1 ⟨rfl, hb⟩)
    go_ret
    exact ⟨by rw [e0.out, ha]; rfl, hb⟩
  | false =>
    rw [ha] at AP
    go_enter Tryz.func63, Tryz.ntmps63
    go_wp2_with (first
      | (go_at_call 89; (with_reducible refine AP.mono ?_); rintro e w1 ⟨rfl, hb⟩; have h1 := h.below hb; have ck1 := ck _ h1)
      | (go_at_call 90; (with_reducible refine (CF _ h1).mono ?_); rintro e w2 ⟨rfl, hb2⟩))
    go_ret
    exact ⟨by rw [e0.out, ha]; rfl, hb.trans (hb2.mono hb.size)⟩
end Bk
end Go.Proofs.YtehmcahdjldhbaaGreatDoor
end
section
/- Package refs: Add: definitions laid behind others. -/
open Go Go.RowKit
set_option linter.unusedVariables false
set_option linter.unusedSimpArgs false
set_option maxRecDepth 100000
namespace Go.Proofs.YtehmcahdjldhbaaGreatDoor
open Wk
namespace Bk
theorem undR : Tryz.prog.underlying 26 = some (.slice TR) := by kernel_rfl
theorem eql_nil (t e : TypeId) (a : Option Addr) (n c : Nat) (w : World) (h : Tryz.prog.underlying t = some (.slice e)) : (binOp .eql t (.slice a n c) (.slice none 0 0)).run Tryz.prog w = .ok (.bool a.isNone) w := by
  have := run_equal_slice_nil (P := Tryz.prog) (w := w) t e a n c h
  simp [binOp, this]
theorem infoTR : (Tryz.prog.info? TR).map (fun i => (i.zero, i.size, i.bytes)) = some (some (.agg #[(.string ⟨#[]⟩), (.string ⟨#[]⟩), (.string ⟨#[]⟩)]), 3, 48) := by kernel_rfl
theorem flat_len (l : List Ref) : (l.flatMap refVals).length = l.length * 3 := by
  induction l with
  | nil => rfl
  | cons r l ih => rw [List.flatMap_cons, List.length_append, ih, List.length_cons, Nat.add_mul]; show 3 + _ = _; omega
theorem refVals_one (l : List Ref) : ∀ u ∈ l.flatMap refVals, u.oneCell' = true := by
  intro u hu
  obtain ⟨r, _, hr⟩ := List.mem_flatMap.1 hu
  simp only [refVals, List.mem_cons, List.not_mem_nil, or_false] at hr
  rcases hr with rfl | rfl | rfl <;> rfl
/-- A row of definitions: nil if there are none. -/
def RefRow (w : World) (B : Nat) (v : Value) (l : List Ref) : Prop := w.ownsRow B TR 3 v l.length (l.flatMap refVals) ∧ (l = [] → v = .slice none 0 0)
set_option maxHeartbeats 4000000 in
theorem clone_any (w : World) (B : Nat) (l : List Ref) (v : Value) (h : RefRow w B v l) (hl : l.length ≤ 1000000000) :
    Calls Tryz.prog 99 #[v] w fun e w' => ∃ v', e = .returned v' ∧ RefRow w' w.heap.size v' l ∧ Below w.heap.size w w' := by
  cases l with
  | nil =>
    have := h.2 rfl
    subst this
    go_enter Tryz.func99, Tryz.ntmps99
    have EN := fun w => eql_nil 26 TR none 0 0 w undR
    go_wp2
    go_ret
    exact ⟨_, rfl, ⟨World.ownsRow_nil _ _ _ _, fun _ => rfl⟩, Below.refl _ _⟩
  | cons r rs =>
    obtain ⟨g, cap, rfl, hB, hg⟩ := h.1.form (by simp)
    go_enter Tryz.func99, Tryz.ntmps99
    have EN := fun w => eql_nil 26 TR (some ⟨g, 0, none⟩) (rs.length + 1) cap w undR
    obtain ⟨i0, hi0, hz0, hz1, hz2⟩ := info_parts infoTR
    have hn : (⟨g, 0, none⟩ : Addr) = ⟨g, 0, none⟩ := rfl
    have CE := h.1.cells rfl
    have hlen : ((r :: rs).flatMap refVals).length = (r :: rs).length * 3 := by rw [flat_len]
    have CB : ∀ (w' : World), Below w.heap.size w w' → ∀ j u, ((r :: rs).flatMap refVals)[j]? = some u → w'.cell? ((⟨g, 0, none⟩ : Addr).add j) = some u := fun w' hb j u hu => (hb.cell (by rw [add_off]; exact hg)).trans (CE j u hu)
    go_wp2_with (at_builtin; refine wpList_append_lies _ rfl (.tmp 5) (.tmp 6) 26 rfl w.heap.size TR i0 (.agg #[(.string ⟨#[]⟩), (.string ⟨#[]⟩), (.string ⟨#[]⟩)]) 3 48 undR hi0 hz0 hz1 hz2 rfl (by decide) (.slice (some ⟨w.heap.size, 0, none⟩) 0 0) 0 [] rfl ?own ⟨g, 0, none⟩ (r :: rs).length cap ((r :: rs).flatMap refVals) rfl hlen ?cc (refVals_one _) (by simp) (by simp [maxLen] at *; omega) (by simp at *; omega) ?bs _ rfl ?go)
    case cc =>
      intro j u hu
      have := CE j u hu
      rwa [add_off] at this
    case go =>
      intro g1 cap1 w1 hown hgr hat hlt
      go_wp2
      go_ret
      refine ⟨_, rfl, ⟨?_, fun h => by cases h⟩, ?_⟩
      · simpa using hown
      · exact ((Below.refl _ w).alloc (Nat.le_refl _) _).grown hgr (by simp) (fun k hk => by simp [Value.ownBlock] at hk; omega)
    case own => exact World.ownsRow_lit w #[] 0 (Nat.le_refl _) (by decide) rfl
def refV (r : Ref) : Value := .agg #[strV r.label, strV r.dest, strV r.title]
theorem add1_any (w : World) (gx : Nat) (q r : Ref) (hx : w.cell? ⟨gx, 0, none⟩ = some (strV r.label)) :
    Calls Tryz.prog 101 #[refV q, .pointer (some ⟨gx, 0, none⟩)] w fun e w' => e = .returned (.bool (q.label == r.label)) ∧ Below w.heap.size w w' := by
  have hx2 : ∀ o, (w.alloc o).cell? ⟨gx, 0, none⟩ = some (strV r.label) := fun o => (((Below.refl _ w).alloc (Nat.le_refl _) o).cell (World.block_lt_of_cell? _ _ hx)).trans hx
  unfold refV strV
  unfold strV at hx2
  clear hx
  go_enter Tryz.func101, Tryz.ntmps101
  go_wp2
  go_ret
  exact ⟨by show Ending.returned (.bool ((mk q.label).toList == (mk r.label).toList)) = _; rw [toList_data, toList_data]; rfl, (Below.refl _ w).alloc (Nat.le_refl _) _⟩
theorem flat_get (l : List Ref) (k : Nat) (r : Ref) (h : l[k]? = some r) : (l.flatMap refVals)[k * 3]? = some (strV r.label) ∧ (l.flatMap refVals)[k * 3 + 1]? = some (strV r.dest) ∧ (l.flatMap refVals)[k * 3 + 2]? = some (strV r.title) := by
  induction l generalizing k with
  | nil => simp at h
  | cons a l ih =>
    cases k with
    | zero =>
      simp at h; subst h
      simp [refVals]
    | succ k =>
      have := ih k (by simpa using h)
      rw [show (k + 1) * 3 = k * 3 + 3 by omega, List.flatMap_cons]
      have e : (refVals a).length = 3 := rfl
      refine ⟨?_, ?_, ?_⟩
      · rw [List.getElem?_append_right (by omega), e]; simpa using this.1
      · rw [List.getElem?_append_right (by omega), e, show k * 3 + 3 + 1 - 3 = k * 3 + 1 by omega]; exact this.2.1
      · rw [List.getElem?_append_right (by omega), e, show k * 3 + 3 + 2 - 3 = k * 3 + 2 by omega]; exact this.2.2
theorem row_cells {w : World} {B g n cap : Nat} {l : List Ref} (h : w.ownsRow B TR 3 (.slice (some ⟨g, 0, none⟩) n cap) l.length (l.flatMap refVals)) (k : Nat) (r : Ref) (hk : l[k]? = some r) :
    w.cell? ⟨g, k * 3, none⟩ = some (strV r.label) ∧ w.cell? ⟨g, k * 3 + 1, none⟩ = some (strV r.dest) ∧ w.cell? ⟨g, k * 3 + 2, none⟩ = some (strV r.title) := by
  obtain ⟨h0, h1, h2⟩ := flat_get l k r hk
  have c := h.cells (g := g) rfl
  refine ⟨?_, ?_, ?_⟩
  · have := c _ _ h0; rwa [add_off] at this
  · have := c _ _ h1; rwa [add_off] at this
  · have := c _ _ h2; rwa [add_off] at this
set_option maxHeartbeats 4000000 in
theorem indexr_any (w : World) (B : Nat) (l : List Ref) (v : Value) (h : RefRow w B v l) (hl : l.length ≤ 1000000000) (gx : Nat) (r : Ref) (hx : w.cell? ⟨gx, 0, none⟩ = some (strV r.label)) :
    Calls Tryz.prog 137 #[v, .func (.func 101) #[] #[.pointer (some ⟨gx, 0, none⟩)]] w (IdxPost (l.any fun q => q.label == r.label) w) := by
  cases l with
  | nil =>
    have := h.2 rfl
    subst this
    go_enter Tryz.func137, Tryz.ntmps137
    go_wp2
    refine wp_loop_rounds 1 ?_
    rw [rounds_succ]
    go_wp2
    go_ret
    exact ⟨-1, rfl, rfl, Below.refl _ _⟩
  | cons r0 rs =>
    obtain ⟨g, cap, rfl, hB, hg⟩ := h.1.form (by simp)
    have hrow := h.1
    have hcap : (r0 :: rs).length ≤ cap := by obtain ⟨A, c, e, hle⟩ := own_form h.1; cases e; exact hle
    generalize r0 :: rs = l at *
    clear h
    go_enter Tryz.func137, Tryz.ntmps137
    go_wp2
    go_loopw [8] (fun kk wr => ∃ k : Nat, kk = .int .i64 k ∧ k ≤ l.length ∧ Hid ((l.any fun q => q.label == r.label) = ((l.drop k).any fun q => q.label == r.label)) ∧ Below w.heap.size w wr) (fun kk _ => l.length - (intOf kk).toNat)
    case atStart => exact ⟨0, rfl, Nat.zero_le _, by simp [Hid], Below.refl _ _⟩
    case round =>
      obtain ⟨k, rfl, hk, hA, hb⟩ := hrel
      by_cases hlt : k < l.length
      · have h1 : l[k]? = some l[k] := List.getElem?_eq_getElem hlt
        obtain ⟨q0, q1, q2⟩ := row_cells (own_below hrow hb) k _ h1
        have hst : Hid ((l.drop k).any (fun q => q.label == r.label) = ((l[k].label == r.label) || (l.drop (k + 1)).any fun q => q.label == r.label)) := by
          apply Lib.hid; rw [List.drop_eq_getElem_cons hlt, List.any_cons]
        generalize l[k] = a at *
        have hxr := (hb.cell (World.block_lt_of_cell? _ _ hx)).trans hx
        have TI := add1_any wr gx a r hxr
        unfold refV at TI
        have hd : decide ((k : Int) < (l.length : Int)) = true := by rw [decide_eq_true_iff]; omega
        clear h1
        cases hq : a.label == r.label with
        | true =>
          rw [hq] at TI
          have hT2 : Hid ((l.any fun q => q.label == r.label) = true) := by apply Lib.hid; rw [hA.out, hst.out, hq]; rfl
          go_wp2_with (go_at_call 101; (with_reducible refine TI.mono ?_); rintro e w1 ⟨rfl, hb1⟩)
          go_ret
          exact ⟨k, rfl, by rw [hT2.out]; rw [decide_eq_true_iff]; omega, hb.trans (hb1.mono hb.size)⟩
        | false =>
          rw [hq] at TI
          have hT2 : Hid ((l.any fun q => q.label == r.label) = ((l.drop (k + 1)).any fun q => q.label == r.label)) := by apply Lib.hid; rw [hA.out, hst.out, hq]; rfl
          go_wp2_with (go_at_call 101; (with_reducible refine TI.mono ?_); rintro e w1 ⟨rfl, hb1⟩)
          go_roundw
          case rel => exact ⟨k + 1, by go_num, by omega, hT2, hb.trans (hb1.mono hb.size)⟩
          case measure => simp [intOf]; omega
      · have hT2 : Hid ((l.any fun q => q.label == r.label) = false) := by
          apply Lib.hid; rw [hA.out, List.drop_eq_nil_of_le (by omega)]; rfl
        go_wp2
        go_ret
        exact ⟨-1, rfl, by rw [hT2.out]; rfl, hb⟩
theorem containsr_any (w : World) (B : Nat) (l : List Ref) (v : Value) (h : RefRow w B v l) (hl : l.length ≤ 1000000000) (gx : Nat) (r : Ref) (hx : w.cell? ⟨gx, 0, none⟩ = some (strV r.label)) :
    Calls Tryz.prog 100 #[v, .func (.func 101) #[] #[.pointer (some ⟨gx, 0, none⟩)]] w fun e w' => e = .returned (.bool (l.any fun q => q.label == r.label)) ∧ Below w.heap.size w w' := by
  have IX := indexr_any w B l v h hl gx r hx
  unfold IdxPost at IX
  go_enter Tryz.func100, Tryz.ntmps100
  go_wp2_with (go_at_call 137; (with_reducible refine IX.mono ?_); rintro e w1 ⟨r, rfl, hr, hb⟩; have HR := Lib.hid hr; clear hr)
  go_ret
  exact ⟨by rw [← HR.out]; rfl, hb⟩
theorem addRefs_cons (l : List Ref) (r : Ref) (m : List Ref) : addRefs l (r :: m) = addRefs (if l.any (fun x => x.label == r.label) then l else l ++ [r]) m := rfl
set_option maxHeartbeats 8000000 in
theorem Add_any (w : World) (B : Nat) (l more : List Ref) (v u : Value) (h : RefRow w B v l) (hu : w.ownsRow B TR 3 u more.length (more.flatMap refVals)) (hl : l.length + more.length ≤ 1000000000) :
    Calls Tryz.prog 68 #[v, u] w fun e w' => ∃ v', e = .returned v' ∧ RefRow w' w.heap.size v' (addRefs l more) ∧ Below w.heap.size w w' := by
  have CL := clone_any w B l v h (by omega)
  cases more with
  | nil =>
    obtain ⟨A, c, e, hle⟩ := own_form hu
    subst e
    go_enter Tryz.func68, Tryz.ntmps68
    go_wp2_with (go_at_call 99; (with_reducible refine CL.mono ?_); rintro e w1 ⟨v1, rfl, hv1, hb1⟩)
    refine wp_loop_rounds 1 ?_
    rw [rounds_succ]
    go_wp2
    go_ret
    exact ⟨v1, rfl, hv1, hb1⟩
  | cons r0 rs =>
    obtain ⟨g, cap, rfl, hB, hg⟩ := hu.form (by simp)
    have hrow := hu
    have hcap : (r0 :: rs).length ≤ cap := by obtain ⟨A, c, e, hle⟩ := own_form hu; cases e; exact hle
    generalize r0 :: rs = more at *
    clear hu
    obtain ⟨i0, hi0, hz0, hz1, hz2⟩ := info_parts infoTR
    go_enter Tryz.func68, Tryz.ntmps68
    go_wp2_with (go_at_call 99; (with_reducible refine CL.mono ?_); rintro e w1 ⟨v1, rfl, hv1, hb1⟩)
    clear CL
    go_loopw [5, 12] (fun out kk wr => ∃ (k : Nat) (lst : List Ref), kk = .int .i64 k ∧ k ≤ more.length ∧ Hid (addRefs lst (more.drop k) = addRefs l more) ∧ RefRow wr w.heap.size out lst ∧ lst.length ≤ l.length + k ∧ Below w.heap.size w wr) (fun _ kk _ => more.length - (intOf kk).toNat)
    case atStart => exact ⟨0, l, rfl, Nat.zero_le _, Lib.hid rfl, hv1, by omega, hb1⟩
    case round =>
      obtain ⟨k, lst, rfl, hk, hA, hR, hL, hb⟩ := hrel
      by_cases hlt : k < more.length
      · have h1 : more[k]? = some more[k] := List.getElem?_eq_getElem hlt
        obtain ⟨q0, q1, q2⟩ := row_cells (own_below hrow hb) k _ h1
        have hst : Hid (addRefs lst (more.drop k) = addRefs (if lst.any (fun x => x.label == (more[k]).label) then lst else lst ++ [more[k]]) (more.drop (k + 1))) := by
          apply Lib.hid; rw [List.drop_eq_getElem_cons hlt, addRefs_cons]
        generalize more[k] = a at *
        have hd : decide ((k : Int) < (more.length : Int)) = true := by rw [decide_eq_true_iff]; omega
        have hbA : Below wr.heap.size wr (wr.alloc (.cells #[strV a.label, strV a.dest, strV a.title] TR)) := (Below.refl _ _).alloc (Nat.le_refl _) _
        have n0 : (wr.alloc (.cells #[strV a.label, strV a.dest, strV a.title] TR)).heap[wr.heap.size]? = some (.cells #[strV a.label, strV a.dest, strV a.title] TR (0, 0)) := heap_alloc_new wr _
        have CT := containsr_any _ w.heap.size lst u5 ⟨own_below hR.1 hbA, hR.2⟩ (by omega) wr.heap.size a (by rw [cell_of_row _ _ 0 _ _ _ n0]; rfl)
        have hBw := hb.size
        have hbw : Below w.heap.size w (wr.alloc (.cells #[strV a.label, strV a.dest, strV a.title] TR)) := hb.trans (hbA.mono hBw)
        have hown := own_below hR.1 hbA
        have hnil := hR.2
        unfold TR at CT n0 hbw hown
        unfold strV at q0 q1 q2 CT n0 hbw hown
        have hsz : (wr.alloc (.cells #[.string (mk a.label), .string (mk a.dest), .string (mk a.title)] 65)).heap.size = wr.heap.size + 1 := by simp
        generalize hW : wr.alloc (.cells #[.string (mk a.label), .string (mk a.dest), .string (mk a.title)] 65) = W at *
        have hWh := Lib.hid hW
        clear hW hbA
        cases hq : lst.any fun q => q.label == a.label with
        | true =>
          rw [hq] at CT
          have hT : Hid (addRefs lst (more.drop (k + 1)) = addRefs l more) := by apply Lib.hid; rw [← hA.out, hst.out, if_pos hq]
          clear hst hA hq
          go_wp2_with (go_at_call 100; rw [hWh.out]; (with_reducible refine CT.mono ?_); rintro e w2 ⟨rfl, hb2⟩)
          go_roundw
          case rel => exact ⟨k + 1, lst, by go_num, by omega, hT, ⟨own_below hown hb2, hnil⟩, by omega, hbw.trans (hb2.mono hbw.size)⟩
          case measure => simp [intOf]; omega
        | false =>
          rw [hq] at CT
          have hT : Hid (addRefs (lst ++ [a]) (more.drop (k + 1)) = addRefs l more) := by apply Lib.hid; rw [← hA.out, hst.out, if_neg (by rw [hq]; simp)]
          clear hst hA hq
          go_wp2_with (first
            | (go_at_call 100; rw [hWh.out]; (with_reducible refine CT.mono ?_); rintro e w2 ⟨rfl, hb2⟩; have n2 := blk_below n0 hb2; have d0 : w2.cell? ⟨wr.heap.size, 0, none⟩ = some (.string (mk a.label)) := (by rw [cell_of_row _ _ 0 _ _ _ n2]; rfl); have d1 : w2.cell? ⟨wr.heap.size, 1, none⟩ = some (.string (mk a.dest)) := (by rw [cell_of_row _ _ 1 _ _ _ n2]; rfl); have d2 : w2.cell? ⟨wr.heap.size, 2, none⟩ = some (.string (mk a.title)) := (by rw [cell_of_row _ _ 2 _ _ _ n2]; rfl); have hown2 := own_below hown hb2; have hs2 := hb2.size)
            | (at_builtin; refine wpList_append_lies _ rfl (.tmp 20) (.tmp 22) 26 rfl w.heap.size 65 i0 (.agg #[(.string ⟨#[]⟩), (.string ⟨#[]⟩), (.string ⟨#[]⟩)]) 3 48 undR hi0 hz0 hz1 hz2 rfl (by decide) u5 lst.length (lst.flatMap refVals) rfl (own_below hown2 ((Below.refl _ _).alloc (Nat.le_refl _) _)) ⟨w2.heap.size, 0, none⟩ 1 1 [.string (mk a.label), .string (mk a.dest), .string (mk a.title)] rfl rfl (World.news_of_block (heap_alloc_new w2 _)) (fun u hu => by simp at hu; rcases hu with rfl | rfl | rfl <;> rfl) (by decide) (by simp [maxLen]; omega) (by omega) (by have := hbw.size; simp; omega) _ rfl ?go))
          case go =>
            intro g3 cap3 w3 hown3 hgr hat hlt3
            go_wp2
            go_roundw
            case rel => exact ⟨k + 1, lst ++ [a], by go_num, by omega, hT, ⟨by rw [List.length_append, List.flatMap_append]; simpa [refVals, strV, TR] using hown3, fun h => by simp at h⟩, by simp; omega, (hbw.trans (hb2.mono hbw.size)).trans (((Below.refl w.heap.size w2).alloc (by omega) _).grown hgr (by simp; omega) (fun k hk => (hown2.lt k hk).1))⟩
            case measure => simp [intOf]; omega
      · have hT : Hid (addRefs l more = lst) := by
          apply Lib.hid; rw [← hA.out, List.drop_eq_nil_of_le (by omega)]; rfl
        go_wp2
        go_ret
        exact ⟨_, rfl, by rw [hT.out]; exact hR, hb⟩
end Bk
end Go.Proofs.YtehmcahdjldhbaaGreatDoor
end
section
/- Package text: Join: lines as a text, by a strings.Builder. -/
open Go Go.RowKit
set_option linter.unusedVariables false
set_option linter.unusedSimpArgs false
set_option maxRecDepth 100000
namespace Go.Proofs.YtehmcahdjldhbaaGreatDoor
open Wk
namespace Bk
/-- The library's functions and types by their numbers here: Join's, and WriteByte. -/
def jren : Go.Shelf.Ren := ⟨fun n => if n = 167 then 93 else Tryz.lays156_ren.f n, Tryz.lays156_ren.t, Tryz.lays156_ren.g⟩
theorem jlays : Go.Proofs.Lays.n167 Tryz.prog jren :=
  { Tryz.lays156 with
    f167 := Tryz.func93.trans (congrArg some (by kernel_rfl))
    f240 := Tryz.func130.trans (congrArg some (by kernel_rfl))
    f276 := Tryz.func156.trans (congrArg some (by kernel_rfl))
    t5 := Tryz.underlying5, a5 := Tryz.isAgg5, z5 := Tryz.sizeOf5, v5 := Tryz.zeroValue5 }
theorem jextra : Builder.Extra Tryz.prog jren := { Tryz.Builder_Extra_156 with }
def TB : Nat := 120
theorem writeByte_any (B b : Nat) (bs : List Value) (c : Int) (w : World) (h : Lib.IsBuilder TB 5 B b bs w) (hlen : bs.length + 1 ≤ 140737488355328) (hBw : B ≤ w.heap.size) :
    Calls Tryz.prog 93 #[.pointer (some ⟨b, 0, none⟩), .int .u8 c] w fun e w' => e = .returned .nilIface ∧ (Lib.IsBuilder TB 5 B b (bs ++ [.int .u8 c]) w' ∧ Below B w w') :=
  (Any.Builder_WriteByte jlays jextra B b bs c w h hlen hBw).mono fun e w' ⟨h1, h2, h3⟩ => ⟨h1, .inr h2, h3⟩
theorem writeString_any (B b : Nat) (bs : List Value) (s : ByteArray) (w : World) (h : Lib.IsBuilder TB 5 B b bs w) (hlen : bs.length + s.size ≤ 140737488355328) (hBw : B ≤ w.heap.size) :
    Calls Tryz.prog 92 #[.pointer (some ⟨b, 0, none⟩), .string s] w fun e w' => e = .returned (.tuple #[.int .i64 s.size, .nilIface]) ∧ (Lib.IsBuilder TB 5 B b (bs ++ Lib.strCells s) w' ∧ Below B w w') :=
  (Any.Builder_WriteString (ρ := Tryz.lays156_ren) { Tryz.lays156 with } Tryz.Builder_Extra_156 B b bs s w h hlen hBw).mono fun e w' ⟨h1, h2, h3⟩ => ⟨h1, .inr h2, h3⟩
theorem builderString_any (B b : Nat) (l : List UInt8) (w : World) (h : Lib.IsBuilder TB 5 B b (Lib.byteCells l) w) (h0 : l ≠ []) :
    Calls Tryz.prog 94 #[.pointer (some ⟨b, 0, none⟩)] w fun e w' => e = .returned (.string ⟨l.toArray⟩) ∧ Below B w w' :=
  Any.Builder_String (ρ := Tryz.lays156_ren) { Tryz.lays156 with } Tryz.Builder_Extra_156 B b l w h h0
theorem builderString_nil (B b : Nat) (p : Value) (w : World) (hbk : w.heap[b]? = some (.cells #[p, .slice none 0 0] TB (0, 0))) :
    Calls Tryz.prog 94 #[.pointer (some ⟨b, 0, none⟩)] w fun e w' => e = .returned (.string ⟨#[]⟩) ∧ Below B w w' :=
  Any.Builder_String_nil (ρ := Tryz.lays156_ren) { Tryz.lays156 with } Tryz.Builder_Extra_156 B b p w hbk
theorem join_take (l : List Bs) (k : Nat) (s : Bs) (h : l[k]? = some s) : joinEnd (l.take (k + 1)) = joinEnd (l.take k) ++ s ++ [10] := by
  obtain ⟨hl, he⟩ := List.getElem?_eq_some_iff.1 h
  unfold joinEnd
  rw [List.take_succ_eq_append_getElem hl, List.flatMap_append, he]
  simp
theorem join_le (l : List Bs) (k : Nat) : (joinEnd (l.take k)).length ≤ (joinEnd l).length := by
  have : joinEnd l = joinEnd (l.take k) ++ joinEnd (l.drop k) := by unfold joinEnd; rw [← List.flatMap_append, List.take_append_drop]
  rw [this, List.length_append]; omega
theorem byteCells_app (a b : Bs) : Lib.byteCells (a ++ b) = Lib.byteCells a ++ Lib.byteCells b := by simp [Lib.byteCells]
theorem strCells_mk (a : Bs) : Lib.strCells (mk a) = Lib.byteCells a := rfl
/-- Lines that are read. -/
def LinesAt0 (w : World) (v : Value) (l : List Bs) : Prop :=
  (l = [] ∧ ∃ A c, v = .slice A 0 c) ∨ ∃ g cap, v = .slice (some ⟨g, 0, none⟩) l.length cap ∧ l.length ≤ cap ∧ ∀ k s, l[k]? = some s → w.cell? ⟨g, k, none⟩ = some (strV s)
theorem LinesAt0.below {w w1 : World} {v : Value} {l : List Bs} (h : LinesAt0 w v l) (hb : Below w.heap.size w w1) : LinesAt0 w1 v l := by
  rcases h with h | ⟨g, cap, e, h1, h2⟩
  · exact .inl h
  · exact .inr ⟨g, cap, e, h1, fun k s hk => (hb.cell (World.block_lt_of_cell? _ _ (h2 k s hk))).trans (h2 k s hk)⟩
/-- Lines that are read, wherever they lie. -/
def LinesAt (w : World) (v : Value) (l : List Bs) : Prop :=
  (l = [] ∧ ∃ A c, v = .slice A 0 c) ∨ ∃ g o cap, v = .slice (some ⟨g, o, none⟩) l.length cap ∧ l.length ≤ cap ∧ ∀ k s, l[k]? = some s → w.cell? ⟨g, o + k, none⟩ = some (strV s)
theorem LinesAt.below {w w1 : World} {v : Value} {l : List Bs} (h : LinesAt w v l) (hb : Below w.heap.size w w1) : LinesAt w1 v l := by
  rcases h with h | ⟨g, o, cap, e, h1, h2⟩
  · exact .inl h
  · exact .inr ⟨g, o, cap, e, h1, fun k s hk => (hb.cell (World.block_lt_of_cell? _ _ (h2 k s hk))).trans (h2 k s hk)⟩
theorem LinesAt.form {w : World} {v : Value} {l : List Bs} (h : LinesAt w v l) : ∃ A c, v = .slice A l.length c := by
  rcases h with ⟨e, A', c, rfl⟩ | ⟨g, o, cap, e, _⟩
  · exact ⟨A', c, by rw [e]; rfl⟩
  · exact ⟨_, _, e⟩
theorem LinesAt0.gen {w : World} {v : Value} {l : List Bs} (h : LinesAt0 w v l) : LinesAt w v l := by
  rcases h with h | ⟨g, cap, e, h1, h2⟩
  · exact .inl h
  · exact .inr ⟨g, 0, cap, e, h1, fun k s hk => by rw [Nat.zero_add]; exact h2 k s hk⟩
theorem LinesAt0.of_own {w : World} {B : Nat} {v : Value} {l : List Bs} (h : w.ownsRow B TS 1 v l.length (l.map strV)) : LinesAt0 w v l := by
  rcases h.2 with ⟨rfl, h0⟩ | ⟨g, cap, cur, rfl, hB, hg, hle, hm, hs, ht⟩
  · left; exact ⟨List.eq_nil_of_length_eq_zero h0, none, 0, rfl⟩
  · right
    refine ⟨g, cap, rfl, hle, fun k i hk => ?_⟩
    have := h.cells (g := g) rfl k (strV i) (by rw [List.getElem?_map, hk]; rfl)
    rw [add_off] at this; exact this
set_option maxHeartbeats 4000000 in
theorem join_any (w : World) (l : List Bs) (v : Value) (h : LinesAt0 w v l) (hl : (joinEnd l).length ≤ 140737488355328) (hll : l.length ≤ 1000000000000) :
    Calls Tryz.prog 64 #[v] w fun e w' => e = .returned (.string (mk (joinEnd l))) ∧ Below w.heap.size w w' := by
  have hb0 : ∀ o, Below w.heap.size w (w.alloc o) := fun o => (Below.refl _ w).alloc (Nat.le_refl _) o
  rcases h with ⟨rfl, A, c, rfl⟩ | ⟨g, cap, rfl, hcap, hc⟩
  · have BS := builderString_nil w.heap.size w.heap.size (.pointer none) (w.alloc (.cells #[.pointer none, .slice none 0 0] TB)) (heap_alloc_new w _)
    unfold TB at BS
    go_enter Tryz.func64, Tryz.ntmps64
    go_wp2
    refine wp_loop_rounds 1 ?_
    rw [rounds_succ]
    go_wp2_with (go_at_call 94; (with_reducible refine BS.mono ?_); rintro e w1 ⟨rfl, hb⟩)
    go_ret
    exact ⟨rfl, (hb0 _).trans hb⟩
  · by_cases hne : l = []
    · subst hne
      have BS := builderString_nil w.heap.size w.heap.size (.pointer none) (w.alloc (.cells #[.pointer none, .slice none 0 0] TB)) (heap_alloc_new w _)
      unfold TB at BS
      go_enter Tryz.func64, Tryz.ntmps64
      go_wp2
      refine wp_loop_rounds 1 ?_
      rw [rounds_succ]
      go_wp2_with (go_at_call 94; (with_reducible refine BS.mono ?_); rintro e w1 ⟨rfl, hb⟩)
      go_ret
      exact ⟨rfl, (hb0 _).trans hb⟩
    · have hb1 := hb0 (.cells #[.pointer none, .slice none 0 0] TB)
      have I0 : Lib.IsBuilder TB 5 w.heap.size w.heap.size [] (w.alloc (.cells #[.pointer none, .slice none 0 0] TB)) := .inl ⟨Nat.le_refl _, _, heap_alloc_new w _, World.ownsRow_nil _ _ _ _, by simp [Value.ownBlock]⟩
      have hpos : 0 < l.length := List.length_pos_iff.2 hne
      unfold TB at hb1 I0
      go_enter Tryz.func64, Tryz.ntmps64
      go_wp2
      go_loopw [8] (fun kk wr => ∃ k : Nat, kk = .int .i64 k ∧ k ≤ l.length ∧ Lib.IsBuilder TB 5 w.heap.size w.heap.size (Lib.byteCells (joinEnd (l.take k))) wr ∧ Below w.heap.size w wr) (fun kk _ => l.length - (intOf kk).toNat)
      case atStart => exact ⟨0, rfl, Nat.zero_le _, I0, hb1⟩
      case round =>
        obtain ⟨k, rfl, hk, hI, hb⟩ := hrel
        by_cases hlt : k < l.length
        · have h1 : l[k]? = some l[k] := List.getElem?_eq_getElem hlt
          have q1 := (hb.cell (World.block_lt_of_cell? _ _ (hc k _ h1))).trans (hc k _ h1)
          have hj := join_take l k _ h1
          have hjl := join_le l (k + 1)
          generalize l[k] = s at *
          rw [hj] at hjl
          simp only [List.length_append, List.length_singleton] at hjl
          have WS := writeString_any w.heap.size w.heap.size _ (mk s) wr hI (by rw [Lib.byteCells_length, mk_size]; omega) hb.size
          have WB := fun w1 (h : Lib.IsBuilder TB 5 w.heap.size w.heap.size (Lib.byteCells (joinEnd (l.take k)) ++ Lib.strCells (mk s)) w1) (hs : w.heap.size ≤ w1.heap.size) => writeByte_any w.heap.size w.heap.size _ 10 w1 h (by rw [List.length_append, Lib.byteCells_length, Lib.strCells_length, mk_size]; omega) hs
          have hd : decide ((k : Int) < (l.length : Int)) = true := by rw [decide_eq_true_iff]; omega
          unfold strV at q1
          have hJ := Lib.hid hj
          clear hj h1
          go_wp2_with (first
            | (go_at_call 92; (with_reducible refine WS.mono ?_); rintro e w1 ⟨rfl, I1, hb1'⟩)
            | (go_at_call 93; (with_reducible refine (WB _ I1 (by have := hb.size; have := hb1'.size; omega)).mono ?_); rintro e w2 ⟨rfl, I2, hb2⟩))
          go_roundw
          case rel => exact ⟨k + 1, by go_num, by omega, by rw [hJ.out, byteCells_app, byteCells_app]; exact I2, (hb.trans hb1').trans hb2⟩
          case measure => simp [intOf]; omega
        · have hke : k = l.length := by omega
          subst hke
          rw [List.take_length] at hI
          have BS := builderString_any w.heap.size w.heap.size (joinEnd l) wr hI (by
            obtain ⟨a, r, rfl⟩ := List.exists_cons_of_ne_nil hne
            simp [joinEnd])
          go_wp2_with (go_at_call 94; (with_reducible refine BS.mono ?_); rintro e w1 ⟨rfl, hb2⟩)
          go_ret
          exact ⟨rfl, hb.trans hb2⟩
end Bk
end Go.Proofs.YtehmcahdjldhbaaGreatDoor
end
section
/- Package block: content: what a node's lines are. -/
open Go Go.RowKit
set_option linter.unusedVariables false
set_option linter.unusedSimpArgs false
set_option maxRecDepth 100000
namespace Go.Proofs.YtehmcahdjldhbaaGreatDoor
open Wk
namespace Bk
def TD : Nat := 26
/-- All that was there stays, but the blocks of P. -/
structure But2 (P : Nat → Prop) (w w' : World) : Prop where
  size : w.heap.size ≤ w'.heap.size
  keep : ∀ k, k < w.heap.size → ¬ P k → w'.heap[k]? = w.heap[k]?
namespace But2
variable {P Q : Nat → Prop} {w w1 w2 : World}
theorem refl (P : Nat → Prop) (w : World) : But2 P w w := ⟨Nat.le_refl _, fun _ _ _ => rfl⟩
theorem trans (h : But2 P w w1) (h2 : But2 P w1 w2) : But2 P w w2 := ⟨Nat.le_trans h.size h2.size, fun k hk hp => (h2.keep k (Nat.lt_of_lt_of_le hk h.size) hp).trans (h.keep k hk hp)⟩
theorem mono (h : But2 P w w1) (hq : ∀ k, k < w.heap.size → P k → Q k) : But2 Q w w1 := ⟨h.size, fun k hk hp => h.keep k hk fun hx => hp (hq k hk hx)⟩
theorem below (hb : Below w.heap.size w w1) : But2 P w w1 := ⟨hb.size, fun k hk _ => hb.block k hk⟩
theorem set (h : But2 P w w1) {g : Nat} (hg : P g) (o : Nat) (u : Value) : But2 P w (w1.setCell ⟨g, o, none⟩ u) :=
  ⟨by simpa [World.setCell] using h.size, fun k hk hp => (Below.heap_setCell w1 ⟨g, o, none⟩ u k (fun e => hp (by rw [e]; exact hg))).trans (h.keep k hk hp)⟩
end But2
/-- The definitions found so far, in a block of their own. -/
def DbAt (B : Nat) (w : World) (db : Nat) (defs : List Ref) : Prop := B ≤ db ∧ ∃ dv, w.heap[db]? = some (.cells #[dv] TD (0, 0)) ∧ RefRow w B dv defs
theorem RefRow.below {w w1 : World} {B : Nat} {v : Value} {l : List Ref} (h : RefRow w B v l) (hb : Below w.heap.size w w1) : RefRow w1 B v l := ⟨own_below h.1 hb, h.2⟩
theorem RefRow.set {w : World} {B : Nat} {v : Value} {l : List Ref} (h : RefRow w B v l) {g t : Nat} {cs : Array Value} {f : Nat × Nat} (hg : w.heap[g]? = some (.cells cs t f)) (hne : TR ≠ t) (o : Nat) (u : Value) : RefRow (w.setCell ⟨g, o, none⟩ u) B v l := ⟨own_set_type h.1 hg hne o u, h.2⟩
theorem DbAt.below {B : Nat} {w w1 : World} {db : Nat} {defs : List Ref} (h : DbAt B w db defs) (hb : Below w.heap.size w w1) : DbAt B w1 db defs := by
  obtain ⟨h1, dv, h2, h3⟩ := h
  exact ⟨h1, dv, blk_below h2 hb, h3.below hb⟩
theorem DbAt.set {B : Nat} {w : World} {db : Nat} {defs : List Ref} (h : DbAt B w db defs) {g : Nat} {cs : Array Value} {f : Nat × Nat} (hg : w.heap[g]? = some (.cells cs TN f)) (o : Nat) (u : Value) : DbAt B (w.setCell ⟨g, o, none⟩ u) db defs := by
  obtain ⟨h1, dv, h2, h3⟩ := h
  exact ⟨h1, dv, blk_far h2 (fun e => blk_ne h2 hg (by decide) e) u, h3.set hg (by decide) o u⟩

def ConPost (B g db : Nat) (nb : Nat → Nat) (kvi : Value) (d : Nd) (S : Bs) (fl : Bool) (defs : List Ref) (ok : Bool) (w : World) (e : Ending) (w' : World) : Prop :=
  ∃ lvi, e = .returned (.bool ok) ∧ w'.heap[g]? = some (.cells (cells nb kvi lvi { d with S := S, flag := fl }) TN (0, 0)) ∧ DbAt B w' db defs ∧ But2 (fun k => k = g ∨ k = db) w w' ∧ Below B w w'

section
variable {B : Nat} {w : World} {nb : Nat → Nat} {kv lv : Nat → Value} {n : Nat} {A : Nat → Nd}
theorem content_list (h : Fixed B w nb kv n A) (hT : Tells n A) (i : Nat) (hi : i < n) (hB : B ≤ nb i) (lvi : Value) (hn : w.heap[nb i]? = some (.cells (cells nb (kv i) lvi (A i)) TN (0, 0))) (hk : (A i).kind = 3) (db : Nat) (defs : List Ref) (hd : DbAt B w db defs) :
    Calls Tryz.prog 36 #[.pointer (some ⟨nb i, 0, none⟩), .pointer (some ⟨db, 0, none⟩)] w (ConPost B (nb i) db nb (kv i) (A i) (A i).S (tight A i) defs true w) := by
  have k0 : w.cell? ⟨nb i, 0, none⟩ = some (.int .i64 (A i).kind) := (cell_blk hn 0).trans rfl
  rw [hk] at k0
  have TI := tight_any h hT i hi
  have hBw : B ≤ w.heap.size := Nat.le_trans hB (Nat.le_of_lt (blk_lt hn))
  go_enter Tryz.func36, Tryz.ntmps36
  go_wp2_with (go_at_call 63; (with_reducible refine TI.mono ?_); rintro e w1 ⟨rfl, hb1⟩; have n1 := blk_below hn hb1; have c5 : w1.cell? ⟨nb i, 5, none⟩ = some (.bool (A i).flag) := (cell_blk n1 5).trans rfl; have g5 := blk_free n1 5)
  go_ret
  exact ⟨lvi, rfl, blk_set n1 5 _, (hd.below hb1).set n1 5 _, (But2.below hb1).set (.inl rfl) 5 _, (hb1.mono hBw).setCell (p := ⟨nb i, 5, none⟩) hB _⟩
theorem content_html (i : Nat) (hB : B ≤ nb i) (lvi : Value) (hn : w.heap[nb i]? = some (.cells (cells nb (kv i) lvi (A i)) TN (0, 0))) (hk : (A i).kind = 6) (hL : LinesAt0 w lvi (A i).lines) (hl : (joinEnd (A i).lines).length ≤ 140737488355328) (hll : (A i).lines.length ≤ 1000000000000) (db : Nat) (defs : List Ref) (hd : DbAt B w db defs) :
    Calls Tryz.prog 36 #[.pointer (some ⟨nb i, 0, none⟩), .pointer (some ⟨db, 0, none⟩)] w (ConPost B (nb i) db nb (kv i) (A i) (joinEnd (A i).lines) (A i).flag defs true w) := by
  have k0 : w.cell? ⟨nb i, 0, none⟩ = some (.int .i64 (A i).kind) := (cell_blk hn 0).trans rfl
  have k11 : w.cell? ⟨nb i, 11, none⟩ = some lvi := (cell_blk hn 11).trans rfl
  rw [hk] at k0
  have JN := join_any w _ _ hL hl hll
  have hBw : B ≤ w.heap.size := Nat.le_trans hB (Nat.le_of_lt (blk_lt hn))
  go_enter Tryz.func36, Tryz.ntmps36
  go_wp2_with (go_at_call 64; (with_reducible refine JN.mono ?_); rintro e w1 ⟨rfl, hb1⟩; have n1 := blk_below hn hb1; have c1 : w1.cell? ⟨nb i, 1, none⟩ = some (.string (mk (A i).S)) := (cell_blk n1 1).trans rfl; have g1 := blk_free n1 1)
  go_ret
  exact ⟨lvi, rfl, blk_set n1 1 _, (hd.below hb1).set n1 1 _, (But2.below hb1).set (.inl rfl) 1 _, (hb1.mono hBw).setCell (p := ⟨nb i, 1, none⟩) hB _⟩
theorem content_rest (i : Nat) (hB : B ≤ nb i) (lvi : Value) (hn : w.heap[nb i]? = some (.cells (cells nb (kv i) lvi (A i)) TN (0, 0))) (hk : (A i).kind ≠ 3 ∧ (A i).kind ≠ 5 ∧ (A i).kind ≠ 6 ∧ (A i).kind ≠ 7 ∧ (A i).kind ≠ 8) (db : Nat) (defs : List Ref) (hd : DbAt B w db defs) :
    Calls Tryz.prog 36 #[.pointer (some ⟨nb i, 0, none⟩), .pointer (some ⟨db, 0, none⟩)] w (ConPost B (nb i) db nb (kv i) (A i) (A i).S (A i).flag defs true w) := by
  have k0 : w.cell? ⟨nb i, 0, none⟩ = some (.int .i64 (A i).kind) := (cell_blk hn 0).trans rfl
  have q3 : (((A i).kind : Int) == 3) = false := by rw [beq_eq_false_iff_ne]; omega
  have q5 : (((A i).kind : Int) == 5) = false := by rw [beq_eq_false_iff_ne]; omega
  have q6 : (((A i).kind : Int) == 6) = false := by rw [beq_eq_false_iff_ne]; omega
  have q7 : (((A i).kind : Int) == 7) = false := by rw [beq_eq_false_iff_ne]; omega
  have q8 : (((A i).kind : Int) == 8) = false := by rw [beq_eq_false_iff_ne]; omega
  clear hk
  go_enter Tryz.func36, Tryz.ntmps36
  go_wp2
  go_ret
  exact ⟨lvi, rfl, hn, hd, But2.refl _ _, Below.refl _ _⟩
theorem body_of {g : Nat} {v : Value} {l : List Bs} (cl : w.cell? ⟨g, 11, none⟩ = some v) (hown : w.ownsRow B TS 1 v l.length (l.map strV)) (hL : l.length ≤ 1000000000000) (hz : (joinNl l).length ≤ 4000000000) :
    Calls Tryz.prog 66 #[.pointer (some ⟨g, 0, none⟩)] w fun e w' => e = .returned (.string (mk (body l))) ∧ Below w.heap.size w w' := by
  have TR := fun w => TrimRight_any (mk (joinNl l)) w (by rw [mk_size]; omega)
  rw [mk_data] at TR
  have JN : ∀ w0, Below w.heap.size w w0 → Calls Tryz.prog 97 #[v, .string ⟨#[10]⟩] w0 fun e w' => e = .returned (.string (mk (joinNl l))) ∧ Below w0.heap.size w0 w' := by
    intro w0 hb0
    have ho := own_below hown hb0
    rcases ho.2 with ⟨e, h0⟩ | ⟨g, cap, cur, e, hgB, hg, hle, hm, hs, ht⟩
    · rw [e]
      have hnil : l = [] := List.eq_nil_of_length_eq_zero h0
      rw [hnil]
      refine (Tryz.strings_Join_none none 0 ⟨#[10]⟩ w0).mono ?_
      rintro e1 w1 ⟨rfl, rfl⟩
      exact ⟨rfl, Below.refl _ _⟩
    · rw [e]
      have hj : ((l.map mk).map (·.data.toList)) = l := by rw [List.map_map]; exact List.map_id' _ |>.symm ▸ (by simp [Function.comp_def, mk_data])
      have hl2 : (l.map mk).length = l.length := List.length_map ..
      have J := Tryz.strings_Join g 0 cap (l.map mk) ⟨#[10]⟩ w0 (by
        intro j x hx
        rw [List.getElem?_map] at hx
        obtain ⟨y, hy, rfl⟩ := Option.map_eq_some_iff.1 hx
        have hc := ho.cells (g := g) (by rw [e]; rfl) j (strV y) (by rw [List.getElem?_map, hy]; rfl)
        rw [Nat.zero_add]
        have ea : (⟨g, 0, none⟩ : Addr).add j = ⟨g, j, none⟩ := by unfold Addr.add; split <;> simp_all
        rw [ea] at hc; exact hc) (blk_lt hg) (by rw [hl2]; omega) (by rw [hl2]; exact hle) (by rw [hj]; show (joinNl l).length ≤ _; omega)
      rw [hj, hl2] at J
      exact J
  go_enter Tryz.func66, Tryz.ntmps66
  go_wp2_with (first
    | (go_at_call 97; (with_reducible refine (JN _ (Below.refl _ _)).mono ?_); rintro e w1 ⟨rfl, hb1⟩)
    | (go_at_call 96; (with_reducible refine (TR _).mono ?_); rintro e w2 ⟨rfl, hb2⟩))
  go_ret
  exact ⟨rfl, hb1.trans (hb2.mono hb1.size)⟩
/-- A Head that is not one of Setext. -/
theorem content_head (i : Nat) (hB : B ≤ nb i) (lvi : Value) (hn : w.heap[nb i]? = some (.cells (cells nb (kv i) lvi (A i)) TN (0, 0))) (hk : (A i).kind = 8) (hs : (A i).setext = false) (hL : w.ownsRow B TS 1 lvi (A i).lines.length ((A i).lines.map strV)) (hl : (joinNl (A i).lines).length ≤ 4000000000) (hll : (A i).lines.length ≤ 1000000000000) (db : Nat) (defs : List Ref) (hd : DbAt B w db defs) :
    Calls Tryz.prog 36 #[.pointer (some ⟨nb i, 0, none⟩), .pointer (some ⟨db, 0, none⟩)] w (ConPost B (nb i) db nb (kv i) (A i) (body (A i).lines) (A i).flag defs true w) := by
  have k0 : w.cell? ⟨nb i, 0, none⟩ = some (.int .i64 (A i).kind) := (cell_blk hn 0).trans rfl
  have k11 : w.cell? ⟨nb i, 11, none⟩ = some lvi := (cell_blk hn 11).trans rfl
  rw [hk] at k0
  have BO := body_of k11 hL hll hl
  have hBw : B ≤ w.heap.size := Nat.le_trans hB (Nat.le_of_lt (blk_lt hn))
  go_enter Tryz.func36, Tryz.ntmps36
  go_wp2_with (go_at_call 66; (with_reducible refine BO.mono ?_); rintro e w1 ⟨rfl, hb1⟩; have n1 := blk_below hn hb1; have c1 : w1.cell? ⟨nb i, 1, none⟩ = some (.string (mk (A i).S)) := (cell_blk n1 1).trans rfl; have g1 := blk_free n1 1; have c0 : w1.cell? ⟨nb i, 0, none⟩ = some (.int .i64 (A i).kind) := (cell_blk n1 0).trans rfl; rw [hk] at c0; have c16 : w1.cell? ⟨nb i, 16, none⟩ = some (.bool (A i).setext) := (cell_blk n1 16).trans rfl; rw [hs] at c16)
  go_ret
  exact ⟨lvi, rfl, blk_set n1 1 _, (hd.below hb1).set n1 1 _, (But2.below hb1).set (.inl rfl) 1 _, (hb1.mono hBw).setCell (p := ⟨nb i, 1, none⟩) hB _⟩
set_option maxHeartbeats 8000000 in
/-- A paragraph, or a Head of Setext. -/
theorem content_text (F : Bs → List Ref × Bs) (i : Nat) (hB : B ≤ nb i) (lvi : Value) (hn : w.heap[nb i]? = some (.cells (cells nb (kv i) lvi (A i)) TN (0, 0))) (hk : (A i).kind = 7 ∨ ((A i).kind = 8 ∧ (A i).setext = true)) (hL : w.ownsRow B TS 1 lvi (A i).lines.length ((A i).lines.map strV)) (hl : (joinNl (A i).lines).length ≤ 4000000000) (hll : (A i).lines.length ≤ 1000000000000) (db : Nat) (defs : List Ref) (hd : DbAt B w db defs)
    (hlow : Low B w) (hF : RefsC F (body (A i).lines)) (hlen : defs.length + (F (body (A i).lines)).1.length ≤ 1000000000) :
    Calls Tryz.prog 36 #[.pointer (some ⟨nb i, 0, none⟩), .pointer (some ⟨db, 0, none⟩)] w (ConPost B (nb i) db nb (kv i) (A i) (F (body (A i).lines)).2 (A i).flag (addRefs defs (F (body (A i).lines)).1) (!(F (body (A i).lines)).2.isEmpty) w) := by
  have k11 : w.cell? ⟨nb i, 11, none⟩ = some lvi := (cell_blk hn 11).trans rfl
  have BO := body_of k11 hL hll hl
  have hBw : B ≤ w.heap.size := Nat.le_trans hB (Nat.le_of_lt (blk_lt hn))
  have hne : nb i ≠ db := by
    obtain ⟨_, dv, h2, _⟩ := hd
    exact blk_ne hn h2 (by decide)
  unfold RefsC RefsPost at hF
  have AD := fun w v u (h : RefRow w B v defs) (hu : w.ownsRow B TR 3 u (F (body (A i).lines)).1.length ((F (body (A i).lines)).1.flatMap refVals)) => Add_any w B defs (F (body (A i).lines)).1 v u h hu hlen
  clear hlen k11
  generalize (F (body (A i).lines)).1 = more at *
  generalize (F (body (A i).lines)).2 = rest at *
  have k0 : w.cell? ⟨nb i, 0, none⟩ = some (.int .i64 (A i).kind) := (cell_blk hn 0).trans rfl
  have FIN : ∀ {w w1 w3 w4 : World} {v4 : Value} (hn : w.heap[nb i]? = some (.cells (cells nb (kv i) lvi (A i)) TN (0, 0))) (hb1 : Below w.heap.size w w1) (hb3 : Below (w1.setCell ⟨nb i, 1, none⟩ (.string (mk (body (A i).lines)))).heap.size (w1.setCell ⟨nb i, 1, none⟩ (.string (mk (body (A i).lines)))) w3) (hb4 : Below w3.heap.size w3 w4) (hBw : B ≤ w.heap.size) (hR : RefRow w4 w3.heap.size v4 (addRefs defs more)) (hd : DbAt B w db defs),
      ConPost B (nb i) db nb (kv i) (A i) rest (A i).flag (addRefs defs more) (!rest.isEmpty) w (.returned (.bool (!rest.isEmpty))) ((w4.setCell ⟨db, 0, none⟩ v4).setCell ⟨nb i, 1, none⟩ (.string (mk rest))) := by
    intro w w1 w3 w4 v4 hn hb1 hb3 hb4 hBw hR hd
    have n1 := blk_below hn hb1
    have n2 := blk_set n1 1 (strV (body (A i).lines))
    have n3 := blk_below n2 hb3
    have n4 := blk_below n3 hb4
    have d3 := ((hd.below hb1).set n1 1 (strV (body (A i).lines))).below hb3
    obtain ⟨dB, dv, dh, dr⟩ := d3
    have d4 := blk_below dh hb4
    have n5 := blk_far n4 (p := ⟨db, 0, none⟩) hne v4
    have b1 : Below B w w1 := hb1.mono hBw
    have hs1 := hb1.size
    have b2 : Below B w (w1.setCell ⟨nb i, 1, none⟩ (.string (mk (body (A i).lines)))) := b1.setCell (p := ⟨nb i, 1, none⟩) hB _
    have b3 := b2.trans (hb3.mono (by have := b2.size; omega))
    have b4 := b3.trans (hb4.mono (by have := b3.size; omega))
    refine ⟨lvi, rfl, by have := blk_set n5 1 (strV rest); exact this, ⟨dB, v4, blk_far (blk_set d4 0 v4) (fun e => hne e.symm) _, RefRow.set (RefRow.set (g := db) ⟨own_lower hR.1 (Nat.le_trans hBw b3.size), hR.2⟩ d4 (by decide) 0 v4) n5 (by decide) 1 _⟩, ?_, (b4.setCell (p := ⟨db, 0, none⟩) dB _).setCell (p := ⟨nb i, 1, none⟩) hB _⟩
    have c2 : But2 (fun k => k = nb i ∨ k = db) w (w1.setCell ⟨nb i, 1, none⟩ (.string (mk (body (A i).lines)))) := (But2.below hb1).set (.inl rfl) 1 _
    exact (((c2.trans (But2.below hb3)).trans (But2.below hb4)).set (.inr rfl) 0 _).set (.inl rfl) 1 _
  rcases hk with hk | ⟨hk, hs⟩
  · rw [hk] at k0
    go_enter Tryz.func36, Tryz.ntmps36
    go_wp2_with (first
      | (go_at_call 66; (with_reducible refine BO.mono ?_); rintro e w1 ⟨rfl, hb1⟩; have n1 := blk_below hn hb1; have c1 : w1.cell? ⟨nb i, 1, none⟩ = some (.string (mk (A i).S)) := (cell_blk n1 1).trans rfl; have g1 := blk_free n1 1; have c0 : w1.cell? ⟨nb i, 0, none⟩ = some (.int .i64 (A i).kind) := (cell_blk n1 0).trans rfl; rw [hk] at c0; have n2 := blk_set n1 1 (strV (body (A i).lines)); have E2 : Env (w1.setCell ⟨nb i, 1, none⟩ (.string (mk (body (A i).lines)))) := (hlow.trans ((hb1.mono hBw).setCell (p := ⟨nb i, 1, none⟩) hB _)).env)
      | (go_at_call 67; (refine (hF _ E2).mono ?_); rintro e w3 ⟨v3, rfl, ho3, hb3⟩; have n3 := blk_below n2 hb3; have d3 := ((hd.below hb1).set n1 1 (strV (body (A i).lines))).below hb3; obtain ⟨dB, dv, dh, dr⟩ := d3; have cd : w3.cell? ⟨db, 0, none⟩ = some dv := cell_blk dh 0; have ho3' := own_lower ho3 (show B ≤ _ by have := hb1.size; simp [World.setCell]; omega))
      | (go_at_call 68; (refine (AD _ _ _ dr ho3').mono ?_); rintro e w4 ⟨v4, rfl, hR4, hb4⟩; obtain ⟨A4, cc4, e4, _⟩ := own_form hR4.1; subst e4; have n4 := blk_below n3 hb4; have d4 := blk_below dh hb4; have cd4 : w4.cell? ⟨db, 0, none⟩ = some dv := cell_blk d4 0; have gd4 := blk_free d4 0; have c14 : w4.cell? ⟨nb i, 1, none⟩ = some (.string (mk (body (A i).lines))) := (cell_blk n4 1).trans rfl; have g14 := blk_free n4 1))
    go_ret
    refine (?_ : ConPost B (nb i) db nb (kv i) (A i) rest (A i).flag (addRefs defs more) (!rest.isEmpty) w (.returned (.bool (!(mk rest).toList.isEmpty))) _)
    rw [show (mk rest).toList.isEmpty = rest.isEmpty by rw [toList_data]; rfl]
    exact FIN hn hb1 hb3 hb4 hBw hR4 hd
  · rw [hk] at k0
    go_enter Tryz.func36, Tryz.ntmps36
    go_wp2_with (first
      | (go_at_call 66; (with_reducible refine BO.mono ?_); rintro e w1 ⟨rfl, hb1⟩; have n1 := blk_below hn hb1; have c1 : w1.cell? ⟨nb i, 1, none⟩ = some (.string (mk (A i).S)) := (cell_blk n1 1).trans rfl; have g1 := blk_free n1 1; have c0 : w1.cell? ⟨nb i, 0, none⟩ = some (.int .i64 (A i).kind) := (cell_blk n1 0).trans rfl; rw [hk] at c0; have c16 : w1.cell? ⟨nb i, 16, none⟩ = some (.bool (A i).setext) := (cell_blk n1 16).trans rfl; rw [hs] at c16; have n2 := blk_set n1 1 (strV (body (A i).lines)); have E2 : Env (w1.setCell ⟨nb i, 1, none⟩ (.string (mk (body (A i).lines)))) := (hlow.trans ((hb1.mono hBw).setCell (p := ⟨nb i, 1, none⟩) hB _)).env)
      | (go_at_call 67; (refine (hF _ E2).mono ?_); rintro e w3 ⟨v3, rfl, ho3, hb3⟩; have n3 := blk_below n2 hb3; have d3 := ((hd.below hb1).set n1 1 (strV (body (A i).lines))).below hb3; obtain ⟨dB, dv, dh, dr⟩ := d3; have cd : w3.cell? ⟨db, 0, none⟩ = some dv := cell_blk dh 0; have ho3' := own_lower ho3 (show B ≤ _ by have := hb1.size; simp [World.setCell]; omega))
      | (go_at_call 68; (refine (AD _ _ _ dr ho3').mono ?_); rintro e w4 ⟨v4, rfl, hR4, hb4⟩; obtain ⟨A4, cc4, e4, _⟩ := own_form hR4.1; subst e4; have n4 := blk_below n3 hb4; have d4 := blk_below dh hb4; have cd4 : w4.cell? ⟨db, 0, none⟩ = some dv := cell_blk d4 0; have gd4 := blk_free d4 0; have c14 : w4.cell? ⟨nb i, 1, none⟩ = some (.string (mk (body (A i).lines))) := (cell_blk n4 1).trans rfl; have g14 := blk_free n4 1))
    go_ret
    refine (?_ : ConPost B (nb i) db nb (kv i) (A i) rest (A i).flag (addRefs defs more) (!rest.isEmpty) w (.returned (.bool (!(mk rest).toList.isEmpty))) _)
    rw [show (mk rest).toList.isEmpty = rest.isEmpty by rw [toList_data]; rfl]
    exact FIN hn hb1 hb3 hb4 hBw hR4 hd
end
end Bk
end Go.Proofs.YtehmcahdjldhbaaGreatDoor
end
