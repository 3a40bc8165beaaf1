/- Parts of this session's proof, one behind the other: M29 Kd WGuard. -/
import Derived.Test.YtehmcahdjldhbaaGreatDoorZ12
import Derived.Test.YtehmcahdjldhbaaGreatDoorZ01
import Derived.Test.YtehmcahdjldhbaaGreatDoorZ25
section
/- Package block: content of a Code; of any node. -/
open Go Go.RowKit
set_option linter.unusedVariables false
set_option linter.unusedSimpArgs false
set_option maxRecDepth 100000
namespace Go.Proofs.YtehmcahdjldhbaaGreatDoor
open Wk
namespace Bk
section
variable {B : Nat} {w : World} {nb : Nat → Nat} {kv lv : Nat → Value} {n : Nat} {A : Nat → Nd}
theorem dropBlank_nil : dropBlank [] = [] := rfl
theorem dropBlank_take (l : List Bs) (m : Nat) (s : Bs) (h : l[m]? = some s) : dropBlank (l.take (m + 1)) = if Sc.blanks s then dropBlank (l.take m) else l.take (m + 1) := by
  obtain ⟨hl, he⟩ := List.getElem?_eq_some_iff.1 h
  rw [List.take_succ_eq_append_getElem hl, he]
  unfold dropBlank
  rw [List.reverse_append, List.reverse_singleton, List.singleton_append, List.dropWhile_cons]
  cases Sc.blanks s <;> simp
theorem join_dropBlank (l : List Bs) : (joinEnd (dropBlank l)).length ≤ (joinEnd l).length := by
  have : l = dropBlank l ++ (l.reverse.takeWhile Sc.blanks).reverse := by
    unfold dropBlank
    rw [← List.reverse_append, List.takeWhile_append_dropWhile, List.reverse_reverse]
  conv => rhs; rw [this]
  unfold joinEnd
  rw [List.flatMap_append, List.length_append]; omega
/-- A Code: its lines without fences lose the blank ones at their end. -/
theorem content_code1 (i : Nat) (hB : B ≤ nb i) (lvi : Value) (hn : w.heap[nb i]? = some (.cells (cells nb (kv i) lvi (A i)) TN (0, 0))) (hk : (A i).kind = 5) (hf : (A i).fn ≠ 0 ∨ (A i).lines = []) (hL : LinesAt0 w lvi (A i).lines) (hl : (joinEnd (A i).lines).length ≤ 140737488355328) (hll : (A i).lines.length ≤ 1000000000000) (db : Nat) (defs : List Ref) (hd : DbAt B w db defs) :
    Calls Tryz.prog 36 #[.pointer (some ⟨nb i, 0, none⟩), .pointer (some ⟨db, 0, none⟩)] w (ConPost B (nb i) db nb (kv i) (A i) (joinEnd (A i).lines) (A i).flag defs true w) := by
  have k0 : w.cell? ⟨nb i, 0, none⟩ = some (.int .i64 (A i).kind) := (cell_blk hn 0).trans rfl
  have k11 : w.cell? ⟨nb i, 11, none⟩ = some lvi := (cell_blk hn 11).trans rfl
  have k13 : w.cell? ⟨nb i, 13, none⟩ = some (.int .i64 (A i).fn) := (cell_blk hn 13).trans rfl
  rw [hk] at k0
  have JN := join_any w _ _ hL hl hll
  have hBw : B ≤ w.heap.size := Nat.le_trans hB (Nat.le_of_lt (blk_lt hn))
  obtain ⟨Av, cv, hv⟩ : ∃ A' c, lvi = .slice A' (A i).lines.length c := by
    rcases hL with ⟨e, A', c, rfl⟩ | ⟨g, cap, e, _⟩
    · exact ⟨A', c, by rw [e]; rfl⟩
    · exact ⟨_, _, e⟩
  by_cases h0 : (A i).fn = 0
  · have hnil : (A i).lines = [] := by rcases hf with h | h; exact absurd h0 h; exact h
    have hlen : (A i).lines.length = 0 := by rw [hnil]; rfl
    rw [hlen] at hv
    rw [h0] at k13
    subst hv
    have hnilh := Lib.hid hnil
    clear hL hnil hf
    go_enter Tryz.func36, Tryz.ntmps36
    go_wp2
    refine wp_loop_rounds 1 ?_
    rw [rounds_succ]
    go_wp2_with (go_at_call 64; (with_reducible refine JN.mono ?_); rintro e w1 ⟨rfl, hb1⟩; have n1 := blk_below hn hb1; have c1 : w1.cell? ⟨nb i, 1, none⟩ = some (.string (mk (A i).S)) := (cell_blk n1 1).trans rfl; have g1 := blk_free n1 1)
    go_ret
    exact ⟨_, rfl, blk_set n1 1 _, (hd.below hb1).set n1 1 _, (But2.below hb1).set (.inl rfl) 1 _, (hb1.mono hBw).setCell (p := ⟨nb i, 1, none⟩) hB _⟩
  · have q0 : (((A i).fn : Int) == 0) = false := by rw [beq_eq_false_iff_ne]; omega
    subst hv
    clear hL
    go_enter Tryz.func36, Tryz.ntmps36
    go_wp2
    refine wp_loop_rounds 1 ?_
    rw [rounds_succ]
    go_wp2_with (go_at_call 64; (with_reducible refine JN.mono ?_); rintro e w1 ⟨rfl, hb1⟩; have n1 := blk_below hn hb1; have c1 : w1.cell? ⟨nb i, 1, none⟩ = some (.string (mk (A i).S)) := (cell_blk n1 1).trans rfl; have g1 := blk_free n1 1)
    go_ret
    exact ⟨_, rfl, blk_set n1 1 _, (hd.below hb1).set n1 1 _, (But2.below hb1).set (.inl rfl) 1 _, (hb1.mono hBw).setCell (p := ⟨nb i, 1, none⟩) hB _⟩
set_option maxHeartbeats 8000000 in
theorem content_code2 (i : Nat) (hB : B ≤ nb i) (lvi : Value) (hn : w.heap[nb i]? = some (.cells (cells nb (kv i) lvi (A i)) TN (0, 0))) (hk : (A i).kind = 5) (hf : (A i).fn = 0) (hne : (A i).lines ≠ []) (hL : w.ownsRow B TS 1 lvi (A i).lines.length ((A i).lines.map strV)) (hl : (joinEnd (A i).lines).length ≤ 140737488355328) (hll : (A i).lines.length ≤ 1000000000000) (hsm : ∀ s ∈ (A i).lines, Small (mk s)) (db : Nat) (defs : List Ref) (hd : DbAt B w db defs) :
    Calls Tryz.prog 36 #[.pointer (some ⟨nb i, 0, none⟩), .pointer (some ⟨db, 0, none⟩)] w (ConPost B (nb i) db nb (kv i) (A i) (joinEnd (dropBlank (A i).lines)) (A i).flag defs true w) := by
  obtain ⟨g, cap, rfl, hgB, hg⟩ := hL.form (List.length_pos_iff.2 hne)
  have k0 : w.cell? ⟨nb i, 0, none⟩ = some (.int .i64 (A i).kind) := (cell_blk hn 0).trans rfl
  have k11 : w.cell? ⟨nb i, 11, none⟩ = some (.slice (some ⟨g, 0, none⟩) (A i).lines.length cap) := (cell_blk hn 11).trans rfl
  have k13 : w.cell? ⟨nb i, 13, none⟩ = some (.int .i64 (A i).fn) := (cell_blk hn 13).trans rfl
  rw [hk] at k0
  have hBw : B ≤ w.heap.size := Nat.le_trans hB (Nat.le_of_lt (blk_lt hn))
  have hcap : (A i).lines.length ≤ cap := by obtain ⟨A', c, e, hle⟩ := own_form hL; cases e; exact hle
  obtain ⟨cur, hgb⟩ := own_blk hL (k := g) rfl
  have gi : g ≠ nb i := blk_ne hgb hn (by decide)
  have gd : g ≠ db := by obtain ⟨_, dv, h2, _⟩ := hd; exact blk_ne hgb h2 (by decide)
  have hcl : ∀ k s, (A i).lines[k]? = some s → w.cell? ⟨g, k, none⟩ = some (.string (mk s)) := fun k s hk => by
    have := hL.cells (g := g) rfl k (strV s) (by rw [List.getElem?_map, hk]; rfl)
    rw [add_off] at this; exact this
  have hcw : ∀ {wr}, But2 (fun k => k = nb i ∨ k = db) w wr → ∀ k s, (A i).lines[k]? = some s → wr.cell? ⟨g, k, none⟩ = some (.string (mk s)) := fun hbt k s hk => by
    have e := hbt.keep g hg (by rintro (e | e); exact gi e; exact gd e)
    have h1 := hcl k s hk
    rw [cell_blk hgb] at h1
    rw [cell_blk (e.trans hgb)]; exact h1
  go_enter Tryz.func36, Tryz.ntmps36
  go_wp2
  go_loopw [5] (fun kk wr => ∃ m : Nat, kk = .int .i64 m ∧ m ≤ (A i).lines.length ∧ Hid (dropBlank ((A i).lines.take m) = dropBlank (A i).lines) ∧ wr.heap[nb i]? = some (.cells (cells nb (kv i) (.slice (some ⟨g, 0, none⟩) m cap) (A i)) TN (0, 0)) ∧ DbAt B wr db defs ∧ But2 (fun k => k = nb i ∨ k = db) w wr ∧ Below B w wr) (fun kk _ => (intOf kk).toNat)
  case atStart => exact ⟨_, rfl, Nat.le_refl _, by rw [List.take_length]; exact Lib.hid rfl, hn, hd, But2.refl _ _, Below.refl _ _⟩
  case round =>
    obtain ⟨m, rfl, hm, hD, hnr, hdr, hbt, hbl⟩ := hrel
    have r11 : wr.cell? ⟨nb i, 11, none⟩ = some (.slice (some ⟨g, 0, none⟩) m cap) := (cell_blk hnr 11).trans rfl
    have r13 : wr.cell? ⟨nb i, 13, none⟩ = some (.int .i64 (A i).fn) := (cell_blk hnr 13).trans rfl
    have g1 := blk_free hnr 1
    have g11 := blk_free hnr 11
    rw [hf] at r13
    have hbs := hbl.size
    have hbw : B ≤ wr.heap.size := by have := hbt.size; omega
    cases m with
    | zero =>
      have hT : Hid (dropBlank (A i).lines = []) := by apply Lib.hid; rw [← hD.out]; rfl
      have JN := join_any wr [] (.slice (some ⟨g, 0, none⟩) 0 cap) (.inl ⟨rfl, _, _, rfl⟩) (by simp [joinEnd]) (by simp)
      clear hcw hcl hsm
      go_wp2_with (go_at_call 64; (with_reducible refine JN.mono ?_); rintro e w1 ⟨rfl, hb1⟩; have n1 := blk_below hnr hb1; have c1 : w1.cell? ⟨nb i, 1, none⟩ = some (.string (mk (A i).S)) := (cell_blk n1 1).trans rfl; have g1 := blk_free n1 1)
      go_ret
      rw [hT.out]
      exact ⟨_, rfl, blk_set n1 1 _, (hdr.below hb1).set n1 1 _, (hbt.trans (But2.below hb1)).set (.inl rfl) 1 _, (hbl.trans (hb1.mono hbw)).setCell (p := ⟨nb i, 1, none⟩) hB _⟩
    | succ m =>
      have h1 : (A i).lines[m]? = some (A i).lines[m] := List.getElem?_eq_getElem (by omega)
      have q1 := hcw hbt m _ h1
      have hst := dropBlank_take _ m _ h1
      have hsm1 := hsm _ (List.getElem_mem (show m < (A i).lines.length by omega))
      generalize (A i).lines[m] = s at *
      have BL := Blank_any (mk s) wr hsm1
      rw [mk_data] at BL
      have cA := hcw hbt
      cases hb : Sc.blanks s with
      | true =>
        rw [hb] at BL
        have hT : Hid (dropBlank ((A i).lines.take m) = dropBlank (A i).lines) := by apply Lib.hid; rw [← hD.out, hst, if_pos hb]
        clear hst hcw hcl hsm cA h1
        have hdm : decide ((m : Int) + 1 > 0) = true := by rw [decide_eq_true_iff]; omega
        go_wp2_with (go_at_call 65; (with_reducible refine BL.mono ?_); rintro e w1 ⟨rfl, hb1⟩; have n1 := blk_below hnr hb1; have c11 : w1.cell? ⟨nb i, 11, none⟩ = some (.slice (some ⟨g, 0, none⟩) (m + 1) cap) := (cell_blk n1 11).trans rfl; have g11' := blk_free n1 11)
        go_roundw
        case rel => exact ⟨m, by go_num, by omega, hT, blk_set n1 11 _, (hdr.below hb1).set n1 11 _, (hbt.trans (But2.below hb1)).set (.inl rfl) 11 _, (hbl.trans (hb1.mono hbw)).setCell (p := ⟨nb i, 11, none⟩) hB _⟩
        case measure => simp [intOf]
      | false =>
        rw [hb] at BL
        have hT : Hid (dropBlank (A i).lines = (A i).lines.take (m + 1)) := by apply Lib.hid; rw [← hD.out, hst, if_neg (by rw [hb]; simp)]
        have hJL := join_le (A i).lines (m + 1)
        have hlm : ((A i).lines.take (m + 1)).length = m + 1 := by rw [List.length_take]; omega
        have JN := fun w1 (hb1 : Below wr.heap.size wr w1) => join_any w1 ((A i).lines.take (m + 1)) (.slice (some ⟨g, 0, none⟩) (m + 1) cap) (.inr ⟨g, cap, by rw [hlm], by rw [hlm]; omega, fun k s hk => by
          rw [List.getElem?_take] at hk
          split at hk
          · have h3 := cA k s hk; exact (hb1.cell (World.block_lt_of_cell? _ _ h3)).trans h3
          · cases hk⟩) (by omega) (by rw [hlm]; omega)
        clear hst hcw hcl hsm cA h1 hlm
        go_wp2_with (first
          | (go_at_call 65; (with_reducible refine BL.mono ?_); rintro e w1 ⟨rfl, hb1⟩; have n1 := blk_below hnr hb1; have c11 : w1.cell? ⟨nb i, 11, none⟩ = some (.slice (some ⟨g, 0, none⟩) (m + 1) cap) := (cell_blk n1 11).trans rfl; have JN1 := JN _ hb1)
          | (go_at_call 64; (with_reducible refine JN1.mono ?_); rintro e w2 ⟨rfl, hb2⟩; have n2 := blk_below n1 hb2; have c1 : w2.cell? ⟨nb i, 1, none⟩ = some (.string (mk (A i).S)) := (cell_blk n2 1).trans rfl; have g1 := blk_free n2 1))
        go_ret
        rw [hT.out]
        have hb12 := hb1.trans (hb2.mono hb1.size)
        exact ⟨_, rfl, blk_set n2 1 _, (hdr.below hb12).set n2 1 _, (hbt.trans (But2.below hb12)).set (.inl rfl) 1 _, (hbl.trans (hb12.mono hbw)).setCell (p := ⟨nb i, 1, none⟩) hB _⟩
end
theorem joinNl_le (l : List Bs) : (joinNl l).length ≤ (joinEnd l).length := by
  induction l with
  | nil => simp [joinNl]
  | cons a l ih =>
    cases l with
    | nil => simp [joinNl, joinEnd]
    | cons b l =>
      unfold joinNl joinEnd at *
      simp only [List.intercalate, List.intersperse_cons_cons, List.flatten_cons, List.length_append, List.flatMap_cons, List.length_singleton] at *
      omega
theorem mem_join_le (l : List Bs) (s : Bs) (h : s ∈ l) : s.length ≤ (joinEnd l).length := by
  induction l with
  | nil => cases h
  | cons a l ih =>
    unfold joinEnd at *
    rw [List.flatMap_cons, List.length_append, List.length_append]
    rcases List.mem_cons.1 h with rfl | h
    · omega
    · have := ih h; omega
/-- What the nodes must be to be told. -/
structure Telling (F : Bs → List Ref × Bs) (n : Nat) (A : Nat → Nd) : Prop extends Tells n A where
  linL : ∀ i, i < n → (A i).lines.length ≤ 1000000000000
  join : ∀ i, i < n → (joinEnd (A i).lines).length ≤ 1000000000
  refs : ∀ i, i < n → ((A i).kind = 7 ∨ ((A i).kind = 8 ∧ (A i).setext = true)) → RefsC F (body (A i).lines)
/-- The nodes' memory while they are told: those of V have been. -/
structure Ph (B : Nat) (w : World) (nb : Nat → Nat) (kv lv : Nat → Value) (n : Nat) (A : Nat → Nd) (V : Nat → Prop) (db : Nat) (defs : List Ref) : Prop where
  fx : Fixed B w nb kv n A
  node : ∀ i, i < n → ¬ V i → w.heap[nb i]? = some (.cells (cells nb (kv i) (lv i) (A i)) TN (0, 0))
  typ : ∀ i, i < n → ∃ cs, w.heap[nb i]? = some (.cells cs TN (0, 0))
  lines : ∀ i, i < n → w.ownsRow B TS 1 (lv i) (A i).lines.length ((A i).lines.map strV)
  base : ∀ i, i < n → B ≤ nb i
  inj : ∀ i j, i < n → j < n → nb i = nb j → i = j
  dbs : DbAt B w db defs
  low : Low B w
def textNode (d : Nd) : Prop := d.kind = 7 ∨ (d.kind = 8 ∧ d.setext = true)
theorem content_any {B : Nat} {w : World} {nb : Nat → Nat} {kv lv : Nat → Value} {n : Nat} {A : Nat → Nd} {V : Nat → Prop} {db : Nat} {defs : List Ref} (F : Bs → List Ref × Bs) (h : Ph B w nb kv lv n A V db defs) (hT : Telling F n A) (i : Nat) (hi : i < n) (hv : ¬ V i)
    (hlen : textNode (A i) → defs.length + (F (body (A i).lines)).1.length ≤ 1000000000) :
    Calls Tryz.prog 36 #[.pointer (some ⟨nb i, 0, none⟩), .pointer (some ⟨db, 0, none⟩)] w (ConPost B (nb i) db nb (kv i) (A i) (content F A i defs).1 (content F A i defs).2.1 (content F A i defs).2.2.1 (content F A i defs).2.2.2 w) := by
  have hn := h.node i hi hv
  have hB := h.base i hi
  have hj := hT.join i hi
  have hjn := joinNl_le (A i).lines
  have hll := hT.linL i hi
  have hL := h.lines i hi
  by_cases k3 : (A i).kind = 3
  · have e : content F A i defs = ((A i).S, tight A i, defs, true) := by unfold content; rw [if_pos k3]
    rw [e]
    exact content_list h.fx hT.toTells i hi hB (lv i) hn k3 db defs h.dbs
  by_cases k6 : (A i).kind = 6
  · have e : content F A i defs = (joinEnd (A i).lines, (A i).flag, defs, true) := by unfold content; rw [if_neg k3, if_pos k6]
    rw [e]
    exact content_html i hB (lv i) hn k6 (.of_own hL) (by omega) hll db defs h.dbs
  by_cases k5 : (A i).kind = 5
  · have e : content F A i defs = (joinEnd (if (A i).fn = 0 then dropBlank (A i).lines else (A i).lines), (A i).flag, defs, true) := by unfold content; rw [if_neg k3, if_neg k6, if_pos k5]
    rw [e]
    by_cases hf : (A i).fn = 0
    · rw [if_pos hf]
      by_cases hne : (A i).lines = []
      · have := content_code1 i hB (lv i) hn k5 (.inr hne) (.of_own hL) (by omega) hll db defs h.dbs
        have e2 : dropBlank (A i).lines = (A i).lines := by rw [hne]; rfl
        rw [e2]
        exact this
      · exact content_code2 i hB (lv i) hn k5 hf hne hL (by omega) hll (fun s hs => by unfold Small; rw [mk_size]; have := mem_join_le _ _ hs; omega) db defs h.dbs
    · rw [if_neg hf]
      exact content_code1 i hB (lv i) hn k5 (.inl hf) (.of_own hL) (by omega) hll db defs h.dbs
  by_cases kt : (A i).kind = 7 ∨ ((A i).kind = 8 ∧ (A i).setext = true)
  · have e : content F A i defs = ((F (body (A i).lines)).2, (A i).flag, addRefs defs (F (body (A i).lines)).1, !(F (body (A i).lines)).2.isEmpty) := by unfold content; rw [if_neg k3, if_neg k6, if_neg k5, if_pos kt]
    rw [e]
    exact content_text F i hB (lv i) hn kt hL (by omega) hll db defs h.dbs h.low (hT.refs i hi kt) (hlen kt)
  by_cases k8 : (A i).kind = 8
  · have e : content F A i defs = (body (A i).lines, (A i).flag, defs, true) := by unfold content; rw [if_neg k3, if_neg k6, if_neg k5, if_neg kt, if_pos k8]
    rw [e]
    have hs : (A i).setext = false := by
      cases hs : (A i).setext with
      | false => rfl
      | true => exact absurd (.inr ⟨k8, hs⟩) kt
    exact content_head i hB (lv i) hn k8 hs hL (by omega) hll db defs h.dbs
  · have e : content F A i defs = ((A i).S, (A i).flag, defs, true) := by unfold content; rw [if_neg k3, if_neg k6, if_neg k5, if_neg kt, if_neg k8]
    rw [e]
    exact content_rest i hB (lv i) hn ⟨k3, k5, k6, fun e => kt (.inl e), k8⟩ db defs h.dbs
end Bk
end Go.Proofs.YtehmcahdjldhbaaGreatDoor
end
section
/- Blocks in memory: the kind of []block.Block, as the kit's print.sh has printed it for this seat. -/
open Go Go.RowKit Go.Proofs.YtehmcahdjldhbaaGreatDoorW.PrintWords
set_option linter.unusedVariables false
set_option linter.unusedSimpArgs false
namespace Go.Proofs.YtehmcahdjldhbaaGreatDoor
namespace Bk
theorem info32 : (Tryz.prog.info? 32).map (fun i => (i.zero, i.size, i.bytes)) = some (some (.agg #[(.int .i64 0), (.string ⟨#[]⟩), (.string ⟨#[]⟩), (.int .i64 0), (.int .i64 0), (.bool false), (.int .i64 0), (.int .i64 0), (.slice none 0 0)]), 9, 104) := by kernel_rfl
/-! ### Blocks as values: printed by the kit's print.sh for this seat -/
structure S32 where
  f0 : Int
  f1 : ByteArray
  f2 : ByteArray
  f3 : Int
  f4 : Int
  f5 : Bool
  f6 : Int
  f7 : Int
  f8 : (List S32)
def z32 : S32 := ⟨(0 : Int), (⟨#[]⟩ : ByteArray), (⟨#[]⟩ : ByteArray), (0 : Int), (0 : Int), false, (0 : Int), (0 : Int), ([] : List S32)⟩
def F32 (d : Kd S32) : Kd S32 := Kd.iso (Kd.pair (Kd.int .i64) (Kd.pair Kd.string (Kd.pair Kd.string (Kd.pair (Kd.int .i64) (Kd.pair (Kd.int .i64) (Kd.pair Kd.bool (Kd.pair (Kd.int .i64) (Kd.pair (Kd.int .i64) (Kd.slice 32 d))))))))) (fun x : S32 => (x.f0, x.f1, x.f2, x.f3, x.f4, x.f5, x.f6, x.f7, x.f8))
theorem mono32 : Kd.Mono F32 := Kd.mono_iso _ (Kd.mono_pair (Kd.mono_const _) (Kd.mono_pair (Kd.mono_const _) (Kd.mono_pair (Kd.mono_const _) (Kd.mono_pair (Kd.mono_const _) (Kd.mono_pair (Kd.mono_const _) (Kd.mono_pair (Kd.mono_const _) (Kd.mono_pair (Kd.mono_const _) (Kd.mono_pair (Kd.mono_const _) (Kd.mono_slice 32 Kd.mono_id)))))))))
theorem sub32 : Kd.Sub F32 [32] := Kd.sub_iso _ (Kd.sub_pair (Kd.sub_const _ (by decide)) (Kd.sub_pair (Kd.sub_const _ (by decide)) (Kd.sub_pair (Kd.sub_const _ (by decide)) (Kd.sub_pair (Kd.sub_const _ (by decide)) (Kd.sub_pair (Kd.sub_const _ (by decide)) (Kd.sub_pair (Kd.sub_const _ (by decide)) (Kd.sub_pair (Kd.sub_const _ (by decide)) (Kd.sub_pair (Kd.sub_const _ (by decide)) (Kd.sub_slice 32 (by decide) Kd.sub_id)))))))))
theorem sz32 : ∀ n, (Kd.upto F32 9 [32] n).sz = 9 := Kd.upto_sz (fun _ => rfl)
def k32 : Kd S32 := Kd.fix F32 9 [32] sz32 (Kd.upto_E sub32)
theorem k32_open {w : World} {x : S32} {cs : List Value} (h : k32.K w x cs) : ∃ A8 c8, cs = [.int .i64 x.f0, .string x.f1, .string x.f2, .int .i64 x.f3, .int .i64 x.f4, .bool x.f5, .int .i64 x.f6, .int .i64 x.f7, .slice A8 x.f8.length c8] ∧ x.f8.length ≤ c8 ∧ k32.C w A8 x.f8.length x.f8 := by
  obtain ⟨n, h⟩ := h
  cases n with
  | zero => exact h.elim
  | succ n =>
    obtain ⟨_, _, rfl, rfl, ⟨_, _, rfl, rfl, ⟨_, _, rfl, rfl, ⟨_, _, rfl, rfl, ⟨_, _, rfl, rfl, ⟨_, _, rfl, rfl, ⟨_, _, rfl, rfl, ⟨_, _, rfl, rfl, ⟨A8, c8, rfl, l8, g8⟩⟩⟩⟩⟩⟩⟩⟩⟩ := h
    exact ⟨A8, c8, rfl, l8, Kd.fix_C g8⟩
theorem k32_openM {w : World} {base : Nat} {ok : Nat → Prop} {x : S32} {cs : List Value} (h : k32.M w base ok x cs) : ∃ v8, cs = [.int .i64 x.f0, .string x.f1, .string x.f2, .int .i64 x.f3, .int .i64 x.f4, .bool x.f5, .int .i64 x.f6, .int .i64 x.f7, v8] ∧ k32.R 32 w base ok v8 x.f8 := by
  obtain ⟨n, h⟩ := h
  cases n with
  | zero => exact h.elim
  | succ n =>
    obtain ⟨_, _, rfl, rfl, ⟨_, _, rfl, rfl, ⟨_, _, rfl, rfl, ⟨_, _, rfl, rfl, ⟨_, _, rfl, rfl, ⟨_, _, rfl, rfl, ⟨_, _, rfl, rfl, ⟨_, _, rfl, rfl, ⟨v8, rfl, g8⟩⟩⟩⟩⟩⟩⟩⟩⟩ := h
    exact ⟨v8, rfl, Kd.fix_R g8⟩
theorem k32_mk (w : World) (x : S32) {A8 : Option Addr} {c8 : Nat} (l8 : x.f8.length ≤ c8) (g8 : k32.C w A8 x.f8.length x.f8) : k32.K w x [.int .i64 x.f0, .string x.f1, .string x.f2, .int .i64 x.f3, .int .i64 x.f4, .bool x.f5, .int .i64 x.f6, .int .i64 x.f7, .slice A8 x.f8.length c8] := by
  obtain ⟨n8, q8⟩ := Kd.fix_C_back mono32 g8
  have r8 := Kd.upto_C_le mono32 sz32 (show n8 ≤ n8 by omega) q8
  exact ⟨n8 + 1, ⟨[.int .i64 x.f0], [.string x.f1, .string x.f2, .int .i64 x.f3, .int .i64 x.f4, .bool x.f5, .int .i64 x.f6, .int .i64 x.f7, .slice A8 x.f8.length c8], rfl, rfl, ⟨[.string x.f1], [.string x.f2, .int .i64 x.f3, .int .i64 x.f4, .bool x.f5, .int .i64 x.f6, .int .i64 x.f7, .slice A8 x.f8.length c8], rfl, rfl, ⟨[.string x.f2], [.int .i64 x.f3, .int .i64 x.f4, .bool x.f5, .int .i64 x.f6, .int .i64 x.f7, .slice A8 x.f8.length c8], rfl, rfl, ⟨[.int .i64 x.f3], [.int .i64 x.f4, .bool x.f5, .int .i64 x.f6, .int .i64 x.f7, .slice A8 x.f8.length c8], rfl, rfl, ⟨[.int .i64 x.f4], [.bool x.f5, .int .i64 x.f6, .int .i64 x.f7, .slice A8 x.f8.length c8], rfl, rfl, ⟨[.bool x.f5], [.int .i64 x.f6, .int .i64 x.f7, .slice A8 x.f8.length c8], rfl, rfl, ⟨[.int .i64 x.f6], [.int .i64 x.f7, .slice A8 x.f8.length c8], rfl, rfl, ⟨[.int .i64 x.f7], [.slice A8 x.f8.length c8], rfl, rfl, ⟨A8, c8, rfl, l8, r8⟩⟩⟩⟩⟩⟩⟩⟩⟩⟩
theorem k32_mkM (w : World) (base : Nat) (ok : Nat → Prop) (x : S32) {v8 : Value} (g8 : k32.R 32 w base ok v8 x.f8) : k32.M w base ok x [.int .i64 x.f0, .string x.f1, .string x.f2, .int .i64 x.f3, .int .i64 x.f4, .bool x.f5, .int .i64 x.f6, .int .i64 x.f7, v8] := by
  obtain ⟨n8, q8⟩ := Kd.fix_R_back mono32 g8
  have r8 := Kd.upto_R_le mono32 sz32 (show n8 ≤ n8 by omega) q8
  exact ⟨n8 + 1, ⟨[.int .i64 x.f0], [.string x.f1, .string x.f2, .int .i64 x.f3, .int .i64 x.f4, .bool x.f5, .int .i64 x.f6, .int .i64 x.f7, v8], rfl, rfl, ⟨[.string x.f1], [.string x.f2, .int .i64 x.f3, .int .i64 x.f4, .bool x.f5, .int .i64 x.f6, .int .i64 x.f7, v8], rfl, rfl, ⟨[.string x.f2], [.int .i64 x.f3, .int .i64 x.f4, .bool x.f5, .int .i64 x.f6, .int .i64 x.f7, v8], rfl, rfl, ⟨[.int .i64 x.f3], [.int .i64 x.f4, .bool x.f5, .int .i64 x.f6, .int .i64 x.f7, v8], rfl, rfl, ⟨[.int .i64 x.f4], [.bool x.f5, .int .i64 x.f6, .int .i64 x.f7, v8], rfl, rfl, ⟨[.bool x.f5], [.int .i64 x.f6, .int .i64 x.f7, v8], rfl, rfl, ⟨[.int .i64 x.f6], [.int .i64 x.f7, v8], rfl, rfl, ⟨[.int .i64 x.f7], [v8], rfl, rfl, ⟨v8, rfl, r8⟩⟩⟩⟩⟩⟩⟩⟩⟩⟩
def rd_T32 (xs : List S32) (i : Int) : S32 := xs.getD i.toNat z32
theorem at_T32 {w : World} {A : Option Addr} {n : Nat} {xs : List S32} (h : Kd.C k32 w A n xs) (i : Int) (h0 : 0 ≤ i) (h1 : i < n) : ∃ ad A8 c8, A = some ad ∧ w.cell? (ad.add (i.toNat * 9)) = some (.int .i64 (rd_T32 xs i).f0) ∧ w.cell? ⟨(ad.add (i.toNat * 9)).block, (ad.add (i.toNat * 9)).off + 1, none⟩ = some (.string (rd_T32 xs i).f1) ∧ w.cell? ⟨(ad.add (i.toNat * 9)).block, (ad.add (i.toNat * 9)).off + 2, none⟩ = some (.string (rd_T32 xs i).f2) ∧ w.cell? ⟨(ad.add (i.toNat * 9)).block, (ad.add (i.toNat * 9)).off + 3, none⟩ = some (.int .i64 (rd_T32 xs i).f3) ∧ w.cell? ⟨(ad.add (i.toNat * 9)).block, (ad.add (i.toNat * 9)).off + 4, none⟩ = some (.int .i64 (rd_T32 xs i).f4) ∧ w.cell? ⟨(ad.add (i.toNat * 9)).block, (ad.add (i.toNat * 9)).off + 5, none⟩ = some (.bool (rd_T32 xs i).f5) ∧ w.cell? ⟨(ad.add (i.toNat * 9)).block, (ad.add (i.toNat * 9)).off + 6, none⟩ = some (.int .i64 (rd_T32 xs i).f6) ∧ w.cell? ⟨(ad.add (i.toNat * 9)).block, (ad.add (i.toNat * 9)).off + 7, none⟩ = some (.int .i64 (rd_T32 xs i).f7) ∧ w.cell? ⟨(ad.add (i.toNat * 9)).block, (ad.add (i.toNat * 9)).off + 8, none⟩ = some (.slice A8 (rd_T32 xs i).f8.length c8) ∧ (rd_T32 xs i).f8.length ≤ c8 ∧ k32.C w A8 (rd_T32 xs i).f8.length (rd_T32 xs i).f8 := by
  obtain ⟨ad, c, e, _, hK, hc0⟩ := Kd.C_get h z32 i h0 h1
  have hc : ∀ j u, c[j]? = some u → w.cell? (ad.add (i.toNat * 9 + j)) = some u := hc0
  obtain ⟨A8, c8, rfl, l8, g8⟩ := k32_open hK
  exact ⟨ad, A8, c8, e, hc 0 _ rfl, by rw [← add_field _ _ 1 (by omega)]; exact hc 1 _ rfl, by rw [← add_field _ _ 2 (by omega)]; exact hc 2 _ rfl, by rw [← add_field _ _ 3 (by omega)]; exact hc 3 _ rfl, by rw [← add_field _ _ 4 (by omega)]; exact hc 4 _ rfl, by rw [← add_field _ _ 5 (by omega)]; exact hc 5 _ rfl, by rw [← add_field _ _ 6 (by omega)]; exact hc 6 _ rfl, by rw [← add_field _ _ 7 (by omega)]; exact hc 7 _ rfl, by rw [← add_field _ _ 8 (by omega)]; exact hc 8 _ rfl, l8, g8⟩

end Bk
end Go.Proofs.YtehmcahdjldhbaaGreatDoor
end
section
-- PRINTED BY print.sh 35421559b90ae4d0a3588c463048766b98c2df88dd9212a6774a882060cdf62d: not written by this session
namespace Go.Proofs.YtehmcahdjldhbaaGreatDoorW.PrintWords
open Go.RowKit
section
variable {P : Program} {ops : Array Oper} {rest : List Oper} {o : Oper} {a : Act} {Q : Exit → Act → World → Prop} {W : World}
/-- The gate takes the guard off (hw: 'by rfl', 'by kernel_rfl': the guard's slot holds what is wanted). -/
theorem gate_guard (hw : Region.wanted o (yielded ops a.tmps) = true) (h : wpList P ops Q ({ o with guard := none } :: rest) a W) : wpList P ops Q (o :: rest) a W := by
  have h1 : Region.wanted { o with guard := none } (yielded ops a.tmps) = true := rfl
  unfold wpList at h ⊢
  rw [if_pos h1] at h
  rw [if_pos hw]
  exact h
end
end Go.Proofs.YtehmcahdjldhbaaGreatDoorW.PrintWords
end
