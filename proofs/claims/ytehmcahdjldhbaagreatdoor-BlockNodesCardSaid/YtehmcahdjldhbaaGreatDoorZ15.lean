/- Parts of this session's proof, one behind the other: M31 M33 N4. -/
import Derived.Test.YtehmcahdjldhbaaGreatDoorZ14
section
/- Package block: blocks: a node's children, as they are told. -/
open Go Go.RowKit Go.Proofs.YtehmcahdjldhbaaGreatDoorW.PrintWords
set_option linter.unusedVariables false
set_option linter.unusedSimpArgs false
set_option maxRecDepth 100000
namespace Go.Proofs.YtehmcahdjldhbaaGreatDoor
open Wk
namespace Bk
def cntR (F : Bs → List Ref × Bs) (A : Nat → Nd) (j : Nat) : Nat := (F (body (A j).lines)).1.length
theorem content_defs (F : Bs → List Ref × Bs) (A : Nat → Nd) (i : Nat) (defs : List Ref) : (content F A i defs).2.2.1 = defs ∨ (content F A i defs).2.2.1 = addRefs defs (F (body (A i).lines)).1 := by
  unfold content
  dsimp only
  split
  · exact .inl rfl
  split
  · exact .inl rfl
  split
  · exact .inl rfl
  split
  · exact .inr rfl
  split
  · exact .inl rfl
  · exact .inl rfl
structure Ph2 (F : Bs → List Ref × Bs) (B : Nat) (w : World) (nb : Nat → Nat) (kv lv : Nat → Value) (n : Nat) (A : Nat → Nd) (V : Nat → Prop) (db : Nat) (defs : List Ref) : Prop extends Ph B w nb kv lv n A V db defs where
  few : defs.length ≤ wsum (cntR F A) V n
section
variable {F : Bs → List Ref × Bs} {B : Nat} {w w1 : World} {nb : Nat → Nat} {kv lv : Nat → Value} {n : Nat} {A : Nat → Nd} {V : Nat → Prop} {db : Nat} {defs : List Ref}
theorem Ph.dbne (h : Ph B w nb kv lv n A V db defs) {i : Nat} (hi : i < n) : nb i ≠ db := by
  obtain ⟨cs, hc⟩ := h.typ i hi
  obtain ⟨_, dv, hd, _⟩ := h.dbs
  exact blk_ne hc hd (by decide)
theorem cells_get {w : World} {nb : Nat → Nat} {kvi lvi : Value} {d : Nd} {g : Nat} {o : Nat} {u : Value} (h : w.heap[g]? = some (.cells (cells nb kvi lvi d) TN (0, 0))) (e : (cells nb kvi lvi d)[o]? = some u) : w.cell? ⟨g, o, none⟩ = some u := (cell_blk h o).trans e
/-- A change of the definitions' block, and of one node that keeps its first and last lines and its kids. -/
theorem Ph.next (h : Ph B w nb kv lv n A V db defs) (k : Nat) (hk : k < n) {defs' : List Ref} (hb : But2 (fun x => x = nb k ∨ x = db) w w1) (hbl : Below B w w1) {cs : Array Value} (hn : w1.heap[nb k]? = some (.cells cs TN (0, 0)))
    (h6 : cs[6]? = some (natV (A k).first)) (h7 : cs[7]? = some (natV (A k).last)) (h10 : cs[10]? = some (kv k)) (hd : DbAt B w1 db defs') : Ph B w1 nb kv lv n A (fun j => V j ∨ j = k) db defs' := by
  have keepN : ∀ j, j < n → j ≠ k → w1.heap[nb j]? = w.heap[nb j]? := fun j hj hne => by
    obtain ⟨cs, hc⟩ := h.typ j hj
    exact hb.keep _ (blk_lt hc) (by rintro (e | e); exact hne (h.inj j k hj hk e); exact h.dbne hj e)
  have keepR : ∀ {v : Value} {e m : Nat} {xs : List Value}, e ≠ TN → e ≠ TD → w.ownsRow B e 1 v m xs → w1.ownsRow B e 1 v m xs := fun h1 h2 ho => by
    refine ⟨ho.1, ?_⟩
    rcases ho.2 with h0 | ⟨g, cap, cur, rfl, hB, hg, r⟩
    · exact .inl h0
    · refine .inr ⟨g, cap, cur, rfl, hB, ?_, r⟩
      obtain ⟨cs', hc⟩ := h.typ k hk
      obtain ⟨_, dv, hdv, _⟩ := h.dbs
      exact (hb.keep g (blk_lt hg) (by rintro (e | e); exact blk_ne hg hc h1 e; exact blk_ne hg hdv h2 e)).trans hg
  have cellN : ∀ j, j < n → ∀ o u, w.cell? ⟨nb j, o, none⟩ = some u → (j = k → cs[o]? = some u) → w1.cell? ⟨nb j, o, none⟩ = some u := fun j hj o u hu he => by
    by_cases e : j = k
    · subst e; exact (cell_blk hn o).trans (he rfl)
    · obtain ⟨cs', hc⟩ := h.typ j hj
      rw [cell_blk hc] at hu
      exact (cell_blk ((keepN j hj e).trans hc) o).trans hu
  exact
    { fx :=
        { first := fun j hj => cellN j hj 6 _ (h.fx.first j hj) (fun e => e ▸ h6)
          last := fun j hj => cellN j hj 7 _ (h.fx.last j hj) (fun e => e ▸ h7)
          kidv := fun j hj => cellN j hj 10 _ (h.fx.kidv j hj) (fun e => e ▸ h10)
          kids := fun j hj => keepR (by decide) (by decide) (h.fx.kids j hj) }
      node := fun j hj hv => (keepN j hj (fun e => hv (.inr e))).trans (h.node j hj (fun x => hv (.inl x)))
      typ := fun j hj => by
        by_cases e : j = k
        · subst e; exact ⟨_, hn⟩
        · obtain ⟨cs', hc⟩ := h.typ j hj; exact ⟨cs', (keepN j hj e).trans hc⟩
      lines := fun j hj => keepR (by decide) (by decide) (h.lines j hj)
      base := h.base, inj := h.inj, dbs := hd, low := h.low.trans hbl }
theorem Ph.mono {V' : Nat → Prop} (h : Ph B w nb kv lv n A V db defs) (hv : ∀ j, V j → V' j) : Ph B w nb kv lv n A V' db defs := { h with node := fun i hi hn => h.node i hi fun x => hn (hv i x) }
theorem Ph.below (h : Ph B w nb kv lv n A V db defs) (hb : Below w.heap.size w w1) (hB : B ≤ w.heap.size) : Ph B w1 nb kv lv n A V db defs :=
  { fx := h.fx.below hb, node := fun i hi hv => blk_below (h.node i hi hv) hb, typ := fun i hi => by obtain ⟨cs, hc⟩ := h.typ i hi; exact ⟨cs, blk_below hc hb⟩,
    lines := fun i hi => own_below (h.lines i hi) hb, base := h.base, inj := h.inj, dbs := h.dbs.below hb, low := h.low.trans (hb.mono hB) }
/-- A change of blocks of another type. -/
theorem Ph.typed {P : Nat → Prop} (h : Ph B w nb kv lv n A V db defs) (hb : But2 P w w1) (hbl : Below B w w1) (hP : ∀ k cs t, P k → w.heap[k]? = some (.cells cs t (0, 0)) → t = TBk) : Ph B w1 nb kv lv n A V db defs := by
  have keepB : ∀ {g : Nat} {cs : Array Value} {t : Nat}, t ≠ TBk → w.heap[g]? = some (.cells cs t (0, 0)) → w1.heap[g]? = some (.cells cs t (0, 0)) := fun ht hg => (hb.keep _ (blk_lt hg) (fun hp => ht (hP _ _ _ hp hg))).trans hg
  have keepR : ∀ {v : Value} {e s m : Nat} {xs : List Value}, e ≠ TBk → w.ownsRow B e s v m xs → w1.ownsRow B e s v m xs := fun h1 ho => by
    refine ⟨ho.1, ?_⟩
    rcases ho.2 with h0 | ⟨g, cap, cur, rfl, hB, hg, r⟩
    · exact .inl h0
    · exact .inr ⟨g, cap, cur, rfl, hB, keepB h1 hg, r⟩
  have cellN : ∀ j, j < n → ∀ o u, w.cell? ⟨nb j, o, none⟩ = some u → w1.cell? ⟨nb j, o, none⟩ = some u := fun j hj o u hu => by
    obtain ⟨cs', hc⟩ := h.typ j hj
    rw [cell_blk hc] at hu
    exact (cell_blk (keepB (by decide) hc) o).trans hu
  obtain ⟨h1, dv, h2, h3, h4⟩ := h.dbs
  exact
    { fx :=
        { first := fun j hj => cellN j hj 6 _ (h.fx.first j hj)
          last := fun j hj => cellN j hj 7 _ (h.fx.last j hj)
          kidv := fun j hj => cellN j hj 10 _ (h.fx.kidv j hj)
          kids := fun j hj => keepR (by decide) (h.fx.kids j hj) }
      node := fun j hj hv => keepB (by decide) (h.node j hj hv)
      typ := fun j hj => by obtain ⟨cs', hc⟩ := h.typ j hj; exact ⟨cs', keepB (by decide) hc⟩
      lines := fun j hj => keepR (by decide) (h.lines j hj)
      base := h.base, inj := h.inj, dbs := ⟨h1, dv, keepB (by decide) h2, keepR (by decide) h3, h4⟩, low := h.low.trans hbl }
end
theorem undB : Tryz.prog.underlying 25 = some (.slice TBk) := by kernel_rfl
def BlPost (F : Bs → List Ref × Bs) (B : Nat) (nb : Nat → Nat) (kv lv : Nat → Value) (n : Nat) (A : Nat → Nd) (V : Nat → Prop) (db : Nat) (i : Nat) (r : List Tr × List Ref) (w : World) (e : Ending) (w' : World) : Prop :=
  ∃ v, e = .returned v ∧ k32.R TBk w' w.heap.size (fun _ => True) v (toSs r.1) ∧ Ph2 F B w' nb kv lv n A (fun j => V j ∨ Desc A i j) db r.2 ∧ But2 (fun k => k = db ∨ ∃ j, j < n ∧ Desc A i j ∧ k = nb j) w w' ∧ Below B w w'
theorem tellOk (F : Bs → List Ref × Bs) (A : Nat → Nd) (rec : Nat → List Ref → List Tr × List Ref) (acc : List Tr × List Ref) (j : Nat) (h : (content F A j acc.2).2.2.2 = true) :
    tell F A rec acc j = (acc.1 ++ [Tr.mk (A j).kind (content F A j acc.2).1 (A j).T (A j).N (A j).M (content F A j acc.2).2.1 (A j).first (A j).last (rec j (content F A j acc.2).2.2.1).1], (rec j (content F A j acc.2).2.2.1).2) := by unfold tell; rw [if_pos h]
theorem tellNo (F : Bs → List Ref × Bs) (A : Nat → Nd) (rec : Nat → List Ref → List Tr × List Ref) (acc : List Tr × List Ref) (j : Nat) (h : (content F A j acc.2).2.2.2 = false) :
    tell F A rec acc j = (acc.1, (content F A j acc.2).2.2.1) := by unfold tell; rw [if_neg (by rw [h]; simp)]
/-- The nodes under the first q kids, and the kids. -/
def Done (A : Nat → Nd) (i q : Nat) (j : Nat) : Prop := ∃ k ∈ (A i).kids.take q, TreeOk.AncS A k j
set_option maxHeartbeats 16000000 in
theorem blocks_any (F : Bs → List Ref × Bs) {B : Nat} {nb : Nat → Nat} {kv lv : Nat → Value} {n : Nat} {A : Nat → Nd} (hT : Telling F n A) (hO : TreeOk n A) (hS : wsum (cntR F A) (fun _ => True) n ≤ 1000000000) (db : Nat) :
    ∀ (m i : Nat), i < n → n - i ≤ m → ∀ (w : World) (V : Nat → Prop) (defs : List Ref), Ph2 F B w nb kv lv n A V db defs → (∀ j, Desc A i j → ¬ V j) →
    Calls Tryz.prog 26 #[.pointer (some ⟨nb i, 0, none⟩), .pointer (some ⟨db, 0, none⟩)] w (BlPost F B nb kv lv n A V db i (blocks F A m i defs) w)
  | 0, i, hi, hm => by omega
  | m + 1, i, hi, hm => by
    intro w V defs h hV
    have IH := fun k hk hk2 => blocks_any F (B := B) (nb := nb) (kv := kv) (lv := lv) hT hO hS db m k hk hk2
    have hBw : B ≤ w.heap.size := by obtain ⟨cs, hc⟩ := h.typ i hi; exact Nat.le_trans (h.base i hi) (Nat.le_of_lt (blk_lt hc))
    have kc := h.fx.kidv i hi
    have hko := h.fx.kids i hi
    have hkl := hT.kidL i hi
    rcases own_cells hko with ⟨hnil, a, c, hkv⟩ | ⟨g, cap, hkv, hcap, hcell⟩
    · have hr : Hid (blocks F A (m + 1) i defs = ([], defs)) := by apply Lib.hid; rw [blocks, hnil]; rfl
      have hno : ∀ j, ¬ Desc A i j := fun j hd => by cases hd with | kid hk => rw [hnil] at hk; cases hk | deep hk _ => rw [hnil] at hk; cases hk
      rw [hkv] at kc
      rw [hr.out]
      go_enter Tryz.func26, Tryz.ntmps26
      go_wp2
      refine wp_loop_rounds 1 ?_
      rw [rounds_succ]
      go_wp2
      go_ret
      exact ⟨_, rfl, Kd.R_nil _ _ _ _ _, { h.toPh.mono (fun j hj => .inl hj) with few := Nat.le_trans h.few (wsum_mono _ (fun j hj => .inl hj) n) }, But2.refl _ _, Below.refl _ _⟩
    · rw [hkv] at kc
      go_enter Tryz.func26, Tryz.ntmps26
      go_wp2
      go_loopw [5, 13] (fun out kk wr => ∃ (q : Nat) (acc : List Tr × List Ref), kk = .int .i64 q ∧ q ≤ (A i).kids.length ∧ Hid (((A i).kids.drop q).foldl (tell F A (blocks F A m)) acc = blocks F A (m + 1) i defs) ∧ acc.1.length ≤ q ∧ k32.R TBk wr w.heap.size (fun _ => True) out (toSs acc.1) ∧ Hid (Ph2 F B wr nb kv lv n A (fun j => V j ∨ Done A i q j) db acc.2) ∧ But2 (fun k => k = db ∨ ∃ j, j < n ∧ Desc A i j ∧ k = nb j) w wr ∧ Below B w wr) (fun _ kk _ => (A i).kids.length - (intOf kk).toNat)
      case atStart => exact ⟨0, ([], defs), rfl, Nat.zero_le _, Lib.hid rfl, Nat.le_refl _, Kd.R_nil _ _ _ _ _, Lib.hid { h.toPh.mono (fun j hj => .inl hj) with few := Nat.le_trans h.few (wsum_mono _ (fun j hj => .inl hj) n) }, But2.refl _ _, Below.refl _ _⟩
      case round =>
        obtain ⟨q, acc, rfl, hq, hA, hal, hR, hP, hbt, hbl⟩ := hrel
        by_cases hlt : q < (A i).kids.length
        · have hk1 : (A i).kids[q]? = some (A i).kids[q] := List.getElem?_eq_getElem hlt
          have hkm : (A i).kids[q] ∈ (A i).kids := List.getElem_mem hlt
          have hdone : ∀ k ∈ (A i).kids.take q, k ≠ (A i).kids[q] := fun k hk e => by
            obtain ⟨a, ha, he⟩ := List.getElem_of_mem hk
            rw [List.getElem_take] at he
            rw [List.length_take] at ha
            exact (List.pairwise_iff_getElem.1 (hO.nodup i hi)) a q (by omega) hlt (by omega) (he.trans e)
          have htk : (A i).kids.take (q + 1) = (A i).kids.take q ++ [(A i).kids[q]] := List.take_succ_eq_append_getElem hlt
          have hst : Hid (((A i).kids.drop q).foldl (tell F A (blocks F A m)) acc = ((A i).kids.drop (q + 1)).foldl (tell F A (blocks F A m)) (tell F A (blocks F A m) acc (A i).kids[q])) := by
            apply Lib.hid; rw [List.drop_eq_getElem_cons hlt, List.foldl_cons]
          have hcr := (hP.out.fx.kids i hi).cells (g := g) (by rw [hkv]; rfl) q _ (by rw [List.getElem?_map, hk1]; rfl)
          rw [add_off] at hcr
          change wr.cell? ⟨g, q, none⟩ = some (.pointer (some ⟨nb (A i).kids[q], 0, none⟩)) at hcr
          generalize (A i).kids[q] = k at *
          obtain ⟨kn, ik, kp⟩ := hO.kid i hi k hkm
          have hnv : ¬ (V k ∨ Done A i q k) := by
            rintro (hv | ⟨k', hk', ha⟩)
            · exact hV k (.kid hkm) hv
            · exact hO.apartK hi (List.mem_of_mem_take hk') hkm (hdone k' hk') k ha (.inl rfl)
          have hsum := wsum_add (cntR F A) (fun j => V j ∨ Done A i q j) k hnv n kn
          have hfew := hP.out.few
          have htot := wsum_mono (cntR F A) (V := fun j => (V j ∨ Done A i q j) ∨ j = k) (V' := fun _ => True) (fun _ _ => trivial) n
          have CO := content_any F hP.out.toPh hT k kn hnv (fun _ => by unfold cntR at hsum htot hS hfew; omega)
          have hfew1 : (content F A k acc.2).2.2.1.length ≤ wsum (cntR F A) (fun j => (V j ∨ Done A i q j) ∨ j = k) n := by
            rcases content_defs F A k acc.2 with e | e
            · rw [e]; omega
            · rw [e]; refine Nat.le_trans (addRefs_le _ _) ?_; unfold cntR at hsum hfew ⊢; omega
          have hmono1 : ∀ j, ((V j ∨ Done A i q j) ∨ j = k) → (V j ∨ Done A i (q + 1) j) := by
            rintro j ((h | ⟨k', hk', ha⟩) | rfl)
            · exact .inl h
            · exact .inr ⟨k', by rw [htk]; exact List.mem_append_left _ hk', ha⟩
            · exact .inr ⟨j, by rw [htk]; exact List.mem_append_right _ (List.mem_singleton.2 rfl), .inl rfl⟩
          have hbB : B ≤ wr.heap.size := by have := hbt.size; omega
          have hkne := hP.out.dbne kn
          obtain ⟨ck, hck⟩ := hP.out.typ k kn
          obtain ⟨_, dv, hdv, _⟩ := hP.out.dbs
          unfold ConPost at CO
          cases hc : (content F A k acc.2).2.2.2 with
          | false =>
            rw [hc] at CO
            have hN := tellNo F A (blocks F A m) acc k hc
            have hT2 : Hid (((A i).kids.drop (q + 1)).foldl (tell F A (blocks F A m)) (acc.1, (content F A k acc.2).2.2.1) = blocks F A (m + 1) i defs) := by apply Lib.hid; rw [← hA.out, hst.out, hN]
            clear hN hst hA
            go_wp2_with (go_at_call 36; go_loud (with_reducible refine CO.mono ?_); rintro e w1 ⟨lv1, rfl, hn1, hd1, hbt1, hbl1⟩)
            have P1 := hP.out.toPh.next k kn hbt1 hbl1 hn1 rfl rfl rfl hd1
            go_roundw
            case rel => exact ⟨q + 1, (acc.1, (content F A k acc.2).2.2.1), by go_num, by omega, hT2, (by show acc.1.length ≤ _; omega), R_but hR hbt1 (by rintro x cs (rfl | rfl) hx; exact blk_ne hx hck (by decide) rfl; exact blk_ne hx hdv (by decide) rfl), Lib.hid { P1.mono hmono1 with few := Nat.le_trans hfew1 (wsum_mono _ hmono1 n) }, hbt.trans (hbt1.mono (by rintro x _ (rfl | rfl); exact .inr ⟨k, kn, .kid hkm, rfl⟩; exact .inl rfl)), hbl.trans hbl1⟩
            case measure => simp [intOf]; omega
          | true =>
            rw [hc] at CO
            have hN := tellOk F A (blocks F A m) acc k hc
            have hnew : ∀ j, Desc A k j → ¬ ((V j ∨ Done A i q j) ∨ j = k) := by
              rintro j hd ((hv | ⟨k', hk', ha⟩) | rfl)
              · exact hV j (.deep hkm hd) hv
              · exact hO.apartK hi (List.mem_of_mem_take hk') hkm (hdone k' hk') j ha (.inr hd)
              · have := (hO.lt hd kn).1; omega
            have IHk := fun w1 (P1 : Ph2 F B w1 nb kv lv n A (fun j => (V j ∨ Done A i q j) ∨ j = k) db (content F A k acc.2).2.2.1) => IH k kn (by omega) w1 _ _ P1 hnew
            have hself : ∀ j, Desc A k j → j ≠ k := fun j hd e => by have := (hO.lt hd kn).1; omega
            have hmono2 : ∀ j, (((V j ∨ Done A i q j) ∨ j = k) ∨ Desc A k j) → (V j ∨ Done A i (q + 1) j) := by
              rintro j (h | hd)
              · exact hmono1 j h
              · exact .inr ⟨k, by rw [htk]; exact List.mem_append_right _ (List.mem_singleton.2 rfl), .inr hd⟩
            have hT2 : Hid (((A i).kids.drop (q + 1)).foldl (tell F A (blocks F A m)) (acc.1 ++ [Tr.mk (A k).kind (content F A k acc.2).1 (A k).T (A k).N (A k).M (content F A k acc.2).2.1 (A k).first (A k).last (blocks F A m k (content F A k acc.2).2.2.1).1], (blocks F A m k (content F A k acc.2).2.2.1).2) = blocks F A (m + 1) i defs) := by apply Lib.hid; rw [← hA.out, hst.out, hN]
            unfold BlPost at IHk
            clear hN hst hA IH
            generalize (content F A k acc.2).1 = cS at *
            generalize (content F A k acc.2).2.1 = cF at *
            generalize (content F A k acc.2).2.2.1 = cD at *
            generalize blocks F A m k cD = R2 at *
            go_wp2_with (first
              | (go_at_call 36; (with_reducible refine CO.mono ?_); rintro e w1 ⟨lv1, rfl, hn1, hd1, hbt1, hbl1⟩; have P1 := hP.out.toPh.next k kn hbt1 hbl1 hn1 rfl rfl rfl hd1; have P12 : Ph2 F B w1 nb kv lv n A (fun j => (V j ∨ Done A i q j) ∨ j = k) db cD := { P1 with few := hfew1 }; have I2 := IHk w1 P12; clear IHk P12)
              | (go_at_call 26; (with_reducible refine I2.mono ?_); rintro e w2 ⟨v2, rfl, hR2, hP2, hbt2, hbl2⟩; obtain ⟨A2, c2, rfl⟩ := Kd.R_slice hR2; have hP2 := Lib.hid hP2; have hn2 := (hbt2.keep (nb k) (blk_lt hn1) (by rintro (e | ⟨j, hj, hd, e⟩); exact hkne e; exact hself j hd (P1.inj k j kn hj e).symm)).trans hn1; have d0 : w2.cell? ⟨nb k, 0, none⟩ = some (.int .i64 (A k).kind) := cells_get hn2 rfl; have d1 : w2.cell? ⟨nb k, 1, none⟩ = some (.string (mk cS)) := cells_get hn2 rfl; have d2 : w2.cell? ⟨nb k, 2, none⟩ = some (.string (mk (A k).T)) := cells_get hn2 rfl; have d3 : w2.cell? ⟨nb k, 3, none⟩ = some (.int .i64 (A k).N) := cells_get hn2 rfl; have d4 : w2.cell? ⟨nb k, 4, none⟩ = some (.int .i64 (A k).M) := cells_get hn2 rfl; have d5 : w2.cell? ⟨nb k, 5, none⟩ = some (.bool cF) := cells_get hn2 rfl; have d6 : w2.cell? ⟨nb k, 6, none⟩ = some (.int .i64 (A k).first) := cells_get hn2 rfl; have d7 : w2.cell? ⟨nb k, 7, none⟩ = some (.int .i64 (A k).last) := cells_get hn2 rfl; have d8 : w2.cell? ⟨nb k, 8, none⟩ = some (.slice none 0 0) := cells_get hn2 rfl; have f8 := blk_free hn2 8)
              | (at_builtin; go_loud (refine Kd.R_append (P := Tryz.prog) k32 (w0 := w2.setCell ⟨nb k, 8, none⟩ (.slice A2 (toSs R2.1).length c2)) (W := w2.setCell ⟨nb k, 8, none⟩ (.slice A2 (toSs R2.1).length c2)) w.heap.size rfl (.tmp 28) (.tmp 33) 25 TBk _ 104 rfl undB info32 rfl (by decide) (by decide) u5 (toSs acc.1) (toS (Tr.mk (A k).kind cS (A k).T (A k).N (A k).M cF (A k).first (A k).last R2.1)) [.int .i64 (A k).kind, .string (mk cS), .string (mk (A k).T), .int .i64 (A k).N, .int .i64 (A k).M, .bool cF, .int .i64 (A k).first, .int .i64 (A k).last, .slice A2 (toSs R2.1).length c2] (fun _ => True) (fun j => w1.heap.size ≤ j) rfl ?hx ?hp ?hokp (fun _ _ => trivial) ?ho (Below.refl _ _) ?hbase ?hl ?go)))
            case hx => simp [World.setCell, Act.eval]
            case hp =>
              have r2 : k32.R TBk w2 w.heap.size (fun j => w1.heap.size ≤ j) (.slice A2 (toSs R2.1).length c2) (toSs R2.1) := Kd.R_lower (Kd.R_mono (Kd.R_bound hR2) (fun j hj => hj.2.1)) (by have := hbt.size; have := hbt1.size; omega)
              have r3 := Kd.R_set r2 hn2 (by intro q hq; rcases List.mem_cons.1 hq with e | e; exact (by rw [e]; decide); exact (by rw [List.mem_singleton.1 e]; decide)) 8 (.slice A2 (toSs R2.1).length c2)
              exact k32_mkM _ _ _ (toS (Tr.mk (A k).kind cS (A k).T (A k).N (A k).M cF (A k).first (A k).last R2.1)) r3
            case hokp =>
              intro j hj
              refine ⟨trivial, fun e => ?_⟩
              have := Kd.R_lt hR j e.symm
              have := hbt1.size
              omega
            case ho =>
              have r1 := R_but hR hbt1 (by rintro x cs (rfl | rfl) hx; exact blk_ne hx hck (by decide) rfl; exact blk_ne hx hdv (by decide) rfl)
              have r2 := R_but r1 hbt2 (by
                rintro x cs (rfl | ⟨j, hj, _, rfl⟩) hx
                · obtain ⟨_, dv1, hdv1, _⟩ := hd1
                  exact blk_ne hx hdv1 (by decide) rfl
                · obtain ⟨cj, hcj⟩ := P1.typ j hj
                  exact blk_ne hx hcj (by decide) rfl)
              exact Kd.R_set r2 hn2 (by intro q hq; rcases List.mem_cons.1 hq with e | e; exact (by rw [e]; decide); exact (by rw [List.mem_singleton.1 e]; decide)) 8 (.slice A2 (toSs R2.1).length c2)
            case hbase => have := hbt.size; have := hbt1.size; have := hbt2.size; simp [World.setCell]; omega
            case hl => have := toSs_length acc.1; omega
            case go =>
              intro v4 w4 hR4 hb4 hgr hat
              have bS : But2 (fun x => x = nb k ∨ x = db) w2 (w2.setCell ⟨nb k, 8, none⟩ (.slice A2 (toSs R2.1).length c2)) := (But2.refl _ _).set (.inl rfl) 8 _
              have P3 := hP2.out.toPh.next k kn bS ((Below.refl B w2).setCell (p := ⟨nb k, 8, none⟩) (P1.base k kn) _) (blk_set hn2 8 _) rfl rfl rfl (hP2.out.dbs.set hn2 8 _)
              have bW : But2 (fun x => x = db ∨ ∃ j, j < n ∧ Desc A i j ∧ x = nb j) w (w2.setCell ⟨nb k, 8, none⟩ (.slice A2 (toSs R2.1).length c2)) := by
                have b1 := hbt.trans (hbt1.mono (by rintro x _ (rfl | rfl); exact .inr ⟨k, kn, .kid hkm, rfl⟩; exact .inl rfl))
                have b2 := b1.trans (hbt2.mono (by rintro x _ (rfl | ⟨j, hj, hd, rfl⟩); exact .inl rfl; exact .inr ⟨j, hj, .deep hkm hd, rfl⟩))
                exact b2.trans (bS.mono (by rintro x _ (rfl | rfl); exact .inr ⟨k, kn, .kid hkm, rfl⟩; exact .inl rfl))
              have bG : But2 (fun x => some x = u5.ownBlock) (w2.setCell ⟨nb k, 8, none⟩ (.slice A2 (toSs R2.1).length c2)) w4 := ⟨hgr.size, fun x hx hp => hgr.block x hx hp⟩
              have hbB4 : Below B (w2.setCell ⟨nb k, 8, none⟩ (.slice A2 (toSs R2.1).length c2)) w4 := hb4.mono hBw
              have P4 := P3.typed bG hbB4 (by
                intro x cs t hx hc
                obtain ⟨cu, hcu⟩ := Kd.R_typed hR x hx.symm
                have r1 := R_but hR hbt1 (by rintro x cs (rfl | rfl) hx; exact blk_ne hx hck (by decide) rfl; exact blk_ne hx hdv (by decide) rfl)
                have r2 := R_but r1 hbt2 (by
                  rintro x cs (rfl | ⟨j, hj, _, rfl⟩) hx
                  · obtain ⟨_, dv1, hdv1, _⟩ := hd1
                    exact blk_ne hx hdv1 (by decide) rfl
                  · obtain ⟨cj, hcj⟩ := P1.typ j hj
                    exact blk_ne hx hcj (by decide) rfl)
                have r3 := Kd.R_set r2 hn2 (by intro q hq; rcases List.mem_cons.1 hq with e | e; exact (by rw [e]; decide); exact (by rw [List.mem_singleton.1 e]; decide)) 8 (.slice A2 (toSs R2.1).length c2)
                obtain ⟨c3, hc3⟩ := Kd.R_typed r3 x hx.symm
                rw [hc] at hc3
                injection hc3 with hc3
                injection hc3)
              have hmono4 : ∀ j, ((((V j ∨ Done A i q j) ∨ j = k) ∨ Desc A k j) ∨ j = k) → (V j ∨ Done A i (q + 1) j) := by
                rintro j (h | rfl)
                · exact hmono2 j h
                · exact hmono1 j (.inr rfl)
              go_wp2
              go_roundw
              case rel => exact ⟨q + 1, _, by go_num, by omega, hT2, by show (acc.1 ++ [_]).length ≤ _; rw [List.length_append, List.length_singleton]; omega, by rw [toSs_append]; exact hR4, Lib.hid { P4.mono hmono4 with few := Nat.le_trans hP2.out.few (wsum_mono _ hmono2 n) }, ⟨by have := hgr.size; have := bW.size; omega, fun x hx hp => (hb4.block x hx).trans (bW.keep x hx hp)⟩, (((hbl.trans hbl1).trans hbl2).setCell (p := ⟨nb k, 8, none⟩) (P1.base k kn) _).trans hbB4⟩
              case measure => simp [intOf]; omega
        · have hE : Hid (blocks F A (m + 1) i defs = acc) := by
            apply Lib.hid; rw [← hA.out, List.drop_eq_nil_of_le (by omega)]; rfl
          have hqe : q = (A i).kids.length := by omega
          have hmono3 : ∀ j, (V j ∨ Done A i q j) → (V j ∨ Desc A i j) := by
            rintro j (h | ⟨k', hk', ha⟩)
            · exact .inl h
            · have hm' := List.mem_of_mem_take hk'
              rcases ha with rfl | ha
              · exact .inr (.kid hm')
              · exact .inr (.deep hm' ha)
          go_wp2
          go_ret
          rw [hE.out]
          exact ⟨_, rfl, hR, { hP.out.toPh.mono hmono3 with few := Nat.le_trans hP.out.few (wsum_mono _ hmono3 n) }, hbt, hbl⟩
end Bk
end Go.Proofs.YtehmcahdjldhbaaGreatDoor
end
section
/- Package block: Parse: lines as blocks, and their definitions. -/
open Go Go.RowKit Go.Proofs.YtehmcahdjldhbaaGreatDoorW.PrintWords
set_option linter.unusedVariables false
set_option linter.unusedSimpArgs false
set_option maxRecDepth 100000
namespace Go.Proofs.YtehmcahdjldhbaaGreatDoor
open Wk
namespace Bk
theorem LinesAt.from {w w1 : World} {v : Value} {l : List Bs} {B : Nat} (h : LinesAt w v l) (hb : Below B w w1) (hB : w.heap.size ≤ B) : LinesAt w1 v l := h.below (hb.mono hB)
/-- The nodes' memory when the lines are over. -/
theorem MRep.ph {F : Bs → List Ref × Bs} {B : Nat} {w : World} {mb : Nat} {mask : Int} {nb : Nat → Nat} {kv lv : Nat → Value} {ov : Value} {σ : St} (h : MRep B w mb mask nb kv lv ov σ) {db : Nat} (hd : DbAt B w db []) : Ph2 F B w nb kv lv σ.n σ.nd (fun _ => False) db [] :=
  { fx :=
      { first := fun i hi => (h.ncell hi 6).trans rfl
        last := fun i hi => (h.ncell hi 7).trans rfl
        kidv := fun i hi => (h.ncell hi 10).trans rfl
        kids := h.rep.kids }
    node := fun i hi _ => h.rep.node i hi
    typ := fun i hi => ⟨_, h.rep.node i hi⟩
    lines := h.rep.lines, base := h.rep.base, inj := h.rep.inj, dbs := hd, low := h.low, few := Nat.zero_le _ }
def docCells : Array Value := #[.int .i64 1, .string ⟨#[]⟩, .string ⟨#[]⟩, .int .i64 0, .int .i64 0, .bool false, .int .i64 0, .int .i64 0, .slice none 0 0, .pointer none, .slice none 0 0, .slice none 0 0, .int .u8 0, .int .i64 0, .int .i64 0, .int .i64 0, .bool false]
def startW (w : World) (mask : Int) : World :=
  ((w.alloc (.cells docCells TN)).alloc (.cells #[.pointer (some ⟨w.heap.size, 0, none⟩)] TP)).alloc (.cells #[.string ⟨#[]⟩, .int .i64 0, .slice (some ⟨w.heap.size + 1, 0, none⟩) 1 1, .pointer none, .int .i64 0, .int .i64 0, .bool false, .int .i64 mask] TM)
theorem start_rep (w : World) (hE : Env w) (mask : Int) : MRep w.heap.size (startW w mask) (w.heap.size + 1 + 1) mask (fun _ => w.heap.size) (fun _ => .slice none 0 0) (fun _ => .slice none 0 0) (.slice (some ⟨w.heap.size + 1, 0, none⟩) 1 1) St.init ∧ Below w.heap.size w (startW w mask) := by
  unfold startW
  have a1 := (Below.refl w.heap.size w).alloc (Nat.le_refl _) (.cells docCells TN)
  have n1 := heap_alloc_new w (.cells docCells TN)
  have s1 : (w.alloc (.cells docCells TN)).heap.size = w.heap.size + 1 := by simp
  generalize w.alloc (.cells docCells TN) = w1 at *
  have n2 := heap_alloc_new w1 (.cells #[.pointer (some ⟨w.heap.size, 0, none⟩)] TP)
  have m2 := blk_below n1 ((Below.refl _ w1).alloc (Nat.le_refl _) (.cells #[.pointer (some ⟨w.heap.size, 0, none⟩)] TP))
  have a2 := a1.alloc (by omega) (.cells #[.pointer (some ⟨w.heap.size, 0, none⟩)] TP)
  have s2 : (w1.alloc (.cells #[.pointer (some ⟨w.heap.size, 0, none⟩)] TP)).heap.size = w.heap.size + 1 + 1 := by simp [s1]
  rw [s1] at n2
  generalize w1.alloc (.cells #[.pointer (some ⟨w.heap.size, 0, none⟩)] TP) = w2 at *
  have n3 := heap_alloc_new w2 (.cells #[.string ⟨#[]⟩, .int .i64 0, .slice (some ⟨w.heap.size + 1, 0, none⟩) 1 1, .pointer none, .int .i64 0, .int .i64 0, .bool false, .int .i64 mask] TM)
  have hb3 := (Below.refl w2.heap.size w2).alloc (Nat.le_refl _) (.cells #[.string ⟨#[]⟩, .int .i64 0, .slice (some ⟨w.heap.size + 1, 0, none⟩) 1 1, .pointer none, .int .i64 0, .int .i64 0, .bool false, .int .i64 mask] TM)
  have m3 := blk_below m2 hb3
  have k3 := blk_below n2 hb3
  have a3 := a2.alloc (by omega) (.cells #[.string ⟨#[]⟩, .int .i64 0, .slice (some ⟨w.heap.size + 1, 0, none⟩) 1 1, .pointer none, .int .i64 0, .int .i64 0, .bool false, .int .i64 mask] TM)
  rw [s2] at n3
  generalize w2.alloc (.cells #[.string ⟨#[]⟩, .int .i64 0, .slice (some ⟨w.heap.size + 1, 0, none⟩) 1 1, .pointer none, .int .i64 0, .int .i64 0, .bool false, .int .i64 mask] TM) = w3 at *
  have z : ∀ i, i < St.init.n → i = 0 := fun i hi => by have : i < 1 := hi; omega
  refine ⟨?_, a3⟩
  exact
    { rep :=
        { node := fun i hi => by rw [z i hi]; exact m3
          kids := fun i hi => by rw [z i hi]; exact World.ownsRow_nil _ _ _ _
          lines := fun i hi => by rw [z i hi]; exact World.ownsRow_nil _ _ _ _
          base := fun i hi => Nat.le_refl _
          inj := fun i j hi hj _ => by rw [z i hi, z j hj]
          injk := fun i j k hi hj _ _ => by rw [z i hi, z j hj]
          injl := fun i j k hi hj _ _ => by rw [z i hi, z j hj] }
      mach := n3
      mbase := by omega
      opn := ⟨w.heap.size + 1, 1, _, rfl, by omega, k3, Nat.le_refl _, Nat.le_refl _, rfl⟩
      onk := fun i k hi e => by cases e
      low := ⟨w, hE, Nat.le_refl _, a3⟩
      root := ⟨Nat.one_pos, rfl⟩ }
def ParsePost (F : Bs → List Ref × Bs) (U : Bs → Bs) (nt : Bool) (l : List Bs) (w : World) (e : Ending) (w' : World) : Prop :=
  ∃ v1 v2, e = .returned (.tuple #[v1, v2]) ∧ k32.R TBk w' w.heap.size (fun _ => True) v1 (toSs (parse F U nt l).1) ∧ RefRow w' w.heap.size v2 (parse F U nt l).2 ∧ Below w.heap.size w w'
set_option maxHeartbeats 16000000 in
theorem Parse_any (F : Bs → List Ref × Bs) (U : Bs → Bs) (w : World) (hE : Env w) (l : List Bs) (v : Value) (hv : LinesAt w v l) (mask : Int) (hll : l.length ≤ 1000) (hs : ∀ s ∈ l, phi s ≤ 1000000) (hR : RunOk F U (notesOf mask) l 0 St.init)
    (hT : Telling F (St.run F U (notesOf mask) l 0 St.init).n (St.run F U (notesOf mask) l 0 St.init).nd) (hO : TreeOk (St.run F U (notesOf mask) l 0 St.init).n (St.run F U (notesOf mask) l 0 St.init).nd)
    (hS : wsum (cntR F (St.run F U (notesOf mask) l 0 St.init).nd) (fun _ => True) (St.run F U (notesOf mask) l 0 St.init).n ≤ 1000000000) :
    Calls Tryz.prog 13 #[v, .int .i64 mask] w (ParsePost F U (notesOf mask) l w) := by
  obtain ⟨M0, b0⟩ := start_rep w hE mask
  obtain ⟨Al, cl, hvf⟩ : ∃ A' c, v = .slice A' l.length c := by
    exact hv.form
  subst hvf
  go_enter Tryz.func13, Tryz.ntmps13
  go_wp2
  refine (?_ : Code.wp _ _ _ _ (startW w mask))
  generalize startW w mask = W0 at *
  go_loopw [22] (fun kk wr => ∃ (k : Nat) (σ : St) (nb : Nat → Nat) (kv lv : Nat → Value) (ov : Value), kk = .int .i64 k ∧ k ≤ l.length ∧ Hid (St.run F U (notesOf mask) (l.drop k) k σ = St.run F U (notesOf mask) l 0 St.init) ∧ Hid (RunOk F U (notesOf mask) (l.drop k) k σ) ∧ MRep w.heap.size wr (w.heap.size + 1 + 1) mask nb kv lv ov σ ∧ Fit (1 + k * 2000010) (k * 4) σ.line0 ∧ Below w.heap.size w wr) (fun kk _ => l.length - (intOf kk).toNat)
  case atStart => exact ⟨0, St.init, _, _, _, _, rfl, Nat.zero_le _, Lib.hid rfl, Lib.hid hR, M0, Fit.init, b0⟩
  case round =>
    obtain ⟨k, σ, nb, kv, lv, ov, rfl, hk, hA, hRk, hM, hF, hb⟩ := hrel
    by_cases hlt : k < l.length
    · have h1 : l[k]? = some l[k] := List.getElem?_eq_getElem hlt
      have hst : Hid (St.run F U (notesOf mask) (l.drop (k + 1)) (k + 1) ((σ.at' l[k] k).one F U (notesOf mask)) = St.run F U (notesOf mask) l 0 St.init) := by
        apply Lib.hid; rw [← hA.out, List.drop_eq_getElem_cons hlt, run_cons]
      have hro : AskOk F U (σ.at' l[k] k) ∧ RunOk F U (notesOf mask) (l.drop (k + 1)) (k + 1) ((σ.at' l[k] k).one F U (notesOf mask)) := by
        have := hRk.out
        rw [List.drop_eq_getElem_cons hlt] at this
        exact this
      have hph := hs _ (List.getElem_mem hlt)
      generalize l[k] = s at *
      obtain ⟨ha, hro⟩ := hro
      have M1 : MRep w.heap.size (((wr.setCell ⟨w.heap.size + 1 + 1, 0, none⟩ (.string (mk s))).setCell ⟨w.heap.size + 1 + 1, 1, none⟩ (.int .i64 0)).setCell ⟨w.heap.size + 1 + 1, 4, none⟩ (.int .i64 k)) (w.heap.size + 1 + 1) mask nb kv lv ov (σ.at' s k) :=
        ((hM.mset 0 (strV s) { σ with s := s } rfl rfl rfl rfl).mset 1 (natV 0) { σ with s := s, col := 0 } rfl rfl rfl rfl).mset 4 (natV k) (σ.at' s k) rfl rfl rfl rfl
      have hF1 := hF.atLine s k hph
      have LN := line_any M1 hF1 (by omega) (by omega) ha
      have c0 := hM.c0
      have c1 := hM.c1
      have c4 := hM.c4
      have f0 := hM.free 0
      have f1 := hM.free 1
      have f4 := hM.free 4
      have hcl : ∃ g o cap, (Value.slice Al l.length cl) = .slice (some ⟨g, o, none⟩) l.length cap ∧ l.length ≤ cap ∧ wr.cell? ⟨g, o + k, none⟩ = some (.string (mk s)) := by
        rcases hv.from hb (Nat.le_refl _) with ⟨e, _⟩ | ⟨g, o, cap, e, hle, hc⟩
        · rw [e] at hlt; simp at hlt
        · exact ⟨g, o, cap, e, hle, hc k s h1⟩
      obtain ⟨g, o, cap, e, hle, hcs⟩ := hcl
      cases e
      unfold EntPost at LN
      clear hv hR hA h1 hRk
      go_wp2_with (go_at_call 25; (refine LN.mono ?_); rintro e w1 ⟨nb1, kv1, lv1, ov1, rfl, M2, hb2⟩)
      go_roundw
      case rel => exact ⟨k + 1, _, nb1, kv1, lv1, ov1, by go_num, by omega, hst, Lib.hid hro, M2, (hF1.one.again).mono (by omega) (by omega), ((((hb.setCell (p := ⟨w.heap.size + 1 + 1, 0, none⟩) hM.mbase (.string (mk s))).setCell (p := ⟨w.heap.size + 1 + 1, 1, none⟩) hM.mbase (.int .i64 0)).setCell (p := ⟨w.heap.size + 1 + 1, 4, none⟩) hM.mbase (.int .i64 k)).trans hb2)⟩
      case measure => simp [intOf]; omega
    · have hE2 : σ = St.run F U (notesOf mask) l 0 St.init := by
        have := hA.out
        rw [List.drop_eq_nil_of_le (by omega)] at this
        exact this
      have hEh := Lib.hid hE2
      have hnb : nb 0 = w.heap.size := by have := hM.root.2; omega
      have hbw : Below wr.heap.size wr (wr.alloc (.cells #[.slice none 0 0] TD)) := (Below.refl _ _).alloc (Nat.le_refl _) _
      have hlo := hM.mlow
      have M2 := hM.below hbw
      have hd : DbAt w.heap.size (wr.alloc (.cells #[.slice none 0 0] TD)) wr.heap.size [] := ⟨hlo, _, heap_alloc_new wr _, World.ownsRow_nil _ _ _ _, fun _ => rfl⟩
      have P0 := M2.ph (F := F) hd
      rw [← hE2] at hT hO hS
      have BL := blocks_any F hT hO hS wr.heap.size σ.n 0 hM.root.1 (by omega) _ _ _ P0 (fun _ _ h => h)
      rw [hnb] at BL
      unfold BlPost TD at BL
      clear hE2 hA hR hRk hv
      go_wp2_with (go_at_call 26; (refine BL.mono ?_); rintro e w1 ⟨v1, rfl, hR1, hP1, hbt1, hbl1⟩; obtain ⟨_, dv, hdv, hdr⟩ := hP1.dbs; have cdb : w1.cell? ⟨wr.heap.size, 0, none⟩ = some dv := cell_blk hdv 0)
      have hPE : Hid (parse F U (notesOf mask) l = blocks F σ.nd σ.n 0 []) := by apply Lib.hid; unfold parse; rw [← hEh.out]
      have hRr := Kd.R_mono (Kd.R_lower hR1 (show w.heap.size ≤ _ by have := hbw.size; unfold TD at this; omega)) (fun _ _ => trivial : ∀ k : Nat, True → True)
      clear hP1 hbt1 hR1
      go_quiet (fail)
      go_wp2
      go_ret2
      refine ⟨v1, dv, rfl, ?_, ?_, bdn ((hb.trans (hbw.mono (hM.mlow))).trans hbl1) _⟩
      · rw [hPE.out]
        exact Kd.R_drewN hRr _
      · rw [hPE.out]
        exact hdr.below (drewN_below _ _)
end Bk
end Go.Proofs.YtehmcahdjldhbaaGreatDoor
end
section
/- Package block in plain Lean: what the lines ask, and what their nodes are, where the rest of the program answers for every text. -/
set_option linter.unusedVariables false
set_option linter.unusedSimpArgs false
set_option maxRecDepth 100000
open Go Go.RowKit
namespace Go.Proofs.YtehmcahdjldhbaaGreatDoor
open Wk
namespace Bk
def sumN (f : Nat → Nat) : Nat → Nat
  | 0 => 0
  | n + 1 => sumN f n + f n
theorem sumN_congr (f g : Nat → Nat) : ∀ n, (∀ j, j < n → f j = g j) → sumN f n = sumN g n
  | 0, _ => rfl
  | n + 1, h => by unfold sumN; rw [sumN_congr f g n (fun j hj => h j (by omega)), h n (by omega)]
theorem sumN_one (f g : Nat → Nat) (i b : Nat) (hi : g i = f i + b) (h : ∀ j, j ≠ i → g j = f j) : ∀ n, i < n → sumN g n = sumN f n + b
  | n + 1, hn => by
    unfold sumN
    by_cases e : i = n
    · subst e
      rw [hi, sumN_congr g f i (fun j hj => h j (by omega))]; omega
    · rw [sumN_one f g i b hi h n (by omega), h n (by omega)]; omega
theorem sumN_ge (f : Nat → Nat) : ∀ n j, j < n → f j ≤ sumN f n
  | n + 1, j, h => by
    unfold sumN
    by_cases e : j = n
    · subst e; omega
    · have := sumN_ge f n j (by omega); omega
theorem wsum_le (c f : Nat → Nat) : ∀ n, (∀ j, j < n → c j ≤ f j) → wsum c (fun _ => True) n ≤ sumN f n
  | 0, _ => Nat.le_refl _
  | n + 1, h => by
    unfold wsum sumN
    have := wsum_le c f n fun j hj => h j (by omega)
    have := h n (by omega)
    rw [if_pos trivial]; omega
def tot (σ : St) : Nat := sumN (fun j => (joinEnd (σ.nd j).lines).length) σ.n
theorem tot_ge (σ : St) (j : Nat) (h : j < σ.n) : (joinEnd (σ.nd j).lines).length ≤ tot σ := sumN_ge (fun j => (joinEnd (σ.nd j).lines).length) _ _ h
theorem lay_lines (σ : St) (d : Nd) : (σ.lay d).n = σ.n + 1 ∧ ((σ.lay d).nd σ.n).lines = d.lines ∧ ∀ j, j < σ.n → ((σ.lay d).nd j).lines = (σ.nd j).lines := by
  have h3 : (σ.lay0 d.kind).n = σ.n := by unfold St.lay0; split <;> rfl
  have h5 : (σ.lay0 d.kind).nd = σ.nd := by unfold St.lay0; split <;> rfl
  refine ⟨by show (σ.lay0 d.kind).n + 1 = _; rw [h3], ?_, fun j hj => ?_⟩
  · show ((((σ.lay0 d.kind).lay1 d).touch σ.n).nd σ.n).lines = _
    rw [touch_nd]
    show (((σ.lay0 d.kind).lay1 d).nd σ.n).lines = _
    unfold St.lay1; simp [h3]
  · show ((((σ.lay0 d.kind).lay1 d).touch σ.n).nd j).lines = _
    rw [touch_nd]
    show (((σ.lay0 d.kind).lay1 d).nd j).lines = _
    unfold St.lay1
    dsimp only
    rw [h3, if_neg (by omega), h5]
    split <;> rfl
theorem Op.tot {σ τ : St} {b : Nat} (o : Op σ τ b) : tot τ = tot σ + b := by
  cases o with
  | touch i hi => exact sumN_congr _ _ _ fun j _ => by rw [touch_nd]
  | lay d o hk h4 _ =>
    obtain ⟨h1, h2, h3⟩ := lay_lines σ d
    show sumN (fun j => (joinEnd ((σ.lay d).nd j).lines).length) (σ.lay d).n = _
    rw [h1]
    unfold sumN
    rw [h2, sumN_congr _ (fun j => (joinEnd (σ.nd j).lines).length) _ fun j hj => by rw [h3 j hj]]
    rfl
  | enter d hk hl h4 hh =>
    obtain ⟨h1, h2, h3⟩ := lay_lines σ d
    show sumN (fun j => (joinEnd ((σ.lay d).nd j).lines).length) (σ.lay d).n = _
    rw [h1]
    unfold sumN
    rw [h2, hl, sumN_congr _ (fun j => (joinEnd (σ.nd j).lines).length) _ fun j hj => by rw [h3 j hj]]
    rfl
  | line i s hi =>
    refine sumN_one _ _ i (s.length + 1) ?_ ?_ σ.n hi
    · show (joinEnd (upd σ.nd i _ i).lines).length = _
      unfold upd; rw [if_pos rfl]
      show (joinEnd ((σ.nd i).lines ++ [s])).length = _
      unfold joinEnd; rw [List.flatMap_append, List.length_append]; simp
    · intro j hj
      show (joinEnd (upd σ.nd i _ j).lines).length = _
      unfold upd; rw [if_neg hj]
  | head i N hi hk =>
    refine sumN_congr _ _ _ fun j _ => ?_
    show (joinEnd (upd σ.nd i _ j).lines).length = _
    unfold upd; split
    · rename_i e; subst e; rfl
    · rfl
  | _ => rfl
theorem Ops.tot {σ τ : St} {b : Nat} (o : Ops σ τ b) : tot τ = tot σ + b := by
  induction o with
  | nil => rfl
  | snoc _ o ih => rw [o.tot, ih]; omega
theorem lines_join (l : List Bs) : l.length ≤ (joinEnd l).length := by
  induction l with
  | nil => exact Nat.le_refl _
  | cons a t ih => unfold joinEnd at *; rw [List.flatMap_cons, List.length_append, List.length_append]; simp only [List.length_cons, List.length_nil]; omega
theorem body_le (l : List Bs) : (body l).length ≤ (joinEnd l).length := by
  have h := joinNl_le l
  have h2 := trimRS_len (joinNl l)
  unfold body trimRight
  omega
where
  trimRS_len (l : Bs) : (Lib.trimRightS l white).length ≤ l.length := by
    unfold Lib.trimRightS
    have h2 := Sc.len_dropWhile (p := fun b => white.contains b) l.reverse
    simp only [List.length_reverse] at h2
    simpa using h2

/-! ### All lines -/
/-- What the run leaves. -/
structure Ran (T C L k : Nat) (σ : St) : Prop where
  fit : Fit C L σ.line0
  good : Good σ.line0
  tot : tot σ ≤ T
  line : σ.line ≤ k
theorem Ran.at' {T C L k : Nat} {σ : St} (h : Ran T C L k σ) (s : Bs) (hs : phi s ≤ 1000000) : Ran T C L k (σ.at' s k) :=
  { fit := h.fit.atLine s k hs
    good := h.good.same rfl rfl rfl rfl h.line (fun j => ⟨rfl, rfl, rfl, rfl⟩) (fun j => .inl rfl)
    tot := h.tot
    line := Nat.le_refl _ }
theorem Ran.one {T C L k P : Nat} {σ : St} (h : Ran T C L k σ) (s : Bs) (F : Bs → List Ref × Bs) (U : Bs → Bs) (nt : Bool) (hs : phi s ≤ P) (hP : P ≤ 1000000) :
    Ran (T + (P + 1)) (C + 2000010) (L + 4) (k + 1) ((σ.at' s k).one F U nt) := by
  have h0 := h.at' s (by omega)
  obtain ⟨b, o, hb⟩ := Ops.one h0.good F U nt
  have e : (σ.at' s k).s = s ∧ (σ.at' s k).col = 0 ∧ (σ.at' s k).line0.line = k := ⟨rfl, rfl, rfl⟩
  rw [e.1, e.2.1] at hb
  have hn := o.near.2
  rw [e.2.2] at hn
  have ht := o.tot
  have ht0 : Bk.tot (σ.at' s k).line0 ≤ T := h0.tot
  have g1 := h0.good.ops o
  exact { fit := h0.fit.one.again, good := g1.ops (Ops.line0 g1), tot := by omega, line := by omega }
theorem Ran.run {P : Nat} (hP : P ≤ 1000000) (F : Bs → List Ref × Bs) (U : Bs → Bs) (nt : Bool) : ∀ (l : List Bs) (T C L k : Nat) (σ : St), Ran T C L k σ → (∀ s ∈ l, phi s ≤ P) →
    Ran (T + l.length * (P + 1)) (C + l.length * 2000010) (L + l.length * 4) (k + l.length) (St.run F U nt l k σ)
  | [], T, C, L, k, σ, h, _ => by simpa [St.run] using h
  | s :: r, T, C, L, k, σ, h, hs => by
    have h1 := h.one s F U nt (hs s (List.mem_cons_self ..)) hP
    have h2 := Ran.run hP F U nt r _ _ _ _ _ h1 fun x hx => hs x (List.mem_cons_of_mem _ hx)
    rw [run_cons]
    rw [show T + (s :: r).length * (P + 1) = T + (P + 1) + r.length * (P + 1) by rw [List.length_cons, Nat.succ_mul]; omega,
      show C + (s :: r).length * 2000010 = C + 2000010 + r.length * 2000010 by rw [List.length_cons, Nat.succ_mul]; omega,
      show L + (s :: r).length * 4 = L + 4 + r.length * 4 by rw [List.length_cons, Nat.succ_mul]; omega,
      show k + (s :: r).length = k + 1 + r.length by rw [List.length_cons]; omega]
    exact h2
theorem Ran.init : Ran 0 1 0 0 St.init := { fit := Fit.init, good := Good.init, tot := Nat.le_refl _, line := Nat.le_refl _ }
/-- The rest of the program answers for every text that is not too great. -/
structure Rest (F : Bs → List Ref × Bs) (U : Bs → Bs) : Prop where
  refs : ∀ s : Bs, s.length ≤ 1000000 → RefsC F s
  unesc : ∀ s : Bs, s.length ≤ 1000000 → UnescC U s
  label : ∀ s : Bs, s.length ≤ 1000000 → LabelC s
  few : ∀ s : Bs, (F s).1.length ≤ s.length
theorem fence_len (x : Bs) : (Sc.fence x).2.2.length ≤ x.length := by
  unfold Sc.fence
  split
  · exact Nat.zero_le _
  · split
    · exact Nat.zero_le _
    · split
      · exact Nat.zero_le _
      · rename_i h1 h2
        refine Nat.le_trans (trim_len _) ?_
        simp
theorem Rest.ask {F : Bs → List Ref × Bs} {U : Bs → Bs} (R : Rest F U) {T C L k : Nat} {σ : St} (h : Ran T C L k σ) (hT : T ≤ 1000000) : AskOk F U σ := by
  intro e
  have h0 : Fit C L σ.line0 := h.fit
  have o1 := Ops.meets σ.opn.length σ.line0 h.good
  have h1 : Fit C L (σ.line0.meets σ.opn.length) := Fit.meets _ _ h0
  obtain ⟨b, o2, _, f2⟩ := Ops.takes (h.good.ops o1)
  have h2 := h1.takes
  have hb := f2 e
  subst hb
  have o := o1.trans o2
  have ht := o.tot
  have htt : Bk.tot σ.line0 ≤ T := h.tot
  generalize ((σ.line0.meets σ.opn.length).takes).2 = τ at *
  have ht1 : Bk.tot τ ≤ 1000000 := by omega
  have hlen := h2.near.tLe
  refine ⟨⟨fun i hi hk => R.refs _ ?_, fun i hi => ?_⟩, ?_⟩
  · have := tot_ge τ i (h2.leafN i hi); have := body_le (τ.nd i).lines; omega
  · have := tot_ge τ i (h2.leafN i hi); have := joinNl_le (τ.nd i).lines; omega
  · rintro x ⟨j, rfl⟩
    have : (τ.t.drop j).length ≤ 1000000 := by rw [List.length_drop]; omega
    exact ⟨R.label _ this, R.unesc _ (Nat.le_trans (fence_len _) this)⟩
theorem Rest.run {F : Bs → List Ref × Bs} {U : Bs → Bs} (R : Rest F U) {P : Nat} (hP : P ≤ 1000000) (nt : Bool) : ∀ (l : List Bs) (T C L k : Nat) (σ : St), Ran T C L k σ → (∀ s ∈ l, phi s ≤ P) → T + l.length * (P + 1) ≤ 1000000 → RunOk F U nt l k σ
  | [], T, C, L, k, σ, h, _, _ => trivial
  | s :: r, T, C, L, k, σ, h, hs, hT => by
    have hs1 := hs s (List.mem_cons_self ..)
    rw [List.length_cons, Nat.succ_mul] at hT
    exact ⟨R.ask (h.at' s (by omega)) (by omega), R.run hP nt r _ _ _ _ _ (h.one s F U nt hs1 hP) (fun x hx => hs x (List.mem_cons_of_mem _ hx)) (by omega)⟩
theorem Ran.tree {T C L k : Nat} {σ : St} (h : Ran T C L k σ) : TreeOk σ.n σ.nd := ⟨h.good.kid, h.good.nodup⟩
theorem Ran.telling {T C L k : Nat} {σ : St} (h : Ran T C L k σ) {F : Bs → List Ref × Bs} {U : Bs → Bs} (R : Rest F U) (hT : T ≤ 1000000) (hk : k ≤ 1000000) (hC : C ≤ 1000000000000) : Telling F σ.n σ.nd :=
  { last := fun i hi => Nat.le_trans (h.good.fl i hi).2 (Nat.le_trans h.line (by omega))
    kids := fun i hi j hj => (h.good.kid i hi j hj).1
    kidL := fun i hi => Nat.le_trans (h.fit.kidL i hi) hC
    linL := fun i hi => Nat.le_trans (lines_join _) (Nat.le_trans (tot_ge σ i hi) (Nat.le_trans h.tot (by omega)))
    join := fun i hi => Nat.le_trans (tot_ge σ i hi) (Nat.le_trans h.tot (by omega))
    refs := fun i hi _ => R.refs _ (Nat.le_trans (body_le _) (Nat.le_trans (tot_ge σ i hi) (Nat.le_trans h.tot hT))) }
theorem Ran.few {T C L k : Nat} {σ : St} (h : Ran T C L k σ) {F : Bs → List Ref × Bs} {U : Bs → Bs} (R : Rest F U) (hT : T ≤ 1000000) : wsum (cntR F σ.nd) (fun _ => True) σ.n ≤ 1000000000 := by
  have h1 := wsum_le (cntR F σ.nd) (fun j => (joinEnd (σ.nd j).lines).length) σ.n fun j _ => Nat.le_trans (R.few _) (body_le _)
  have h2 : sumN (fun j => (joinEnd (σ.nd j).lines).length) σ.n ≤ T := h.tot
  omega
/-- Parse, of lines that are neither many nor long. -/
theorem Parse_all {F : Bs → List Ref × Bs} {U : Bs → Bs} (R : Rest F U) (w : World) (hE : Env w) (l : List Bs) (v : Value) (hv : LinesAt w v l) (mask : Int) (hll : l.length ≤ 200) (hs : ∀ s ∈ l, phi s ≤ 1000) :
    Calls Tryz.prog 13 #[v, .int .i64 mask] w (ParsePost F U (notesOf mask) l w) := by
  have h := Ran.run (P := 1000) (by omega) F U (notesOf mask) l 0 1 0 0 St.init Ran.init hs
  have e : l.length * (1000 + 1) ≤ 200200 := by omega
  exact Parse_any F U w hE l v hv mask (by omega) (fun s hx => Nat.le_trans (hs s hx) (by omega)) (R.run (P := 1000) (by omega) _ l 0 1 0 0 St.init Ran.init hs (by omega))
    (h.telling R (by omega) (by omega) (by omega)) h.tree (h.few R (by omega))
end Bk
end Go.Proofs.YtehmcahdjldhbaaGreatDoor
end
