/- Parts of this session's proof, one behind the other: N6 N7 J1 F1 F2 F3 LA G2 J2. -/
import Derived.Test.YtehmcahdjldhbaaGreatDoorU02
import Derived.Test.YtehmcahdjldhbaaGreatDoorZ26
import Derived.Test.YtehmcahdjldhbaaGreatDoorZ22
import Derived.Test.YtehmcahdjldhbaaGreatDoorU01
import Derived.Test.YtehmcahdjldhbaaGreatDoorZ13
import Derived.OrdersHeld
import Derived.Laws.BitsLemmas
import Derived.RowKit3
import Derived.BigQuiet
import Derived.WideLaws
import Derived.Deep.QuietTactic
import Derived.Deep.DeepCutAuto
import Derived.Deep.CutBlock
import Derived.Deep.RegionHeld3
import Derived.Deep.LoopGhost
import Derived.Lib.AppendStr
import Derived.ArgAppend
import Derived.Laws.IdiomCopy
import Derived.Lib.ConvBytes
import Derived.Laws.BytesArg
import Derived.Test.YtehmcahdjldhbaaGreatDoorZ15
section
set_option linter.unusedVariables false
set_option linter.unusedSimpArgs false
set_option maxRecDepth 100000
namespace Go.Proofs.YtehmcahdjldhbaaGreatDoor
open Wk
namespace Bk
namespace Sim
variable {r c dl : Nat} {pre pk : List Nat} {K : Nat → List Nat} {σ τ : St}
theorem skipped (h : Sim r c dl pre pk K σ τ) (n : Nat) : Sim r c dl pre pk K (σ.skipped n) (τ.skipped n) := by
  unfold St.skipped
  rw [h.s]
  rcases h.col with e | e
  · rw [e]; exact h.cur _ _ _ (.inl rfl)
  · rw [skip_notab σ.s τ.col σ.col n e]
    exact h.cur _ _ _ (.inr (skip_tabs _ _ _ e))
theorem tabs_drop {l : Bs} (k : Nat) (h : 9 ∉ l) : 9 ∉ l.drop k := fun e => h (List.mem_of_mem_drop e)
theorem past (h : Sim r c dl pre pk K σ τ) (m : Nat) : Sim r c dl pre pk K (σ.past m) (τ.past m) := by
  unfold St.past
  rw [h.t_eq, h.w_eq]
  refine h.cur _ _ _ ?_
  rcases h.col with e | e
  · left; rw [e]
  · right; exact tabs_drop _ (tabs_drop _ e)
theorem without_eq (h : Sim r c dl pre pk K σ τ) (n : Nat) : τ.without n = σ.without n := by
  unfold St.without
  rw [h.s]
  rcases h.col with e | e
  · rw [e]
  · exact skip_notab _ _ _ _ e
theorem quotes_eq (h : Sim r c dl pre pk K σ τ) : τ.quotes = σ.quotes := by unfold St.quotes; rw [h.w_eq, h.t_eq]
theorem quoted (h : Sim r c dl pre pk K σ τ) : Sim r c dl pre pk K σ.quoted τ.quoted := by
  unfold St.quoted
  rw [h.quotes_eq]
  split
  · exact (h.past 1).skipped 1
  · exact h
theorem deepOk_eq (h : Sim r c dl pre pk K σ τ) (n : Nat) : τ.deepOk n = σ.deepOk n := by unfold St.deepOk; rw [h.w_eq, h.t_eq]
theorem deep (h : Sim r c dl pre pk K σ τ) (n : Nat) : Sim r c dl pre pk K (σ.deep n) (τ.deep n) := by
  unfold St.deep
  rw [h.deepOk_eq, h.w_eq]
  split
  · exact h.skipped _
  · exact h
theorem nd_eq (h : Sim r c dl pre pk K σ τ) {i : Nat} (hp : 0 < i) (hi : i < σ.n) : τ.nd (mv r c i) = mvN r c dl (σ.nd i) := by rw [mv_pos hp]; exact h.nd i hp hi
theorem meetOk_eq (h : Sim r c dl pre pk K σ τ) {i : Nat} (hp : 0 < i) (hi : i < σ.n) : τ.meetOk (mv r c i) = σ.meetOk i := by
  unfold St.meetOk
  rw [h.nd_eq hp hi, h.quotes_eq, h.blank_eq]
  show (if (σ.nd i).kind = 2 then σ.quotes else if (σ.nd i).kind = 4 then !(σ.blank && ((σ.nd i).kids.map (mv r c)).isEmpty) && τ.deepOk (σ.nd i).need else if (σ.nd i).kind = 13 then τ.deepOk 4 else true) = _
  rw [h.deepOk_eq, h.deepOk_eq, List.isEmpty_map]
theorem meet (h : Sim r c dl pre pk K σ τ) {i : Nat} (hp : 0 < i) (hi : i < σ.n) : Sim r c dl pre pk K (σ.meet i) (τ.meet (mv r c i)) := by
  unfold St.meet
  rw [h.nd_eq hp hi, h.quotes_eq, h.blank_eq]
  show Sim r c dl pre pk K _ (if (σ.nd i).kind = 2 then (if σ.quotes then τ.quoted.touch (mv r c i) else τ) else if (σ.nd i).kind = 4 then (if σ.blank && ((σ.nd i).kids.map (mv r c)).isEmpty then τ else τ.deep (σ.nd i).need) else if (σ.nd i).kind = 13 then τ.deep 4 else τ)
  rw [List.isEmpty_map]
  split
  · split
    · exact h.quoted.touch (by rw [(quoted_keeps σ).1]; exact hi)
    · exact h
  · split
    · split
      · exact h
      · exact h.deep _
    · split
      · exact h.deep _
      · exact h
theorem add (h : Sim r c dl pre pk K σ τ) (s : Bs) : Sim r c dl pre pk K (σ.add s) (τ.add s) := by
  unfold St.add
  rw [h.leaf]
  cases e : σ.leaf with
  | none => exact h
  | some i =>
    obtain ⟨h1, h2⟩ := h.gs.leafN i e
    have hm := h.mvlt h2
    rw [Option.map_some]
    dsimp only
    have g1 := h.gs.op (.line σ i s h2)
    rw [mv_pos h1] at hm ⊢
    have g2 := h.gt.op (.line τ (i + c) s hm)
    have hp := h.put h1 h2 (fun d => { d with lines := d.lines ++ [s] }) (fun d => rfl) g1 g2
    split
    · exact hp
    · have := hp.touch (i := i) h2
      rw [mv_pos h1] at this; exact this
theorem fenced (h : Sim r c dl pre pk K σ τ) {i : Nat} (hp : 0 < i) (hi : i < σ.n) : Sim r c dl pre pk K (σ.fenced i) (τ.fenced (mv r c i)) := by
  unfold St.fenced
  rw [h.nd_eq hp hi, h.w_eq, h.t_eq]
  show Sim r c dl pre pk K _ (if σ.w < 4 ∧ Sc.closes σ.t (σ.nd i).fc (σ.nd i).fn = true then (τ.touch (mv r c i)).close else τ.add (τ.without (σ.nd i).fi))
  rw [h.without_eq]
  split
  · exact (h.touch hi).close
  · exact h.add _
theorem htmlOk_eq (h : Sim r c dl pre pk K σ τ) {i : Nat} (hp : 0 < i) (hi : i < σ.n) : τ.htmlOk (mv r c i) = σ.htmlOk i := by
  unfold St.htmlOk
  rw [h.nd_eq hp hi, h.blank_eq]; rfl
theorem html (h : Sim r c dl pre pk K σ τ) {i : Nat} (hp : 0 < i) (hi : i < σ.n) : Sim r c dl pre pk K (σ.html i) (τ.html (mv r c i)) := by
  unfold St.html
  rw [h.htmlOk_eq hp hi, h.nd_eq hp hi, h.s]
  show Sim r c dl pre pk K _ (if σ.htmlOk i = true then (if (σ.nd i).N ≤ 5 ∧ Sc.htmlEnds σ.s (σ.nd i).N = true then (τ.add σ.s).close else τ.add σ.s) else τ.close)
  split
  · split
    · exact (h.add _).close
    · exact h.add _
  · exact h.close
theorem takes12 (h : Sim r c dl pre pk K σ τ) : τ.takes.1 = σ.takes.1 ∧ Sim r c dl pre pk K σ.takes.2 τ.takes.2 := by
  unfold St.takes
  rw [h.all_eq, h.leaf]
  cases e : σ.leaf with
  | none => exact ⟨by split <;> rfl, by split <;> exact h⟩
  | some i =>
    obtain ⟨h1, h2⟩ := h.gs.leafN i e
    rw [Option.map_some]
    dsimp only
    rw [h.nd_eq h1 h2, h.htmlOk_eq h1 h2]
    show (if σ.all = true then if 0 < (σ.nd i).fn then (true, τ.fenced (mv r c i)) else if (σ.nd i).kind = 6 then (σ.htmlOk i, τ.html (mv r c i)) else (false, τ) else (false, τ)).1 = _ ∧
      Sim r c dl pre pk K _ (if σ.all = true then if 0 < (σ.nd i).fn then (true, τ.fenced (mv r c i)) else if (σ.nd i).kind = 6 then (σ.htmlOk i, τ.html (mv r c i)) else (false, τ) else (false, τ)).2
    split
    · split
      · exact ⟨rfl, h.fenced h1 h2⟩
      · split
        · exact ⟨rfl, h.html h1 h2⟩
        · exact ⟨rfl, h⟩
    · exact ⟨rfl, h⟩
theorem takes_none (σ : St) (e : σ.leaf = none) : σ.takes = (false, σ) := by
  unfold St.takes
  rw [e]
  split <;> rfl
theorem takes (h : Sim r c dl pre pk K σ τ) : τ.takes.1 = σ.takes.1 ∧ Sim r c dl pre pk K σ.takes.2 τ.takes.2 ∧ (σ.leaf = none → σ.takes = (false, σ) ∧ τ.takes = (false, τ)) :=
  ⟨h.takes12.1, h.takes12.2, fun e => ⟨takes_none σ e, takes_none τ (by rw [h.leaf, e]; rfl)⟩⟩
theorem code (h : Sim r c dl pre pk K σ τ) (b : Bg σ τ) : Sim r c dl pre pk K σ.code τ.code := by
  unfold St.code
  dsimp only
  rw [h.plain_eq b]
  split
  · rw [h.without_eq]; exact h.add _
  · have hl := h.layLeaf { kind := 5 } rfl (by decide)
    rw [hl.without_eq]; exact hl.add _
variable (F : Bs → List Ref × Bs) (U : Bs → Bs) (notes : Bool)
theorem headOk_eq (h : Sim r c dl pre pk K σ τ) (b : Bg σ τ) (level : Nat) : τ.headOk F level = σ.headOk F level := by
  unfold St.headOk
  rw [h.all_eq, h.goes_eq b, h.leaf]
  cases e : σ.leaf with
  | none => rfl
  | some i =>
    obtain ⟨h1, h2⟩ := h.gs.leafN i e
    rw [Option.map_some]
    dsimp only
    rw [h.nd_eq h1 h2]; rfl
theorem head (h : Sim r c dl pre pk K σ τ) (b : Bg σ τ) (level : Nat) : Sim r c dl pre pk K (σ.head F level) (τ.head F level) := by
  unfold St.head
  rw [h.headOk_eq F b]
  by_cases q : σ.headOk F level = true
  · rw [if_pos q, if_pos q, h.leaf]
    obtain ⟨i, hl, hk, _⟩ := headOk_leaf q
    rw [hl, Option.map_some]
    dsimp only
    obtain ⟨h1, h2⟩ := h.gs.leafN i hl
    have ht := h.touch h2
    have hm := h.mvlt h2
    have k1 : ((σ.touch i).nd i).kind = 7 := by rw [touch_nd]; exact hk
    have k2 : ((τ.touch (mv r c i)).nd (i + c)).kind = 7 := by
      rw [ht.nd i h1 h2]; exact k1
    rw [mv_pos h1] at hm ht k2 ⊢
    have g1 := ht.gs.op (.head _ i level h2 k1)
    have g2 := ht.gt.op (.head _ (i + c) level hm k2)
    exact (ht.put h1 h2 (fun d => { d with kind := 8, N := level, setext := true }) (fun d => rfl) g1 g2).close
  · rw [if_neg q, if_neg q]; exact h
theorem begins (h : Sim r c dl pre pk K σ τ) (b : Bg σ τ) (w : Nat) (t : Bs) : (τ.begins F U w t).1 = (σ.begins F U w t).1 ∧ Sim r c dl pre pk K (σ.begins F U w t).2 (τ.begins F U w t).2 := by
  unfold St.begins
  rw [h.goes_eq b, h.headOk_eq F b, h.s]
  split
  · exact ⟨rfl, h.lay _ rfl (fun e => by cases e)⟩
  · split
    · exact ⟨rfl, h.layLeaf _ rfl (show (5 : Nat) ≠ 4 by decide)⟩
    · split
      · refine ⟨rfl, ?_⟩
        dsimp only
        split
        · exact (h.layLeaf _ rfl (show (6 : Nat) ≠ 4 by decide)).close
        · exact h.layLeaf _ rfl (show (6 : Nat) ≠ 4 by decide)
      · split
        · exact ⟨rfl, h.head F b _⟩
        · split
          · exact ⟨rfl, h.lay _ rfl (fun e => by cases e)⟩
          · exact ⟨rfl, h⟩
theorem note (h : Sim r c dl pre pk K σ τ) (b : Bg σ τ) (t : Bs) : (τ.note notes t).1 = (σ.note notes t).1 ∧ Sim r c dl pre pk K (σ.note notes t).2 (τ.note notes t).2 := by
  unfold St.note
  rw [h.goes_eq b]
  split
  · exact ⟨rfl, h⟩
  · have he := (h.past (label t).2).enter { kind := 13, S := (label t).1 } rfl (fun e => by cases e) (.inr (.inr (.inr (.inr rfl))))
    dsimp only
    rw [he.w_eq]
    exact ⟨rfl, he.skipped _⟩
theorem gap_eq (h : Sim r c dl pre pk K σ τ) (w : Nat) (size : Nat) : τ.itemGap w τ.t size = σ.itemGap w σ.t size := by
  unfold St.itemGap
  rw [h.t_eq]
  rcases h.col with e | e
  · rw [e]
  · rw [indW_notab (σ.t.drop size) (τ.col + w + size) (σ.col + w + size) (tabs_drop _ (tabs_drop _ e))]
theorem item (h : Sim r c dl pre pk K σ τ) (b : Bg σ τ) (w : Nat) : (τ.item w τ.t).1 = (σ.item w σ.t).1 ∧ Sim r c dl pre pk K (σ.item w σ.t).2 (τ.item w τ.t).2 := by
  unfold St.item
  dsimp only
  rw [h.all_eq, h.goes_eq b, h.gap_eq, h.t_eq]
  split
  · exact ⟨rfl, h⟩
  · split
    · exact ⟨rfl, h⟩
    · refine ⟨rfl, ?_⟩
      have hp := (h.past (marker σ.t).2.2.1).skipped (σ.itemGap w σ.t (marker σ.t).2.2.1)
      generalize (σ.past (marker σ.t).2.2.1).skipped (σ.itemGap w σ.t (marker σ.t).2.2.1) = α at *
      generalize (τ.past (marker σ.t).2.2.1).skipped (σ.itemGap w σ.t (marker σ.t).2.2.1) = β at *
      have hl := hp.lastKind
      dsimp only
      by_cases q : (α.nd α.last).kind ≠ 3 ∨ (α.nd α.last).M ≠ (marker σ.t).2.1.toNat
      · have q2 : (β.nd β.last).kind ≠ 3 ∨ (β.nd β.last).M ≠ (marker σ.t).2.1.toNat := by
          by_cases x : (α.nd α.last).kind = 3
          · right; rw [hl.2 x]; exact q.resolve_left fun y => y x
          · left; exact fun y => x (hl.1.1 y)
        rw [if_pos q, if_pos q2]
        have h1 := hp.enter { kind := 3, N := (marker σ.t).1, M := (marker σ.t).2.1.toNat } rfl (fun e => by cases e) (.inr (.inr (.inl rfl)))
        have e1 := Ops.enter_last α { kind := 3, N := (marker σ.t).1, M := (marker σ.t).2.1.toNat }
        exact h1.enter _ rfl (fun _ => by rw [e1.1, e1.2]) (.inr (.inr (.inr (.inl rfl))))
      · have x : (α.nd α.last).kind = 3 := Classical.not_not.1 fun y => q (.inl y)
        have q2 : ¬ ((β.nd β.last).kind ≠ 3 ∨ (β.nd β.last).M ≠ (marker σ.t).2.1.toNat) := by
          rintro (y | y)
          · exact y (hl.1.2 x)
          · rw [hl.2 x] at y; exact q (.inr y)
        rw [if_neg q, if_neg q2]
        exact hp.enter _ rfl (fun _ => x) (.inr (.inr (.inr (.inl rfl))))
theorem bg_enter (α β : St) (d : Nd) : Bg (α.enter d) (β.enter d) := .inl rfl
theorem note_bg {t t' : Bs} (h1 : (σ.note notes t).1 = true) (b : Bg σ τ) : Bg (σ.note notes t).2 (τ.note notes t').2 := by
  unfold St.note at h1 ⊢
  split at h1
  · cases h1
  · rename_i h2
    rw [if_neg h2]
    exact .inl rfl
theorem item_bg {w w' : Nat} {t t' : Bs} (h1 : (σ.item w t).1 = true) : Bg (σ.item w t).2 (τ.item w' t').2 := by
  unfold St.item at h1 ⊢
  dsimp only at h1 ⊢
  split at h1
  · cases h1
  · rename_i h2
    rw [if_neg h2]
    split at h1
    · cases h1
    · rename_i h3
      rw [if_neg h3]
      exact .inl rfl
theorem starts : ∀ (k : Nat) (σ τ : St), Sim r c dl pre pk K σ τ → Bg σ τ →
    (τ.starts F U notes k).1 = (σ.starts F U notes k).1 ∧ Sim r c dl pre pk K (σ.starts F U notes k).2 (τ.starts F U notes k).2 ∧ ((σ.starts F U notes k).1 = false → Bg (σ.starts F U notes k).2 (τ.starts F U notes k).2)
  | 0, σ, τ, h, b => ⟨rfl, h, fun _ => b⟩
  | k + 1, σ, τ, h, b => by
    have hb := h.begins F U b σ.w σ.t
    have hn := h.note notes b σ.t
    have hi := h.item b σ.w
    rw [starts_step, starts_step, h.blank_eq, h.w_eq, h.goes_eq b, h.quotes_eq, ← h.w_eq, h.w_eq]
    have et := h.t_eq
    rw [et]
    rw [et] at hi
    rw [hb.1, hn.1, hi.1]
    split
    · exact ⟨rfl, h, fun _ => b⟩
    · split
      · split
        · exact ⟨rfl, h, fun _ => b⟩
        · exact ⟨rfl, h.code b, fun e => by cases e⟩
      · split
        · exact starts k _ _ (h.quoted.enter { kind := 2 } rfl (fun e => by cases e) (.inr (.inl rfl))) (bg_enter _ _ _)
        · split
          · exact ⟨rfl, hb.2, fun e => by cases e⟩
          · split
            · rename_i q; exact starts k _ _ hn.2 (note_bg notes q b)
            · split
              · rename_i q; exact starts k _ _ hi.2 (item_bg q)
              · exact ⟨rfl, h, fun _ => b⟩
theorem text (h : Sim r c dl pre pk K σ τ) (b : Bg σ τ) : Sim r c dl pre pk K σ.text τ.text := by
  rw [text_eq, text_eq, h.blank_eq, h.plain_eq b, h.without_eq]
  split
  · split
    · exact h.add _
    · unfold St.blankEnd
      rw [h.all_eq, h.goes_eq b]
      have hc := h.cut
      split
      · exact hc.close
      · exact { hc with gs := { hc.gs with }, gt := { hc.gt with } }
  · unfold St.para
    rw [h.goes_eq b]
    split
    · rw [h.s]; exact h.add _
    · have hl := h.layLeaf { kind := 7 } rfl (by decide)
      rw [hl.s]; exact hl.add _
theorem meets : ∀ (k : Nat) (σ τ : St), Sim r c dl pre pk K σ τ → Sim r c dl pre pk K (σ.meets k) (τ.meets k)
  | 0, σ, τ, h => h
  | k + 1, σ, τ, h => by
    have e1 : (τ.met < τ.opn.length) ↔ σ.met < σ.opn.length := by rw [h.met, h.opn, List.length_append, List.length_map]; omega
    rw [St.meets, St.meets]
    by_cases hlt : σ.met < σ.opn.length
    · rw [if_pos hlt, if_pos (e1.2 hlt)]
      have eo : τ.opn.getD τ.met 0 = mv r c (σ.opn.getD σ.met 0) := by
        rw [List.getD_eq_getElem?_getD, List.getD_eq_getElem?_getD, h.opn, h.met, List.getElem?_append_right (by omega), List.getElem?_map, show pre.length + σ.met - pre.length = σ.met by omega, List.getElem?_eq_getElem hlt]; rfl
      have hmem : σ.opn[σ.met]? = some (σ.opn.getD σ.met 0) := by rw [List.getD_eq_getElem?_getD, List.getElem?_eq_getElem hlt]; rfl
      have hi : σ.opn.getD σ.met 0 < σ.n := (h.gs.opnH _ (List.mem_of_getElem? hmem)).1
      have hp : 0 < σ.opn.getD σ.met 0 := h.gs.opnPos hmem h.gs.met1
      rw [eo, h.meetOk_eq hp hi]
      have hm := h.meet hp hi
      have k1 := meet_keeps σ (σ.opn.getD σ.met 0)
      split
      · have := hm.setMet (σ.met + 1) (by omega) (by rw [k1.2.1]; omega)
        rw [show τ.met + 1 = pre.length + (σ.met + 1) by rw [h.met]; omega]
        exact meets k _ _ this
      · exact hm
    · rw [if_neg hlt, if_neg (fun x => hlt (e1.1 x))]; exact h
end Sim
end Bk
end Go.Proofs.YtehmcahdjldhbaaGreatDoor
end
section
set_option linter.unusedVariables false
set_option linter.unusedSimpArgs false
set_option maxRecDepth 100000
namespace Go.Proofs.YtehmcahdjldhbaaGreatDoor
open Wk
namespace Bk
section
variable (F : Bs → List Ref × Bs) (U : Bs → Bs) (notes : Bool)
theorem cnt_quoted (σ : St) (h : σ.quotes = true) : cnt (σ.quoted.enter { kind := 2 }).s < cnt σ.s := by
  rw [(enter_s σ.quoted { kind := 2 }).1]
  have h1 : 1 ≤ σ.t.length := by unfold St.quotes at h; simp at h; exact hasPrefix_pos h.2
  unfold St.quoted
  rw [if_pos h]
  have := cnt_past σ 1 (Nat.le_refl _) h1
  have e : cnt ((σ.past 1).skipped 1).s = cnt (σ.past 1).s := cnt_skip _ _ _
  omega
theorem cnt_note (σ : St) (h : (σ.note notes σ.t).1 = true) : cnt (σ.note notes σ.t).2.s < cnt σ.s := by
  unfold St.note at h ⊢
  split at h
  · cases h
  · rename_i h1
    rw [if_neg h1]
    have hp := cnt_past σ (label σ.t).2 (by omega) (label_le σ.t)
    have e := (enter_s (σ.past (label σ.t).2) { kind := 13, S := (label σ.t).1 }).1
    show cnt (skip ((σ.past (label σ.t).2).enter { kind := 13, S := (label σ.t).1 }).s _ _).1 < _
    rw [cnt_skip, e]; exact hp
theorem cnt_item (σ : St) (h : (σ.item σ.w σ.t).1 = true) : cnt (σ.item σ.w σ.t).2.s < cnt σ.s := by
  unfold St.item at h ⊢
  dsimp only at h ⊢
  split at h
  · cases h
  · rename_i h1
    rw [if_neg h1]
    split at h
    · cases h
    · rename_i h2
      rw [if_neg h2]
      have hp := cnt_past σ (marker σ.t).2.2.1 (by omega) (marker_le σ.t)
      have e : cnt ((σ.past (marker σ.t).2.2.1).skipped (σ.itemGap σ.w σ.t (marker σ.t).2.2.1)).s = cnt (σ.past (marker σ.t).2.2.1).s := cnt_skip _ _ _
      generalize (σ.past (marker σ.t).2.2.1).skipped (σ.itemGap σ.w σ.t (marker σ.t).2.2.1) = α at *
      dsimp only
      split
      · rw [(enter_s _ _).1, (enter_s _ _).1]; omega
      · rw [(enter_s _ _).1]; omega
theorem starts_more : ∀ (k : Nat) (σ : St), cnt σ.s < k → σ.starts F U notes (k + 1) = σ.starts F U notes k
  | 0, σ, h => by omega
  | k + 1, σ, h => by
    have e1 := starts_step F U notes (k + 1) σ
    have e2 := starts_step F U notes k σ
    rw [e1, e2]
    split
    · rfl
    · split
      · rfl
      · split
        · rename_i q; exact starts_more k _ (by have := cnt_quoted σ q; omega)
        · split
          · rfl
          · split
            · rename_i q; exact starts_more k _ (by have := cnt_note notes σ q; omega)
            · split
              · rename_i q; exact starts_more k _ (by have := cnt_item σ q; omega)
              · rfl
def St.after (τ : St) : St :=
  if τ.takes.1 then τ.takes.2
  else if (τ.takes.2.starts F U notes (τ.takes.2.s.length + 1)).1 then (τ.takes.2.starts F U notes (τ.takes.2.s.length + 1)).2
  else (τ.takes.2.starts F U notes (τ.takes.2.s.length + 1)).2.text
theorem one_after (σ : St) : σ.one F U notes = (σ.line0.meets σ.opn.length).after F U notes := one_eq F U notes σ
theorem takes_began (σ : St) (h : σ.takes.1 = false) : σ.takes.2.began = σ.began ∧ (σ.takes.2 = σ ∨ σ.takes.2 = σ.close) := by
  unfold St.takes at h ⊢
  by_cases a : σ.all = true
  · rw [if_pos a] at h ⊢
    cases e : σ.leaf with
    | none => exact ⟨rfl, .inl rfl⟩
    | some i =>
      rw [e] at h
      dsimp only at h ⊢
      split at h
      · cases h
      · rename_i h1
        rw [if_neg h1]
        split at h
        · rename_i h2
          rw [if_pos h2]
          dsimp only at h ⊢
          unfold St.html
          rw [h, if_neg (by decide)]
          exact ⟨rfl, .inr rfl⟩
        · rename_i h2
          rw [if_neg h2]; exact ⟨rfl, .inl rfl⟩
  · rw [if_neg a]; exact ⟨rfl, .inl rfl⟩
end
namespace Sim
variable {r c dl : Nat} {pre pk : List Nat} {K : Nat → List Nat} {σ τ : St} (F : Bs → List Ref × Bs) (U : Bs → Bs) (notes : Bool)
theorem after (h : Sim r c dl pre pk K σ τ) (b : Bg σ τ) : Sim r c dl pre pk K (σ.after F U notes) (τ.after F U notes) := by
  obtain ⟨t1, t2, t3⟩ := h.takes
  unfold St.after
  rw [t1]
  cases e : σ.takes.1 with
  | true => rw [if_pos rfl, if_pos rfl]; exact t2
  | false =>
    rw [if_neg Bool.false_ne_true, if_neg Bool.false_ne_true]
    have b2 : Bg σ.takes.2 τ.takes.2 := by
      rcases b with b | b
      · have := t3 b; rw [this.1, this.2]; exact .inl b
      · right
        rw [(takes_began σ e).1, (takes_began τ (t1.trans e)).1]; exact b
    rw [t2.s]
    obtain ⟨s1, s2, s3⟩ := starts F U notes (σ.takes.2.s.length + 1) _ _ t2 b2
    rw [s1]
    cases e2 : (σ.takes.2.starts F U notes (σ.takes.2.s.length + 1)).1 with
    | true => rw [if_pos rfl, if_pos rfl]; exact s2
    | false => rw [if_neg Bool.false_ne_true, if_neg Bool.false_ne_true]; exact s2.text (s3 e2)
theorem next (h : Sim r c dl pre pk K σ τ) : Sim r c dl pre pk K σ.line0 { τ with met := pre.length + 1, began := false } :=
  (h.setMet 1 (Nat.le_refl _) (Nat.le_trans h.gs.met1 h.gs.metL)).began false false
theorem atLine (h : Sim r c dl pre pk K σ.line0 { τ with met := pre.length + 1, began := false }) (s : Bs) (k col : Nat) (hk : σ.line ≤ k) (hc : col = 0 ∨ 9 ∉ s) :
    Sim r c dl pre pk K (σ.at' s k).line0 { τ with met := pre.length + 1, began := false, s := s, col := col, line := k + dl } :=
  { h with
    gs := h.gs.same rfl rfl rfl rfl hk (fun j => ⟨rfl, rfl, rfl, rfl⟩) (fun j => .inl rfl)
    gt := h.gt.same rfl rfl rfl rfl (by show τ.line ≤ k + dl; have : τ.line = σ.line + dl := h.line; omega) (fun j => ⟨rfl, rfl, rfl, rfl⟩) (fun j => .inl rfl)
    line := rfl, s := rfl, col := hc }
theorem apart_mv (h : Sim r c dl pre pk K σ τ) : ∀ l : List Nat, (∀ k ∈ l, 0 < k ∧ k < σ.n) → apart τ.nd (l.map (mv r c)) = apart σ.nd l
  | [], _ => rfl
  | [a], _ => rfl
  | a :: b :: t, hl => by
    have ha := hl a (List.mem_cons_self ..)
    have hb := hl b (List.mem_cons_of_mem _ (List.mem_cons_self ..))
    have ih := apart_mv h (b :: t) fun k hk => hl k (List.mem_cons_of_mem _ hk)
    show (decide ((τ.nd (mv r c a)).last + 1 < (τ.nd (mv r c b)).first) || apart τ.nd ((b :: t).map (mv r c))) = (decide ((σ.nd a).last + 1 < (σ.nd b).first) || apart σ.nd (b :: t))
    rw [ih, h.nd_eq ha.1 ha.2, h.nd_eq hb.1 hb.2]
    congr 1
    show decide ((σ.nd a).last + dl + 1 < (σ.nd b).first + dl) = _
    congr 1
    exact propext (by omega)
theorem kidsIn (h : Sim r c dl pre pk K σ τ) {i : Nat} (hi : i < σ.n) : ∀ k ∈ (σ.nd i).kids, 0 < k ∧ k < σ.n := fun k hk => by
  have := h.gs.kid i hi k hk; omega
theorem tight_mv (h : Sim r c dl pre pk K σ τ) {i : Nat} (hp : 0 < i) (hi : i < σ.n) : tight τ.nd (mv r c i) = tight σ.nd i := by
  unfold tight
  rw [h.nd_eq hp hi]
  show (!apart τ.nd ((σ.nd i).kids.map (mv r c)) && !((σ.nd i).kids.map (mv r c)).any fun k => apart τ.nd (τ.nd k).kids) = _
  rw [h.apart_mv _ (h.kidsIn hi), List.any_map]
  congr 2
  have hall := h.kidsIn hi
  generalize (σ.nd i).kids = l at hall ⊢
  induction l with
  | nil => rfl
  | cons a t ih =>
    have ha := hall a (List.mem_cons_self ..)
    rw [List.any_cons, List.any_cons, ih fun k hk => hall k (List.mem_cons_of_mem _ hk)]
    congr 1
    show apart τ.nd (τ.nd (mv r c a)).kids = _
    rw [h.nd_eq ha.1 ha.2]
    exact h.apart_mv _ (h.kidsIn ha.2)
theorem content_mv (h : Sim r c dl pre pk K σ τ) {i : Nat} (hp : 0 < i) (hi : i < σ.n) (defs : List Ref) : content F τ.nd (mv r c i) defs = content F σ.nd i defs := by
  unfold content
  rw [h.tight_mv hp hi, h.nd_eq hp hi]
  rfl
end Sim
mutual
def trS (dl : Nat) : Tr → Tr
  | .mk k S T N M f a b l => .mk k S T N M f (a + dl) (b + dl) (trSs dl l)
def trSs (dl : Nat) : List Tr → List Tr
  | [] => []
  | t :: r => trS dl t :: trSs dl r
end
theorem trSs_append (dl : Nat) : ∀ a b : List Tr, trSs dl (a ++ b) = trSs dl a ++ trSs dl b
  | [], _ => by simp [trSs]
  | t :: a, b => by simp [trSs, trSs_append dl a b]
mutual
theorem trS_zero : ∀ t : Tr, trS 0 t = t
  | .mk k S T N M f a b l => by simp [trS, trSs_zero l]
theorem trSs_zero : ∀ l : List Tr, trSs 0 l = l
  | [] => rfl
  | t :: r => by simp [trSs, trS_zero t, trSs_zero r]
end
namespace Sim
variable {r c dl : Nat} {pre pk : List Nat} {K : Nat → List Nat} {σ τ : St} (F : Bs → List Ref × Bs)
theorem fold_mv (h : Sim r c dl pre pk K σ τ) (k : Nat)
    (IH : ∀ i, 0 < i → i < σ.n → ∀ defs, blocks F τ.nd k (mv r c i) defs = (trSs dl (blocks F σ.nd k i defs).1, (blocks F σ.nd k i defs).2)) :
    ∀ (l : List Nat) (X : List Tr) (acc : List Tr × List Ref), (∀ j ∈ l, 0 < j ∧ j < σ.n) →
      (l.map (mv r c)).foldl (tell F τ.nd (blocks F τ.nd k)) (X ++ trSs dl acc.1, acc.2) = (X ++ trSs dl (l.foldl (tell F σ.nd (blocks F σ.nd k)) acc).1, (l.foldl (tell F σ.nd (blocks F σ.nd k)) acc).2)
  | [], X, acc, _ => rfl
  | j :: t, X, acc, hl => by
    obtain ⟨hp, hi⟩ := hl j (List.mem_cons_self ..)
    have step : tell F τ.nd (blocks F τ.nd k) (X ++ trSs dl acc.1, acc.2) (mv r c j) = (X ++ trSs dl (tell F σ.nd (blocks F σ.nd k) acc j).1, (tell F σ.nd (blocks F σ.nd k) acc j).2) := by
      unfold tell
      dsimp only
      rw [h.content_mv F hp hi]
      split
      · rw [IH j hp hi, h.nd_eq hp hi]
        dsimp only
        rw [trSs_append]
        simp only [trSs, trS, List.append_assoc]
        rfl
      · rfl
    rw [List.map_cons, List.foldl_cons, List.foldl_cons, step]
    exact fold_mv h k IH t X _ fun x hx => hl x (List.mem_cons_of_mem _ hx)
theorem blocks_mv (h : Sim r c dl pre pk K σ τ) : ∀ (k i : Nat), 0 < i → i < σ.n → ∀ defs, blocks F τ.nd k (mv r c i) defs = (trSs dl (blocks F σ.nd k i defs).1, (blocks F σ.nd k i defs).2)
  | 0, i, _, _, defs => rfl
  | k + 1, i, hp, hi, defs => by
    show (τ.nd (mv r c i)).kids.foldl (tell F τ.nd (blocks F τ.nd k)) ([], defs) = (trSs dl ((σ.nd i).kids.foldl (tell F σ.nd (blocks F σ.nd k)) ([], defs)).1, ((σ.nd i).kids.foldl (tell F σ.nd (blocks F σ.nd k)) ([], defs)).2)
    rw [h.nd_eq hp hi]
    exact fold_mv F h k (blocks_mv h k) (σ.nd i).kids [] ([], defs) (h.kidsIn hi)
theorem root_mv (h : Sim r c dl pre pk K σ τ) (k : Nat) (X : List Tr) (defs0 defs : List Ref) (hX : pk.foldl (tell F τ.nd (blocks F τ.nd k)) ([], defs0) = (X, defs)) :
    blocks F τ.nd (k + 1) r defs0 = (X ++ trSs dl (blocks F σ.nd (k + 1) 0 defs).1, (blocks F σ.nd (k + 1) 0 defs).2) := by
  show (τ.nd r).kids.foldl (tell F τ.nd (blocks F τ.nd k)) ([], defs0) = _
  rw [h.kids0, List.foldl_append, hX]
  have := fold_mv F h k (blocks_mv F h k) (σ.nd 0).kids X ([], defs) (h.kidsIn h.npos)
  simp only [trSs, List.append_nil] at this
  exact this
end Sim
end Bk
end Go.Proofs.YtehmcahdjldhbaaGreatDoor
end
section
open Go Go.RowKit Go.Proofs.YtehmcahdjldhbaaGreatDoorW.PrintWords
set_option linter.unusedVariables false
set_option linter.unusedSimpArgs false
set_option maxRecDepth 100000
namespace Go.Proofs.YtehmcahdjldhbaaGreatDoor
open Wk
namespace Bk
mutual
def toB (dl : Nat) : Tr → S63
  | .mk kind S T N M flag first last kids => ⟨kind, mk S, mk T, N, M, flag, ((first + dl : Nat) : Int), ((last + dl : Nat) : Int), toBs dl kids⟩
def toBs (dl : Nat) : List Tr → List S63
  | [] => []
  | t :: r => toB dl t :: toBs dl r
end
theorem toBs_map (dl : Nat) : ∀ l : List Tr, toBs dl l = l.map (toB dl)
  | [] => by rw [toBs]; rfl
  | t :: r => by rw [toBs, toBs_map dl r]; rfl
theorem toBs_len (dl : Nat) (l : List Tr) : (toBs dl l).length = l.length := by rw [toBs_map, List.length_map]
theorem toBs_app (dl : Nat) (a b : List Tr) : toBs dl (a ++ b) = toBs dl a ++ toBs dl b := by rw [toBs_map, toBs_map, toBs_map, List.map_append]
inductive Small : List Tr → Prop
  | nil : Small []
  | cons {kind : Nat} {S T : Bs} {N M : Nat} {flag : Bool} {f l : Nat} {kids r : List Tr} (hf : f ≤ 1000) (hl : l ≤ 1000) (hk : Small kids) (hr : Small r) (hz : r.length < 1000000000000) : Small (Tr.mk kind S T N M flag f l kids :: r)
theorem InsL.small {a hi : Nat} {b : Bool} {l : List Tr} (h : InsL a hi b l) (hh : hi ≤ 1000) : Small l := by
  induction h with
  | nil => exact .nil
  | cons h1 h2 h3 h4 h5 hk hr hz ihk ihr => exact .cons (by omega) (by omega) (ihk (by omega)) (ihr hh) hz
theorem Small.len {l : List Tr} (h : Small l) : l.length ≤ 1000000000000 := by
  cases h with
  | nil => exact Nat.zero_le _
  | cons hf hl hk hr hz => rw [List.length_cons]; omega
theorem th_le {k m : Nat} (h : k ≤ m) (y0 : List S32) (y1 : List S63) (y2 : Int) {r : List S63} (e : incipitlaw11_theirs.l0 k y0 y1 y2 = some r) : incipitlaw11_theirs.l0 m y0 y1 y2 = some r := by
  induction h with
  | refl => exact e
  | step _ ih => exact (incipitlaw11_theirs.mono_l _).2 _ _ _ _ ih
theorem rdT (pre : List Tr) (t : Tr) (r : List Tr) : rd_T32 (toSs (pre ++ t :: r)) (pre.length : Int) = toS t := by
  unfold rd_T32
  rw [toSs_map, Int.toNat_natCast, List.map_append, List.map_cons, List.getD_eq_getElem?_getD, List.getElem?_append_right (by rw [List.length_map]; exact Nat.le_refl _), List.length_map, Nat.sub_self]
  rfl
theorem theirs_l0 {r : List Tr} (h : Small r) : ∀ pre : List Tr, pre.length + r.length ≤ 1000000000000 → ∃ k, incipitlaw11_theirs.l0 k (toSs (pre ++ r)) (toBs 0 pre) pre.length = some (toBs 0 (pre ++ r)) := by
  induction h with
  | nil =>
    intro pre _
    refine ⟨1, ?_⟩
    unfold incipitlaw11_theirs.l0
    rw [if_neg (by rw [toSs_length, List.append_nil]; omega), List.append_nil]
  | @cons kind S T N M flag f l kids r hf hl hk hr hz ihk ihr =>
    intro pre hL
    rw [List.length_cons] at hL
    obtain ⟨k1, e1⟩ := ihk [] (by have := hk.len; simpa using this)
    obtain ⟨k2, e2⟩ := ihr (pre ++ [Tr.mk kind S T N M flag f l kids]) (by rw [List.length_append]; show pre.length + 1 + r.length ≤ _; omega)
    rw [List.append_assoc, List.singleton_append, List.length_append] at e2
    have e2 : incipitlaw11_theirs.l0 k2 (toSs (pre ++ Tr.mk kind S T N M flag f l kids :: r)) (toBs 0 (pre ++ [Tr.mk kind S T N M flag f l kids])) ((pre.length + 1 : Nat) : Int) = some (toBs 0 (pre ++ Tr.mk kind S T N M flag f l kids :: r)) := e2
    have e1 : incipitlaw11_theirs.l0 k1 (toSs kids) [] 0 = some (toBs 0 kids) := by simpa [toBs] using e1
    obtain ⟨K, hK1, hK2⟩ : ∃ K, k1 ≤ K ∧ k2 ≤ K := ⟨k1 + k2, by omega, by omega⟩
    have e1 := th_le hK1 _ _ _ e1
    have e2 := th_le (show k2 ≤ K + 1 by omega) _ _ _ e2
    have hlen : (pre.length : Int) < ((toSs (pre ++ Tr.mk kind S T N M flag f l kids :: r)).length : Int) := by
      rw [toSs_length, List.length_append, List.length_cons]; omega
    refine ⟨K + 2, ?_⟩
    have hw : wrap64 ((pre.length : Int) + 1) = ((pre.length + 1 : Nat) : Int) := by unfold wrap64; omega
    have ef : incipitlaw11_theirs.f (K + 1) (toSs kids) = some (toBs 0 kids) := by rw [incipitlaw11_theirs.f]; exact e1
    have h0 : (0 : Int) ≤ (pre.length : Int) := Int.natCast_nonneg _
    have hb : (toBs 0 pre).length < 1353245080339 := by rw [toBs_len]; omega
    rw [incipitlaw11_theirs.l0, if_pos hlen, if_pos h0, rdT, hw]
    show ((incipitlaw11_theirs.f (K + 1) (toSs kids)).bind fun t => _) = _
    rw [ef]
    show (if (toBs 0 pre).length < 1353245080339 then _ else none) = _
    rw [if_pos hb]
    rw [toBs_app] at e2
    exact e2
theorem theirs_f {l : List Tr} (h : Small l) : ∃ k, incipitlaw11_theirs.f k (toSs l) = some (toBs 0 l) := by
  obtain ⟨k, e⟩ := theirs_l0 h [] (by have := h.len; simpa using this)
  exact ⟨k + 1, by rw [incipitlaw11_theirs.f]; simpa [toBs] using e⟩
end Bk
end Go.Proofs.YtehmcahdjldhbaaGreatDoor
end
section
set_option linter.unusedVariables false
set_option linter.unusedSimpArgs false
set_option maxRecDepth 100000
namespace Go.Proofs.YtehmcahdjldhbaaGreatDoor
open Wk
namespace Bk
structure Flat (σ : St) (L : List Nd) : Prop where
  opn : σ.opn = [0]
  n : σ.n = L.length + 1
  root : (σ.nd 0).kind = 1 ∧ (σ.nd 0).parent = none ∧ (σ.nd 0).kids = (List.range L.length).map (· + 1)
  nd : ∀ j d, L[j]? = some d → σ.nd (j + 1) = d
  par : ∀ d ∈ L, d.parent = some 0 ∧ d.kids = []
theorem Flat.init : Flat St.init [] := ⟨rfl, rfl, ⟨rfl, rfl, rfl⟩, fun j d h => by simp at h, fun d h => by cases h⟩
section
variable (F : Bs → List Ref × Bs) (U : Bs → Bs) (nt : Bool)
theorem one_flat {σ : St} {L : List Nd} (h : Flat σ L) (s : Bs) (k : Nat) : (σ.at' s k).one F U nt = (σ.at' s k).line0.after F U nt := by
  rw [one_after]
  have : (σ.at' s k).opn = [0] := h.opn
  rw [this]
  show ((σ.at' s k).line0.meets 1).after F U nt = _
  rw [St.meets, if_neg]
  show ¬ 1 < σ.opn.length
  rw [h.opn]; decide
end
section
variable (F : Bs → List Ref × Bs) (U : Bs → Bs) (nt : Bool)
end
end Bk
end Go.Proofs.YtehmcahdjldhbaaGreatDoor
end
section
set_option linter.unusedVariables false
set_option linter.unusedSimpArgs false
set_option maxRecDepth 100000
namespace Go.Proofs.YtehmcahdjldhbaaGreatDoor
open Wk
namespace Bk
section
variable (F : Bs → List Ref × Bs) (U : Bs → Bs) (nt : Bool)
end
end Bk
end Go.Proofs.YtehmcahdjldhbaaGreatDoor
end
section
set_option linter.unusedVariables false
set_option linter.unusedSimpArgs false
set_option maxRecDepth 100000
namespace Go.Proofs.YtehmcahdjldhbaaGreatDoor
open Wk
namespace Bk
theorem touchA_or : ∀ (k : Nat) (A : Nat → Nd) (o : Option Nat) (l j : Nat), (touchA k A o l j).last = (A j).last ∨ (touchA k A o l j).last = l
  | 0, _, _, _, _ => .inl rfl
  | _ + 1, _, none, _, _ => .inl rfl
  | k + 1, A, some i, l, j => by
    rw [touchA]
    rcases touchA_or k (upd A i fun d => { d with last := l }) (A i).parent l j with h | h
    · rw [h]
      unfold upd
      split
      · exact .inr rfl
      · exact .inl rfl
    · exact .inr h
structure Kept (σ τ : St) (i : Nat) : Prop where
  n : σ.n ≤ τ.n
  kind : (σ.nd i).kind ≠ 7 → (τ.nd i).kind = (σ.nd i).kind
  M : (τ.nd i).M = (σ.nd i).M
  first : (τ.nd i).first = (σ.nd i).first
  need : (τ.nd i).need = (σ.nd i).need
  last : (τ.nd i).last = (σ.nd i).last ∨ (τ.nd i).last = σ.line
  line : τ.line = σ.line
  kids : (σ.nd i).kids ≠ [] → (τ.nd i).kids ≠ []
theorem Kept.refl (σ : St) (i : Nat) : Kept σ σ i := ⟨Nat.le_refl _, fun _ => rfl, rfl, rfl, rfl, .inl rfl, rfl, id⟩
theorem Kept.trans {σ τ υ : St} {i : Nat} (h : Kept σ τ i) (g : Kept τ υ i) : Kept σ υ i :=
  ⟨Nat.le_trans h.n g.n, fun x => (g.kind (by rw [h.kind x]; exact x)).trans (h.kind x), g.M.trans h.M, g.first.trans h.first, g.need.trans h.need, by
    rcases g.last with e | e
    · rw [e]; exact h.last
    · rw [e, h.line]; exact .inr rfl, g.line.trans h.line, fun x => g.kids (h.kids x)⟩
theorem Kept.same {σ τ : St} {i : Nat} (e1 : τ.n = σ.n) (e2 : τ.nd = σ.nd) (e3 : τ.line = σ.line) : Kept σ τ i :=
  ⟨by omega, fun _ => by rw [e2], by rw [e2], by rw [e2], by rw [e2], .inl (by rw [e2]), e3, fun x => by rw [e2]; exact x⟩
theorem kept_touch (σ : St) (j i : Nat) : Kept σ (σ.touch j) i := by
  have e := touch_nd σ j i
  refine ⟨Nat.le_refl _, fun _ => by rw [e], by rw [e], by rw [e], by rw [e], touchA_or _ _ _ _ _, rfl, fun x => by rw [e]; exact x⟩
theorem kept_lay (σ : St) (d : Nd) (i : Nat) (hi : i < σ.n) : Kept σ (σ.lay d) i := by
  have h3 : (σ.lay0 d.kind).n = σ.n := by unfold St.lay0; split <;> rfl
  have h4 : (σ.lay0 d.kind).line = σ.line := by unfold St.lay0; split <;> rfl
  have h5 : (σ.lay0 d.kind).nd = σ.nd := by unfold St.lay0; split <;> rfl
  have k1 : Kept σ (σ.lay0 d.kind) i := .same h3 h5 h4
  have k2 : Kept (σ.lay0 d.kind) ((σ.lay0 d.kind).lay1 d) i := by
    have e : ((σ.lay0 d.kind).lay1 d).nd i = if i = (σ.lay0 d.kind).last then { (σ.lay0 d.kind).nd i with kids := ((σ.lay0 d.kind).nd i).kids ++ [(σ.lay0 d.kind).n] } else (σ.lay0 d.kind).nd i := by
      show (if i = (σ.lay0 d.kind).n then _ else _) = _
      rw [h3, if_neg (by omega)]
    by_cases c : i = (σ.lay0 d.kind).last
    · rw [if_pos c] at e
      exact ⟨Nat.le_succ _, fun _ => by rw [e], by rw [e], by rw [e], by rw [e], .inl (by rw [e]), rfl, fun _ => by rw [e]; simp⟩
    · rw [if_neg c] at e
      exact ⟨Nat.le_succ _, fun _ => by rw [e], by rw [e], by rw [e], by rw [e], .inl (by rw [e]), rfl, fun x => by rw [e]; exact x⟩
  exact (k1.trans k2).trans (kept_touch _ σ.n i)
theorem kept_upd (σ : St) (j : Nat) (f : Nd → Nd) (i : Nat) (hk : (σ.nd j).kind ≠ 7 → (f (σ.nd j)).kind = (σ.nd j).kind) (hM : (f (σ.nd j)).M = (σ.nd j).M) (hf : (f (σ.nd j)).first = (σ.nd j).first) (hn : (f (σ.nd j)).need = (σ.nd j).need)
    (hl : (f (σ.nd j)).last = (σ.nd j).last) (hkk : (f (σ.nd j)).kids = (σ.nd j).kids) : Kept σ (σ.put j f) i := by
  have e : (σ.put j f).nd i = if i = j then f (σ.nd j) else σ.nd i := by
    show upd σ.nd j f i = _
    rfl
  by_cases c : i = j
  · subst c
    rw [if_pos rfl] at e
    exact ⟨Nat.le_refl _, fun x => by rw [e]; exact hk x, by rw [e, hM], by rw [e, hf], by rw [e, hn], .inl (by rw [e, hl]), rfl, fun x => by rw [e, hkk]; exact x⟩
  · rw [if_neg c] at e
    exact ⟨Nat.le_refl _, fun x => by rw [e], by rw [e], by rw [e], by rw [e], .inl (by rw [e]), rfl, fun x => by rw [e]; exact x⟩
theorem Op.kept {σ τ : St} {b : Nat} (o : Op σ τ b) (i : Nat) (hi : i < σ.n) : Kept σ τ i := by
  cases o with
  | touch j h => exact kept_touch σ j i
  | lay d o hk h4 ho => exact (kept_lay σ d i hi).trans (.same rfl rfl rfl)
  | enter d hk hl h4 hh => exact (kept_lay σ d i hi).trans (.same rfl rfl rfl)
  | line j s h => exact kept_upd σ j _ i (fun _ => rfl) rfl rfl rfl rfl rfl
  | head j N h hk => exact kept_upd σ j _ i (fun x => absurd hk x) rfl rfl rfl rfl rfl
  | _ => exact .same rfl rfl rfl
theorem Ops.kept {σ τ : St} {b : Nat} (o : Ops σ τ b) (i : Nat) (hi : i < σ.n) : Kept σ τ i := by
  induction o with
  | nil => exact .refl _ _
  | snoc _ o ih => exact ih.trans (o.kept i (Nat.lt_of_lt_of_le hi ih.n))
section
variable (F : Bs → List Ref × Bs) (U : Bs → Bs) (nt : Bool)
theorem after_ops {σ : St} (h : Good σ) : ∃ b, Ops σ (σ.after F U nt) b := by
  obtain ⟨b2, o2, _⟩ := Ops.takes h
  have h2 := h.ops o2
  unfold St.after
  split
  · exact ⟨_, o2⟩
  · obtain ⟨b3, o3, _⟩ := Ops.starts F U nt (σ.takes.2.s.length + 1) _ h2
    split
    · exact ⟨_, o2.trans o3⟩
    · obtain ⟨b4, o4, _⟩ := Ops.text (h2.ops o3)
      exact ⟨_, (o2.trans o3).trans o4⟩
theorem one_kept {σ : St} (h : Good σ.line0) (i : Nat) (hi : i < σ.n) : Kept σ (σ.one F U nt) i := by
  obtain ⟨b, o, _⟩ := Ops.one h F U nt
  exact (Kept.same (σ := σ) (τ := σ.line0) rfl rfl rfl).trans (o.kept i hi)
theorem meets_began : ∀ (k : Nat) (σ : St), (σ.meets k).began = σ.began
  | 0, _ => rfl
  | k + 1, σ => by
    rw [St.meets]
    split
    · split
      · rw [meets_began k]; exact (meet_keeps σ _).2.2.2.2.1
      · exact (meet_keeps σ _).2.2.2.2.1
    · rfl
end
section
variable (F : Bs → List Ref × Bs) (U : Bs → Bs) (nt : Bool)
end
end Bk
end Go.Proofs.YtehmcahdjldhbaaGreatDoor
end
section
open Go Go.RowKit Go.Proofs.YtehmcahdjldhbaaGreatDoorW.PrintWords
set_option linter.unusedVariables false
set_option linter.unusedSimpArgs false
set_option maxRecDepth 100000
namespace Go.Proofs.YtehmcahdjldhbaaGreatDoor
open Wk
namespace Tx
open Bk (strV TS LinesAt NilOk ParsePost parse toSs toBs k32 k63 TBk Tr wpList_lines)
theorem theirs_any (X : List Tr) (hS : Bk.Small X) (w : World) (A : Option Addr) (c : Nat) (hA : Kd.C k32 w A (toSs X).length (toSs X)) (hc : (toSs X).length ≤ c) :
    Calls Tryz.prog 17 #[.slice A (toSs X).length c] w fun e w' => ∃ A' c', e = .returned (.slice A' (toBs 0 X).length c') ∧ (toBs 0 X).length ≤ c' ∧ Kd.C k63 w' A' (toBs 0 X).length (toBs 0 X) ∧ Below w.heap.size w w' := by
  obtain ⟨k, hk⟩ := Bk.theirs_f hS
  refine (Bk.incipitlaw11_theirs.calls k A c (toSs X) (toBs 0 X) w hA hc hk).mono ?_
  rintro e w' ⟨v, rfl, R, b⟩
  obtain ⟨A', c', rfl, hc', C⟩ := Kd.R_reads R
  exact ⟨A', c', rfl, hc', C, b⟩
theorem same_any (X : List Bk.S63) (w : World) (A A' : Option Addr) (c c' : Nat) (hA : Kd.C k63 w A X.length X) (hB : Kd.C k63 w A' X.length X) :
    Calls Tryz.prog 16 #[.slice A X.length c, .slice A' X.length c'] w fun e w' => e = .returned (.bool true) ∧ Below w.heap.size w w' :=
  Bk.same_eq (SizeOf.sizeOf X + 1) X (Nat.lt_succ_self _) w A A' c c' hA.2.1 hA hB
theorem small_parse (nt : Bool) (l : List Bs) (hs : ∀ s ∈ l, s.length ≤ 200) (hl : l.length ≤ 200) : Bk.Small (parse FF unescF nt l).1 :=
  (Bk.parse_ins FF unescF nt l (fun s h => by have := hs s h; have := phi_four s; omega) hl).small (by omega)
end Tx
end Go.Proofs.YtehmcahdjldhbaaGreatDoor
end
section
namespace Go.Proofs.YtehmcahdjldhbaaGreatDoor.Bk
open Go.RowKit Go.Proofs.YtehmcahdjldhbaaGreatDoorW.PrintWords Go.Proofs.YtehmcahdjldhbaaGreatDoorW.PrintLast Go.Proofs.YtehmcahdjldhbaaGreatDoorW.PrintMore
set_option linter.unusedVariables false
set_option linter.unusedSimpArgs false
structure S65 where
  f0 : ByteArray
  f1 : ByteArray
  f2 : ByteArray
def z65 : S65 := ⟨(⟨#[]⟩ : ByteArray), (⟨#[]⟩ : ByteArray), (⟨#[]⟩ : ByteArray)⟩
def k65 : Kd S65 := Kd.iso (Kd.pair Kd.string (Kd.pair Kd.string Kd.string)) (fun x : S65 => (x.f0, x.f1, x.f2))
theorem k65_open {w : World} {x : S65} {cs : List Value} (h : k65.K w x cs) : cs = [.string x.f0, .string x.f1, .string x.f2] := by
  obtain ⟨_, _, rfl, rfl, ⟨_, _, rfl, rfl, rfl⟩⟩ := h
  exact rfl
theorem k65_mk (w : World) (x : S65)  : k65.K w x [.string x.f0, .string x.f1, .string x.f2] := ⟨[.string x.f0], [.string x.f1, .string x.f2], rfl, rfl, ⟨[.string x.f1], [.string x.f2], rfl, rfl, rfl⟩⟩
def rd_T65 (xs : List S65) (i : Int) : S65 := xs.getD i.toNat z65
theorem at_T65 {w : World} {A : Option Addr} {n : Nat} {xs : List S65} (h : Kd.C k65 w A n xs) (i : Int) (h0 : 0 ≤ i) (h1 : i < n) : ∃ ad , A = some ad ∧ w.cell? (ad.add (i.toNat * 3)) = some (.string (rd_T65 xs i).f0) ∧ w.cell? ⟨(ad.add (i.toNat * 3)).block, (ad.add (i.toNat * 3)).off + 1, none⟩ = some (.string (rd_T65 xs i).f1) ∧ w.cell? ⟨(ad.add (i.toNat * 3)).block, (ad.add (i.toNat * 3)).off + 2, none⟩ = some (.string (rd_T65 xs i).f2) := by
  obtain ⟨ad, c, e, _, hK, hc0⟩ := Kd.C_get h z65 i h0 h1
  have hc : ∀ j u, c[j]? = some u → w.cell? (ad.add (i.toNat * 3 + j)) = some u := hc0
  obtain rfl := k65_open hK
  exact ⟨ad, e, hc 0 _ rfl, by rw [← add_field _ _ 1 (by omega)]; exact hc 1 _ rfl, by rw [← add_field _ _ 2 (by omega)]; exact hc 2 _ rfl⟩
def incipitref08_Within.l0 : Nat → ByteArray → ByteArray → Int → Option (Bool)
  | 0, _, _, _ => none
  | k + 1, x0, x1, x5 => if (wrap64 (x5 + (x1.size : Int))) ≤ (x0.size : Int) then (if 0 ≤ x5 then (if x5 ≤ (wrap64 (x5 + (x1.size : Int))) then (if (x0.extract (x5 : Int).toNat ((wrap64 (x5 + (x1.size : Int))) : Int).toNat).toList = x1.toList then (some true) else (incipitref08_Within.l0 k x0 x1 (wrap64 (x5 + 1)))) else (none)) else (none)) else (some false)
def incipitref08_Within.f (k : Nat) (a0 : ByteArray) (a1 : ByteArray) : Option (Bool) := incipitref08_Within.l0 k a0 a1 0
theorem incipitref08_Within.mono_l : ∀ k, (∀ y0 y1 y2, LeO (incipitref08_Within.l0 k y0 y1 y2) (incipitref08_Within.l0 (k + 1) y0 y1 y2))
  | 0 => fun _ _ _ r h => by simp [incipitref08_Within.l0] at h
  | k + 1 => by
    have ih0 := incipitref08_Within.mono_l k
    · intro y0 y1 y2
      unfold incipitref08_Within.l0
      repeat' first
      | (with_reducible exact ih0 _ _ _)
      | (with_reducible exact LeO.refl _)
      | (with_reducible exact LeO.none _)
      | (with_reducible refine LeO.ite ?_ ?_)
      | (with_reducible refine LeO.bind ?_ (fun _ => ?_))
      | exact ih0 _ _ _
      | exact LeO.none _
      | refine LeO.ite ?_ ?_
      | refine LeO.bind ?_ (fun _ => ?_)
theorem incipitref08_Within.mono : ∀ a0 a1 k, LeO (incipitref08_Within.f k a0 a1) (incipitref08_Within.f (k + 1) a0 a1) := by
  intro a0 a1 k
  have ih0 := incipitref08_Within.mono_l k
  unfold incipitref08_Within.f
  repeat' first
      | (with_reducible exact ih0 _ _ _)
      | (with_reducible exact LeO.refl _)
      | (with_reducible exact LeO.none _)
      | (with_reducible refine LeO.ite ?_ ?_)
      | (with_reducible refine LeO.bind ?_ (fun _ => ?_))
      | exact ih0 _ _ _
      | exact LeO.none _
      | refine LeO.ite ?_ ?_
      | refine LeO.bind ?_ (fun _ => ?_)
set_option maxHeartbeats 8000000 in
set_option maxRecDepth 100000 in
theorem incipitref08_Within.calls (k : Nat) (a0 : ByteArray) (a1 : ByteArray) (r : Bool) (w : World) (h : incipitref08_Within.f k a0 a1 = some r) :
    Calls Tryz.prog 27 #[.string a0, .string a1] w fun e w' => e = .returned (.bool r) ∧ Drawn0 w w' := by
  have H : (incipitref08_Within.l0 k a0 a1 0) = some r := h
  clear h
  have H' := Aside0.mk H
  clear H
  go_enter Tryz.func27, Tryz.ntmps27
  go_wp2
  go_loopg [5] k (fun kq v5 w' => ∃ (x5_1 : Int), v5 = .int .i64 x5_1 ∧ Aside0 (incipitref08_Within.l0 kq a0 a1 x5_1 = some r) ∧ Aside0 (kq ≤ k) ∧ Drawn0 w w')
  case atStart => exact ⟨(0), (by first | rfl | (simp; done) | (simp [*]; done)), H', ⟨Nat.le_refl _⟩, by repeat (first | exact Drawn0.refl _ | apply Drawn0.step)⟩
  case round =>
    clear H'
    try clear c2
    try clear p2
    obtain ⟨x5_1, rfl, HA, HK1, ⟨m1, rfl⟩⟩ := hrel
    cases gk with
    | zero => exact absurd HA.out (by simp [incipitref08_Within.l0])
    | succ k1 =>
      have H := HA.out
      clear HA
      simp only [incipitref08_Within.l0] at H
      by_cases c3 : (wrap64 (x5_1 + (a1.size : Int))) ≤ (a0.size : Int)
      · rw [if_pos c3] at H
        have c3b0 : decide ((wrap64 (x5_1 + (a1.size : Int))) ≤ (a0.size : Int)) = true := decide_eq_true c3
        clear c3
        by_cases c4 : 0 ≤ x5_1
        · rw [if_pos c4] at H
          have c4b0 := eq_true c4
          have c4b1 : decide (0 ≤ x5_1) = true := decide_eq_true c4
          clear c4
          by_cases c5 : x5_1 ≤ (wrap64 (x5_1 + (a1.size : Int)))
          · rw [if_pos c5] at H
            have c5b0 := eq_true c5
            have c5b1 : decide (x5_1 ≤ (wrap64 (x5_1 + (a1.size : Int)))) = true := decide_eq_true c5
            have c6b0 := eq_true (of_decide_eq_true (by first | (with_reducible assumption) | assumption) : (wrap64 (x5_1 + (a1.size : Int))) ≤ (a0.size : Int))
            by_cases c7 : (a0.extract (x5_1 : Int).toNat ((wrap64 (x5_1 + (a1.size : Int))) : Int).toNat).toList = a1.toList
            · rw [if_pos c7] at H
              have c7b0 : ((a0.extract (x5_1 : Int).toNat ((wrap64 (x5_1 + (a1.size : Int))) : Int).toNat).toList == a1.toList) = true := beq_iff_eq.mpr c7
              have c7b1 : ((a0.extract (x5_1 : Int).toNat ((wrap64 (x5_1 + (a1.size : Int))) : Int).toNat).toList != a1.toList) = false := bne_eq_false_iff_eq.mpr c7
              clear c7
              obtain rfl := Option.some.inj H
              go_wp2
              go_ret
              exact ⟨by first | rfl | (simp; done) | (simp [*]; done), by repeat (first | exact Drawn0.refl _ | apply Drawn0.step)⟩
            · rw [if_neg c7] at H
              have c7b0 : ((a0.extract (x5_1 : Int).toNat ((wrap64 (x5_1 + (a1.size : Int))) : Int).toNat).toList == a1.toList) = false := beq_eq_false_iff_ne.mpr c7
              have c7b1 : ((a0.extract (x5_1 : Int).toNat ((wrap64 (x5_1 + (a1.size : Int))) : Int).toNat).toList != a1.toList) = true := bne_iff_ne.mpr c7
              have H' := Aside0.mk H
              clear H
              go_wp2
              go_roundg k1
              case measure => have := HK1.out; omega
              case rel => exact ⟨(wrap64 (x5_1 + 1)), (by first | rfl | (simp; done) | (simp [*]; done)), H', ⟨by have := HK1.out; omega⟩, by repeat (first | exact Drawn0.refl _ | apply Drawn0.step)⟩
          · rw [if_neg c5] at H
            exact absurd H (by simp)
        · rw [if_neg c4] at H
          exact absurd H (by simp)
      · rw [if_neg c3] at H
        have c3b0 : decide ((wrap64 (x5_1 + (a1.size : Int))) ≤ (a0.size : Int)) = false := decide_eq_false c3
        clear c3
        obtain rfl := Option.some.inj H
        go_wp2
        go_ret
        exact ⟨by first | rfl | (simp; done) | (simp [*]; done), by repeat (first | exact Drawn0.refl _ | apply Drawn0.step)⟩
def incipitlaw11_tabs.l0 : Nat → List ByteArray → Int → Option (Bool)
  | 0, _, _ => none
  | k + 1, x0, x3 => if x3 < (x0.length : Int) then (if 0 ≤ x3 then ((incipitref08_Within.f k (rdOf ByteArray.empty x0 x3) (⟨#[9]⟩ : ByteArray)).bind fun t187 => (if t187 = true then (some true) else (incipitlaw11_tabs.l0 k x0 (wrap64 (x3 + 1))))) else (none)) else (some false)
def incipitlaw11_tabs.f (k : Nat) (l0 : List ByteArray) : Option (Bool) := incipitlaw11_tabs.l0 k l0 0
theorem incipitlaw11_tabs.mono_l : ∀ k, (∀ y0 y1, LeO (incipitlaw11_tabs.l0 k y0 y1) (incipitlaw11_tabs.l0 (k + 1) y0 y1))
  | 0 => fun _ _ r h => by simp [incipitlaw11_tabs.l0] at h
  | k + 1 => by
    have ih0 := incipitlaw11_tabs.mono_l k
    · intro y0 y1
      unfold incipitlaw11_tabs.l0
      repeat' first
      | (with_reducible exact ih0 _ _)
      | (with_reducible exact incipitref08_Within.mono _ _ _)
      | (with_reducible exact LeO.refl _)
      | (with_reducible exact LeO.none _)
      | (with_reducible refine LeO.ite ?_ ?_)
      | (with_reducible refine LeO.bind ?_ (fun _ => ?_))
      | exact ih0 _ _
      | exact incipitref08_Within.mono _ _ _
      | exact LeO.none _
      | refine LeO.ite ?_ ?_
      | refine LeO.bind ?_ (fun _ => ?_)
set_option maxHeartbeats 8000000 in
set_option maxRecDepth 100000 in
theorem incipitlaw11_tabs.calls (k : Nat) (A0 : Option Addr) (c0 : Nat) (l0 : List ByteArray) (r : Bool) (w : World) (hr0 : Kd.C Kd.string w A0 l0.length l0) (hc0 : l0.length ≤ c0) (h : incipitlaw11_tabs.f k l0 = some r) :
    Calls Tryz.prog 15 #[.slice A0 l0.length c0] w fun e w' => e = .returned (.bool r) ∧ Drawn0 w w' := by
  have HR0 := Aside0.mk hr0
  have HC0 := Aside0.mk hc0
  clear hr0 hc0
  have H : (incipitlaw11_tabs.l0 k l0 0) = some r := h
  clear h
  have H' := Aside0.mk H
  clear H
  go_enter Tryz.func15, Tryz.ntmps15
  go_wp2
  go_loopg [3] k (fun kq v3 w' => ∃ (x3_1 : Int), v3 = .int .i64 x3_1 ∧ Aside0 (incipitlaw11_tabs.l0 kq l0 x3_1 = some r) ∧ Aside0 (kq ≤ k) ∧ Drawn0 w w')
  case atStart => exact ⟨(0), (by first | rfl | (simp; done) | (simp [*]; done)), H', ⟨Nat.le_refl _⟩, by repeat (first | exact Drawn0.refl _ | apply Drawn0.step)⟩
  case round =>
    clear H'
    try clear c1
    obtain ⟨x3_1, rfl, HA, HK1, ⟨m1, rfl⟩⟩ := hrel
    cases gk with
    | zero => exact absurd HA.out (by simp [incipitlaw11_tabs.l0])
    | succ k1 =>
      have H := HA.out
      clear HA
      simp only [incipitlaw11_tabs.l0] at H
      by_cases c2 : x3_1 < (l0.length : Int)
      · rw [if_pos c2] at H
        have c2b0 : decide (x3_1 < (l0.length : Int)) = true := decide_eq_true c2
        clear c2
        by_cases c3 : 0 ≤ x3_1
        · rw [if_pos c3] at H
          have c3b0 : decide (0 ≤ x3_1) = true := decide_eq_true c3
          clear c3
          replace H := Option.bind_eq_some_iff.mp H
          obtain ⟨t187, A40, H⟩ := H
          replace H : (if t187 = true then (some true) else (incipitlaw11_tabs.l0 k1 l0 (wrap64 (x3_1 + 1)))) = some r := H
          have A4 := Aside0.mk A40
          clear A40
          by_cases c5 : t187 = true
          · subst c5
            have H1 : (some true) = some r := by rw [if_pos rfl] at H; exact H
            clear H
            have H := H1
            clear H1
            obtain rfl := Option.some.inj H
            have p186 : 0 ≤ (x3_1 : Int) := of_decide_eq_true (by first | (with_reducible assumption) | assumption)
            have q186 : x3_1 < (l0.length : Int) := of_decide_eq_true (by first | (with_reducible assumption) | assumption)
            obtain ⟨ad186, e186, hx186_0⟩ := Kd.at_string HR0.out x3_1 p186 q186
            cases e186
            replace p186 := eq_true p186
            replace q186 := eq_true q186
            go_wp2_with (first | ((with_reducible refine gate_callee (f := 27) rfl ?_); refine goesL_ (some 14) rfl rfl Tryz.func27 (by kernel_rfl) rfl #[.string (rdOf ByteArray.empty l0 x3_1), .string (⟨#[9]⟩ : ByteArray)] rfl (by (try simp only [List.map_toArray, List.map_cons, List.map_nil]); first | done | rfl | (simp only [List.length_drop, List.length_take]; rfl)) ?_; (with_reducible refine (incipitref08_Within.calls k1 (rdOf ByteArray.empty l0 x3_1) (⟨#[9]⟩ : ByteArray) true _ A4.out).mono ?_); rintro e w' ⟨rfl, ⟨nd, rfl⟩⟩; refine ⟨_, rfl, ?_⟩))
            go_ret
            exact ⟨by first | rfl | (simp; done) | (simp [*]; done), by repeat (first | exact Drawn0.refl _ | apply Drawn0.step)⟩
          · replace c5 := Bool.eq_false_iff.mpr c5
            subst c5
            have H1 : (incipitlaw11_tabs.l0 k1 l0 (wrap64 (x3_1 + 1))) = some r := by rw [if_neg (show ¬ (false = true) by decide)] at H; exact H
            clear H
            have H := H1
            clear H1
            have H' := Aside0.mk H
            clear H
            have p186 : 0 ≤ (x3_1 : Int) := of_decide_eq_true (by first | (with_reducible assumption) | assumption)
            have q186 : x3_1 < (l0.length : Int) := of_decide_eq_true (by first | (with_reducible assumption) | assumption)
            obtain ⟨ad186, e186, hx186_0⟩ := Kd.at_string HR0.out x3_1 p186 q186
            cases e186
            replace p186 := eq_true p186
            replace q186 := eq_true q186
            go_wp2_with (first | ((with_reducible refine gate_callee (f := 27) rfl ?_); refine goesL_ (some 14) rfl rfl Tryz.func27 (by kernel_rfl) rfl #[.string (rdOf ByteArray.empty l0 x3_1), .string (⟨#[9]⟩ : ByteArray)] rfl (by (try simp only [List.map_toArray, List.map_cons, List.map_nil]); first | done | rfl | (simp only [List.length_drop, List.length_take]; rfl)) ?_; (with_reducible refine (incipitref08_Within.calls k1 (rdOf ByteArray.empty l0 x3_1) (⟨#[9]⟩ : ByteArray) false _ A4.out).mono ?_); rintro e w' ⟨rfl, ⟨nd, rfl⟩⟩; refine ⟨_, rfl, ?_⟩))
            go_roundg k1
            case measure => have := HK1.out; omega
            case rel => exact ⟨(wrap64 (x3_1 + 1)), (by first | rfl | (simp; done) | (simp [*]; done)), H', ⟨by have := HK1.out; omega⟩, by repeat (first | exact Drawn0.refl _ | apply Drawn0.step)⟩
        · rw [if_neg c3] at H
          exact absurd H (by simp)
      · rw [if_neg c2] at H
        have c2b0 : decide (x3_1 < (l0.length : Int)) = false := decide_eq_false c2
        clear c2
        obtain rfl := Option.some.inj H
        go_wp2
        go_ret
        exact ⟨by first | rfl | (simp; done) | (simp [*]; done), by repeat (first | exact Drawn0.refl _ | apply Drawn0.step)⟩
def incipitref10_Same.l0 : Nat → List (S65) → List (S65) → Int → Option (Bool)
  | 0, _, _, _ => none
  | k + 1, x0, x1, x5 => if x5 < (x0.length : Int) then (if 0 ≤ x5 then (if x5 < (x1.length : Int) then (if ((rd_T65 x0 x5).f0).toList = ((rd_T65 x1 x5).f0).toList then (if ((rd_T65 x0 x5).f1).toList = ((rd_T65 x1 x5).f1).toList then (if ((rd_T65 x0 x5).f2).toList = ((rd_T65 x1 x5).f2).toList then (incipitref10_Same.l0 k x0 x1 (wrap64 (x5 + 1))) else (some false)) else (some false)) else (some false)) else (none)) else (none)) else (some true)
def incipitref10_Same.f (k : Nat) (l0 : List (S65)) (l1 : List (S65)) : Option (Bool) := if (l0.length : Int) = (l1.length : Int) then (incipitref10_Same.l0 k l0 l1 0) else (some false)
set_option maxHeartbeats 8000000 in
set_option maxRecDepth 100000 in
theorem incipitref10_Same.calls (k : Nat) (A0 : Option Addr) (c0 : Nat) (l0 : List (S65)) (A1 : Option Addr) (c1 : Nat) (l1 : List (S65)) (r : Bool) (w : World) (hr0 : Kd.C k65 w A0 l0.length l0) (hc0 : l0.length ≤ c0) (hr1 : Kd.C k65 w A1 l1.length l1) (hc1 : l1.length ≤ c1) (h : incipitref10_Same.f k l0 l1 = some r) :
    Calls Tryz.prog 18 #[.slice A0 l0.length c0, .slice A1 l1.length c1] w fun e w' => e = .returned (.bool r) ∧ Drawn0 w w' := by
  have HR0 := Aside0.mk hr0
  have HC0 := Aside0.mk hc0
  clear hr0 hc0
  have HR1 := Aside0.mk hr1
  have HC1 := Aside0.mk hc1
  clear hr1 hc1
  have H : (if (l0.length : Int) = (l1.length : Int) then (incipitref10_Same.l0 k l0 l1 0) else (some false)) = some r := h
  clear h
  by_cases c3 : (l0.length : Int) = (l1.length : Int)
  · rw [if_pos c3] at H
    have c3b0 : ((l0.length : Int) == (l1.length : Int)) = true := beq_iff_eq.mpr c3
    have c3b1 : ((l0.length : Int) != (l1.length : Int)) = false := bne_eq_false_iff_eq.mpr c3
    have c3b2 : (l0.length == l1.length) = true := by first | simpa using c3 | (simp at c3 ⊢; omega)
    clear c3
    have H' := Aside0.mk H
    clear H
    go_enter Tryz.func18, Tryz.ntmps18
    go_wp2
    repeat (go_quiet (fail); try go_wp2)
    go_loopg [5] k (fun kq v5 w' => ∃ (x5_1 : Int), v5 = .int .i64 x5_1 ∧ Aside0 (incipitref10_Same.l0 kq l0 l1 x5_1 = some r) ∧ Aside0 (kq ≤ k) ∧ Drawn0 w w')
    case atStart => exact ⟨(0), (by first | rfl | (simp; done) | (simp [*]; done)), H', ⟨Nat.le_refl _⟩, by repeat (first | exact Drawn0.refl _ | apply Drawn0.step)⟩
    case round =>
      clear H'
      try clear c1
      try clear p2
      try clear c3
      try clear c3b0
      try clear c3b1
      try clear c3b2
      obtain ⟨x5_1, rfl, HA, HK1, ⟨m1, rfl⟩⟩ := hrel
      cases gk with
      | zero => exact absurd HA.out (by simp [incipitref10_Same.l0])
      | succ k1 =>
        have H := HA.out
        clear HA
        simp only [incipitref10_Same.l0] at H
        by_cases c4 : x5_1 < (l0.length : Int)
        · rw [if_pos c4] at H
          have c4b0 : decide (x5_1 < (l0.length : Int)) = true := decide_eq_true c4
          clear c4
          by_cases c5 : 0 ≤ x5_1
          · rw [if_pos c5] at H
            have c5b0 : decide (0 ≤ x5_1) = true := decide_eq_true c5
            clear c5
            by_cases c6 : x5_1 < (l1.length : Int)
            · rw [if_pos c6] at H
              have c6b0 : decide (x5_1 < (l1.length : Int)) = true := decide_eq_true c6
              clear c6
              by_cases c7 : ((rd_T65 l0 x5_1).f0).toList = ((rd_T65 l1 x5_1).f0).toList
              · rw [if_pos c7] at H
                have c7b0 : (((rd_T65 l0 x5_1).f0).toList == ((rd_T65 l1 x5_1).f0).toList) = true := beq_iff_eq.mpr c7
                have c7b1 : (((rd_T65 l0 x5_1).f0).toList != ((rd_T65 l1 x5_1).f0).toList) = false := bne_eq_false_iff_eq.mpr c7
                clear c7
                by_cases c8 : ((rd_T65 l0 x5_1).f1).toList = ((rd_T65 l1 x5_1).f1).toList
                · rw [if_pos c8] at H
                  have c8b0 : (((rd_T65 l0 x5_1).f1).toList == ((rd_T65 l1 x5_1).f1).toList) = true := beq_iff_eq.mpr c8
                  have c8b1 : (((rd_T65 l0 x5_1).f1).toList != ((rd_T65 l1 x5_1).f1).toList) = false := bne_eq_false_iff_eq.mpr c8
                  clear c8
                  by_cases c9 : ((rd_T65 l0 x5_1).f2).toList = ((rd_T65 l1 x5_1).f2).toList
                  · rw [if_pos c9] at H
                    have c9b0 : (((rd_T65 l0 x5_1).f2).toList == ((rd_T65 l1 x5_1).f2).toList) = true := beq_iff_eq.mpr c9
                    have c9b1 : (((rd_T65 l0 x5_1).f2).toList != ((rd_T65 l1 x5_1).f2).toList) = false := bne_eq_false_iff_eq.mpr c9
                    clear c9
                    have H' := Aside0.mk H
                    clear H
                    have p201 : 0 ≤ (x5_1 : Int) := of_decide_eq_true (by first | (with_reducible assumption) | assumption)
                    have q201 : x5_1 < (l0.length : Int) := of_decide_eq_true (by first | (with_reducible assumption) | assumption)
                    obtain ⟨ad201, e201, hx201_0, hx201_1, hx201_2⟩ := at_T65 HR0.out x5_1 p201 q201
                    cases e201
                    replace p201 := eq_true p201
                    replace q201 := eq_true q201
                    have p202 : 0 ≤ (x5_1 : Int) := of_decide_eq_true (by first | (with_reducible assumption) | assumption)
                    have q202 : x5_1 < (l1.length : Int) := of_decide_eq_true (by first | (with_reducible assumption) | assumption)
                    obtain ⟨ad202, e202, hx202_0, hx202_1, hx202_2⟩ := at_T65 HR1.out x5_1 p202 q202
                    cases e202
                    replace p202 := eq_true p202
                    replace q202 := eq_true q202
                    have p203 : 0 ≤ (x5_1 : Int) := of_decide_eq_true (by first | (with_reducible assumption) | assumption)
                    have q203 : x5_1 < (l0.length : Int) := of_decide_eq_true (by first | (with_reducible assumption) | assumption)
                    obtain ⟨ad203, e203, hx203_0, hx203_1, hx203_2⟩ := at_T65 HR0.out x5_1 p203 q203
                    obtain rfl : ad201 = ad203 := (by injection e203)
                    replace p203 := eq_true p203
                    replace q203 := eq_true q203
                    have p204 : 0 ≤ (x5_1 : Int) := of_decide_eq_true (by first | (with_reducible assumption) | assumption)
                    have q204 : x5_1 < (l1.length : Int) := of_decide_eq_true (by first | (with_reducible assumption) | assumption)
                    obtain ⟨ad204, e204, hx204_0, hx204_1, hx204_2⟩ := at_T65 HR1.out x5_1 p204 q204
                    obtain rfl : ad202 = ad204 := (by injection e204)
                    replace p204 := eq_true p204
                    replace q204 := eq_true q204
                    have p205 : 0 ≤ (x5_1 : Int) := of_decide_eq_true (by first | (with_reducible assumption) | assumption)
                    have q205 : x5_1 < (l0.length : Int) := of_decide_eq_true (by first | (with_reducible assumption) | assumption)
                    obtain ⟨ad205, e205, hx205_0, hx205_1, hx205_2⟩ := at_T65 HR0.out x5_1 p205 q205
                    obtain rfl : ad201 = ad205 := (by injection e205)
                    replace p205 := eq_true p205
                    replace q205 := eq_true q205
                    have p206 : 0 ≤ (x5_1 : Int) := of_decide_eq_true (by first | (with_reducible assumption) | assumption)
                    have q206 : x5_1 < (l1.length : Int) := of_decide_eq_true (by first | (with_reducible assumption) | assumption)
                    obtain ⟨ad206, e206, hx206_0, hx206_1, hx206_2⟩ := at_T65 HR1.out x5_1 p206 q206
                    obtain rfl : ad202 = ad206 := (by injection e206)
                    replace p206 := eq_true p206
                    replace q206 := eq_true q206
                    go_wp2
                    repeat (go_quiet (fail); try go_wp2)
                    go_roundg k1
                    case measure => have := HK1.out; omega
                    case rel => exact ⟨(wrap64 (x5_1 + 1)), (by first | rfl | (simp; done) | (simp [*]; done)), H', ⟨by have := HK1.out; omega⟩, by repeat (first | exact Drawn0.refl _ | apply Drawn0.step)⟩
                  · rw [if_neg c9] at H
                    have c9b0 : (((rd_T65 l0 x5_1).f2).toList == ((rd_T65 l1 x5_1).f2).toList) = false := beq_eq_false_iff_ne.mpr c9
                    have c9b1 : (((rd_T65 l0 x5_1).f2).toList != ((rd_T65 l1 x5_1).f2).toList) = true := bne_iff_ne.mpr c9
                    obtain rfl := Option.some.inj H
                    have p201 : 0 ≤ (x5_1 : Int) := of_decide_eq_true (by first | (with_reducible assumption) | assumption)
                    have q201 : x5_1 < (l0.length : Int) := of_decide_eq_true (by first | (with_reducible assumption) | assumption)
                    obtain ⟨ad201, e201, hx201_0, hx201_1, hx201_2⟩ := at_T65 HR0.out x5_1 p201 q201
                    cases e201
                    replace p201 := eq_true p201
                    replace q201 := eq_true q201
                    have p202 : 0 ≤ (x5_1 : Int) := of_decide_eq_true (by first | (with_reducible assumption) | assumption)
                    have q202 : x5_1 < (l1.length : Int) := of_decide_eq_true (by first | (with_reducible assumption) | assumption)
                    obtain ⟨ad202, e202, hx202_0, hx202_1, hx202_2⟩ := at_T65 HR1.out x5_1 p202 q202
                    cases e202
                    replace p202 := eq_true p202
                    replace q202 := eq_true q202
                    have p203 : 0 ≤ (x5_1 : Int) := of_decide_eq_true (by first | (with_reducible assumption) | assumption)
                    have q203 : x5_1 < (l0.length : Int) := of_decide_eq_true (by first | (with_reducible assumption) | assumption)
                    obtain ⟨ad203, e203, hx203_0, hx203_1, hx203_2⟩ := at_T65 HR0.out x5_1 p203 q203
                    obtain rfl : ad201 = ad203 := (by injection e203)
                    replace p203 := eq_true p203
                    replace q203 := eq_true q203
                    have p204 : 0 ≤ (x5_1 : Int) := of_decide_eq_true (by first | (with_reducible assumption) | assumption)
                    have q204 : x5_1 < (l1.length : Int) := of_decide_eq_true (by first | (with_reducible assumption) | assumption)
                    obtain ⟨ad204, e204, hx204_0, hx204_1, hx204_2⟩ := at_T65 HR1.out x5_1 p204 q204
                    obtain rfl : ad202 = ad204 := (by injection e204)
                    replace p204 := eq_true p204
                    replace q204 := eq_true q204
                    have p205 : 0 ≤ (x5_1 : Int) := of_decide_eq_true (by first | (with_reducible assumption) | assumption)
                    have q205 : x5_1 < (l0.length : Int) := of_decide_eq_true (by first | (with_reducible assumption) | assumption)
                    obtain ⟨ad205, e205, hx205_0, hx205_1, hx205_2⟩ := at_T65 HR0.out x5_1 p205 q205
                    obtain rfl : ad201 = ad205 := (by injection e205)
                    replace p205 := eq_true p205
                    replace q205 := eq_true q205
                    have p206 : 0 ≤ (x5_1 : Int) := of_decide_eq_true (by first | (with_reducible assumption) | assumption)
                    have q206 : x5_1 < (l1.length : Int) := of_decide_eq_true (by first | (with_reducible assumption) | assumption)
                    obtain ⟨ad206, e206, hx206_0, hx206_1, hx206_2⟩ := at_T65 HR1.out x5_1 p206 q206
                    obtain rfl : ad202 = ad206 := (by injection e206)
                    replace p206 := eq_true p206
                    replace q206 := eq_true q206
                    go_wp2
                    repeat (go_quiet (fail); try go_wp2)
                    go_ret
                    exact ⟨by first | rfl | (simp; done) | (simp [*]; done), by repeat (first | exact Drawn0.refl _ | apply Drawn0.step)⟩
                · rw [if_neg c8] at H
                  have c8b0 : (((rd_T65 l0 x5_1).f1).toList == ((rd_T65 l1 x5_1).f1).toList) = false := beq_eq_false_iff_ne.mpr c8
                  have c8b1 : (((rd_T65 l0 x5_1).f1).toList != ((rd_T65 l1 x5_1).f1).toList) = true := bne_iff_ne.mpr c8
                  obtain rfl := Option.some.inj H
                  have p201 : 0 ≤ (x5_1 : Int) := of_decide_eq_true (by first | (with_reducible assumption) | assumption)
                  have q201 : x5_1 < (l0.length : Int) := of_decide_eq_true (by first | (with_reducible assumption) | assumption)
                  obtain ⟨ad201, e201, hx201_0, hx201_1, hx201_2⟩ := at_T65 HR0.out x5_1 p201 q201
                  cases e201
                  replace p201 := eq_true p201
                  replace q201 := eq_true q201
                  have p202 : 0 ≤ (x5_1 : Int) := of_decide_eq_true (by first | (with_reducible assumption) | assumption)
                  have q202 : x5_1 < (l1.length : Int) := of_decide_eq_true (by first | (with_reducible assumption) | assumption)
                  obtain ⟨ad202, e202, hx202_0, hx202_1, hx202_2⟩ := at_T65 HR1.out x5_1 p202 q202
                  cases e202
                  replace p202 := eq_true p202
                  replace q202 := eq_true q202
                  have p203 : 0 ≤ (x5_1 : Int) := of_decide_eq_true (by first | (with_reducible assumption) | assumption)
                  have q203 : x5_1 < (l0.length : Int) := of_decide_eq_true (by first | (with_reducible assumption) | assumption)
                  obtain ⟨ad203, e203, hx203_0, hx203_1, hx203_2⟩ := at_T65 HR0.out x5_1 p203 q203
                  obtain rfl : ad201 = ad203 := (by injection e203)
                  replace p203 := eq_true p203
                  replace q203 := eq_true q203
                  have p204 : 0 ≤ (x5_1 : Int) := of_decide_eq_true (by first | (with_reducible assumption) | assumption)
                  have q204 : x5_1 < (l1.length : Int) := of_decide_eq_true (by first | (with_reducible assumption) | assumption)
                  obtain ⟨ad204, e204, hx204_0, hx204_1, hx204_2⟩ := at_T65 HR1.out x5_1 p204 q204
                  obtain rfl : ad202 = ad204 := (by injection e204)
                  replace p204 := eq_true p204
                  replace q204 := eq_true q204
                  go_wp2
                  repeat (go_quiet (fail); try go_wp2)
                  go_ret
                  exact ⟨by first | rfl | (simp; done) | (simp [*]; done), by repeat (first | exact Drawn0.refl _ | apply Drawn0.step)⟩
              · rw [if_neg c7] at H
                have c7b0 : (((rd_T65 l0 x5_1).f0).toList == ((rd_T65 l1 x5_1).f0).toList) = false := beq_eq_false_iff_ne.mpr c7
                have c7b1 : (((rd_T65 l0 x5_1).f0).toList != ((rd_T65 l1 x5_1).f0).toList) = true := bne_iff_ne.mpr c7
                obtain rfl := Option.some.inj H
                have p201 : 0 ≤ (x5_1 : Int) := of_decide_eq_true (by first | (with_reducible assumption) | assumption)
                have q201 : x5_1 < (l0.length : Int) := of_decide_eq_true (by first | (with_reducible assumption) | assumption)
                obtain ⟨ad201, e201, hx201_0, hx201_1, hx201_2⟩ := at_T65 HR0.out x5_1 p201 q201
                cases e201
                replace p201 := eq_true p201
                replace q201 := eq_true q201
                have p202 : 0 ≤ (x5_1 : Int) := of_decide_eq_true (by first | (with_reducible assumption) | assumption)
                have q202 : x5_1 < (l1.length : Int) := of_decide_eq_true (by first | (with_reducible assumption) | assumption)
                obtain ⟨ad202, e202, hx202_0, hx202_1, hx202_2⟩ := at_T65 HR1.out x5_1 p202 q202
                cases e202
                replace p202 := eq_true p202
                replace q202 := eq_true q202
                go_wp2
                repeat (go_quiet (fail); try go_wp2)
                go_ret
                exact ⟨by first | rfl | (simp; done) | (simp [*]; done), by repeat (first | exact Drawn0.refl _ | apply Drawn0.step)⟩
            · rw [if_neg c6] at H
              exact absurd H (by simp)
          · rw [if_neg c5] at H
            exact absurd H (by simp)
        · rw [if_neg c4] at H
          have c4b0 : decide (x5_1 < (l0.length : Int)) = false := decide_eq_false c4
          clear c4
          obtain rfl := Option.some.inj H
          go_wp2
          repeat (go_quiet (fail); try go_wp2)
          go_ret
          exact ⟨by first | rfl | (simp; done) | (simp [*]; done), by repeat (first | exact Drawn0.refl _ | apply Drawn0.step)⟩
  · rw [if_neg c3] at H
    have c3b0 : ((l0.length : Int) == (l1.length : Int)) = false := beq_eq_false_iff_ne.mpr c3
    have c3b1 : ((l0.length : Int) != (l1.length : Int)) = true := bne_iff_ne.mpr c3
    have c3b2 : (l0.length == l1.length) = false := by first | simpa using c3 | (simp at c3 ⊢; omega)
    obtain rfl := Option.some.inj H
    go_enter Tryz.func18, Tryz.ntmps18
    go_wp2
    repeat (go_quiet (fail); try go_wp2)
    go_ret
    exact ⟨by first | rfl | (simp; done) | (simp [*]; done), by repeat (first | exact Drawn0.refl _ | apply Drawn0.step)⟩
end Go.Proofs.YtehmcahdjldhbaaGreatDoor.Bk
end
section
open Go Go.RowKit Go.Proofs.YtehmcahdjldhbaaGreatDoorW.PrintWords
set_option linter.unusedVariables false
set_option linter.unusedSimpArgs false
set_option maxRecDepth 100000
namespace Go.Proofs.YtehmcahdjldhbaaGreatDoor
open Wk
namespace Bk
theorem below_drawn {w w' : World} (h : Drawn0 w w') : Below w.heap.size w w' := by
  obtain ⟨n, rfl⟩ := h.out
  exact pw_below_drewN (Below.refl _ _) n
theorem one_byte (S : ByteArray) (i : Nat) (h : i < S.size) : (S.extract i (i + 1)).toList = [S[i]] := by
  rw [toList_data]
  have e : (S.extract i (i + 1)).data.toList = (S.data.toList.drop i).take 1 := by
    simp [ByteArray.data_extract]
  rw [e]
  have hl : i < S.data.toList.length := by rw [Array.length_toList]; exact h
  rw [List.drop_eq_getElem_cons hl]
  rfl
theorem within_tab (S : ByteArray) (hS : S.size ≤ 1000000000) : ∀ (m i : Nat), S.size ≤ i + m → i ≤ S.size → ∃ k, incipitref08_Within.l0 k S (⟨#[9]⟩ : ByteArray) i = some (decide (9 ∈ S.data.toList.drop i))
  | 0, i, h1, h2 => by
    have hi : i = S.size := by omega
    refine ⟨1, ?_⟩
    have w1 : wrap64 ((i : Int) + ((⟨#[9]⟩ : ByteArray).size : Int)) = (i : Int) + 1 := by
      show wrap64 ((i : Int) + 1) = _
      unfold wrap64; omega
    unfold incipitref08_Within.l0
    rw [w1, if_neg (by omega), List.drop_eq_nil_of_le (by rw [Array.length_toList]; exact Nat.le_of_eq hi.symm)]
    rfl
  | m + 1, i, h1, h2 => by
    have w1 : wrap64 ((i : Int) + ((⟨#[9]⟩ : ByteArray).size : Int)) = ((i + 1 : Nat) : Int) := by
      show wrap64 ((i : Int) + 1) = _
      unfold wrap64; omega
    have w2 : wrap64 ((i : Int) + 1) = ((i + 1 : Nat) : Int) := by unfold wrap64; omega
    by_cases hi : i < S.size
    · have hl : i < S.data.toList.length := by rw [Array.length_toList]; exact hi
      by_cases hb : S[i] = 9
      · refine ⟨1, ?_⟩
        unfold incipitref08_Within.l0
        rw [w1, if_pos (by omega), if_pos (by omega), if_pos (by omega), Int.toNat_natCast, Int.toNat_natCast, one_byte S i hi, hb, if_pos (by rw [toList_data])]
        have : 9 ∈ S.data.toList.drop i := by
          rw [List.drop_eq_getElem_cons hl]
          have e : S.data.toList[i] = S[i] := rfl
          rw [e, hb]; exact List.mem_cons_self ..
        rw [decide_eq_true this]
      · obtain ⟨k, hk⟩ := within_tab S hS m (i + 1) (by omega) (by omega)
        refine ⟨k + 1, ?_⟩
        rw [incipitref08_Within.l0]
        rw [w1, if_pos (by omega), if_pos (by omega), if_pos (by omega), Int.toNat_natCast, Int.toNat_natCast, one_byte S i hi, if_neg (by rw [toList_data]; intro e; exact hb (List.head_eq_of_cons_eq e)), w2, hk]
        congr 1
        rw [decide_eq_decide]
        rw [List.drop_eq_getElem_cons hl]
        have e : S.data.toList[i] = S[i] := rfl
        rw [e, List.mem_cons]
        constructor
        · exact fun x => .inr x
        · rintro (x | x)
          · exact absurd x.symm hb
          · exact x
    · refine ⟨1, ?_⟩
      unfold incipitref08_Within.l0
      rw [w1, if_neg (by omega), List.drop_eq_nil_of_le (by rw [Array.length_toList]; exact Nat.le_of_not_lt hi)]
      rfl
theorem wi_le {k m : Nat} (h : k ≤ m) (a b : ByteArray) {r : Bool} (e : incipitref08_Within.f k a b = some r) : incipitref08_Within.f m a b = some r := by
  induction h with
  | refl => exact e
  | step _ ih => exact incipitref08_Within.mono _ _ _ _ ih
theorem ta_le {k m : Nat} (h : k ≤ m) (a : List ByteArray) (i : Int) {r : Bool} (e : incipitlaw11_tabs.l0 k a i = some r) : incipitlaw11_tabs.l0 m a i = some r := by
  induction h with
  | refl => exact e
  | step _ ih => exact incipitlaw11_tabs.mono_l _ _ _ _ ih
def hasTab (l : List Bs) : Bool := l.any fun s => decide (9 ∈ s)
theorem tabs_l0 (l : List Bs) (hl : l.length ≤ 1000) (hs : ∀ s ∈ l, s.length ≤ 1000) : ∀ (m i : Nat), l.length ≤ i + m → i ≤ l.length → ∃ k, incipitlaw11_tabs.l0 k (l.map mk) i = some (hasTab (l.drop i))
  | 0, i, h1, h2 => by
    refine ⟨1, ?_⟩
    unfold incipitlaw11_tabs.l0
    rw [if_neg (by rw [List.length_map]; omega), List.drop_eq_nil_of_le (by omega)]
    rfl
  | m + 1, i, h1, h2 => by
    by_cases hi : i < l.length
    · obtain ⟨k2, e2⟩ := tabs_l0 l hl hs m (i + 1) (by omega) (by omega)
      have hsl := hs _ (List.getElem_mem hi)
      have hsz : (mk l[i]).size = l[i].length := mk_size _
      obtain ⟨k1, e1⟩ := within_tab (mk l[i]) (by omega) (mk l[i]).size 0 (by omega) (Nat.zero_le _)
      obtain ⟨K, a1, a2⟩ : ∃ K, k1 ≤ K ∧ k2 ≤ K := ⟨k1 + k2, by omega, by omega⟩
      have e1 : incipitref08_Within.f K (mk l[i]) (⟨#[9]⟩ : ByteArray) = some (decide (9 ∈ l[i])) := wi_le a1 _ _ e1
      have e2 := ta_le a2 _ _ e2
      have er : rdOf ByteArray.empty (l.map mk) (i : Int) = mk l[i] := by
        unfold rdOf
        rw [Int.toNat_natCast, List.getD_eq_getElem?_getD, List.getElem?_map, List.getElem?_eq_getElem hi]; rfl
      have w2 : wrap64 ((i : Int) + 1) = ((i + 1 : Nat) : Int) := by unfold wrap64; omega
      refine ⟨K + 1, ?_⟩
      rw [incipitlaw11_tabs.l0, if_pos (by rw [List.length_map]; omega), if_pos (by omega), er, e1, w2, Option.bind_some, e2]
      unfold hasTab
      rw [List.drop_eq_getElem_cons hi, List.any_cons]
      cases decide (9 ∈ l[i]) <;> simp
    · refine ⟨1, ?_⟩
      unfold incipitlaw11_tabs.l0
      rw [if_neg (by rw [List.length_map]; omega), List.drop_eq_nil_of_le (by omega)]
      rfl
theorem LinesAt.C {w : World} {A : Option Addr} {c : Nat} {l : List Bs} (h : LinesAt w (.slice A l.length c) l) (hl : l.length ≤ 1000) : Kd.C Kd.string w A (l.map mk).length (l.map mk) := by
  refine ⟨rfl, by rw [List.length_map]; omega, fun hp => ?_⟩
  rw [List.length_map] at hp
  rcases h with ⟨e, _⟩ | ⟨g, o, cap, e, h1, h2⟩
  · rw [e] at hp; exact absurd hp (Nat.lt_irrefl 0)
  · cases e
    refine ⟨⟨g, o, none⟩, rfl, fun j p hj => ?_⟩
    rw [List.getElem?_map] at hj
    cases hs : l[j]? with
    | none => rw [hs] at hj; cases hj
    | some s =>
      rw [hs] at hj; cases hj
      refine ⟨[.string (mk s)], rfl, rfl, fun i u hu => ?_⟩
      have hi : i = 0 := by
        have := (List.getElem?_eq_some_iff.1 hu).1
        simp at this; omega
      subst hi
      cases hu
      have e : (⟨g, o, none⟩ : Addr).add (j * 1 + 0) = ⟨g, o + j, none⟩ := by
        unfold Addr.add
        split
        · rename_i e; have : j = 0 := by omega
          subst this; rfl
        · show (⟨g, o + (j * 1 + 0), none⟩ : Addr) = _
          rw [Nat.mul_one, Nat.add_zero]
      show w.cell? ((⟨g, o, none⟩ : Addr).add (j * 1 + 0)) = _
      rw [e]; exact h2 j s hs
theorem tabs_any (w : World) (A : Option Addr) (c : Nat) (l : List Bs) (h : LinesAt w (.slice A l.length c) l) (hc : l.length ≤ c) (hl : l.length ≤ 1000) (hs : ∀ s ∈ l, s.length ≤ 1000) :
    Calls Tryz.prog 15 #[.slice A l.length c] w fun e w' => e = .returned (.bool (hasTab l)) ∧ Below w.heap.size w w' := by
  obtain ⟨k, hk⟩ := tabs_l0 l hl hs l.length 0 (by omega) (Nat.zero_le _)
  have := incipitlaw11_tabs.calls k A c (l.map mk) (hasTab l) w (h.C hl) (by rw [List.length_map]; exact hc) hk
  rw [List.length_map] at this
  exact this.mono fun e w' ⟨h1, h2⟩ => ⟨h1, below_drawn h2⟩
def toR (r : Ref) : S65 := ⟨mk r.label, mk r.dest, mk r.title⟩
theorem sr_l0 (Z : List S65) (hZ : Z.length ≤ 9223372036854775807) : ∀ (m i : Nat), Z.length ≤ i + m → i ≤ Z.length → ∃ k, incipitref10_Same.l0 k Z Z i = some true
  | 0, i, h1, h2 => ⟨1, by unfold incipitref10_Same.l0; rw [if_neg (by omega)]⟩
  | m + 1, i, h1, h2 => by
    by_cases hi : i < Z.length
    · obtain ⟨k, hk⟩ := sr_l0 Z hZ m (i + 1) (by omega) (by omega)
      have w2 : wrap64 ((i : Int) + 1) = ((i + 1 : Nat) : Int) := by unfold wrap64; omega
      refine ⟨k + 1, ?_⟩
      rw [incipitref10_Same.l0, if_pos (by omega), if_pos (by omega), if_pos (by omega), if_pos rfl, if_pos rfl, if_pos rfl, w2, hk]
    · exact ⟨1, by unfold incipitref10_Same.l0; rw [if_neg (by omega)]⟩
theorem RefRow.C {w : World} {B : Nat} {A : Option Addr} {c : Nat} {l : List Ref} (h : RefRow w B (.slice A l.length c) l) (hl : l.length ≤ 9223372036854775807) : Kd.C k65 w A (l.map toR).length (l.map toR) := by
  refine ⟨rfl, by rw [List.length_map]; omega, fun hp => ?_⟩
  rw [List.length_map] at hp
  obtain ⟨g, cap, e, hB, hg⟩ := h.1.form hp
  cases e
  refine ⟨⟨g, 0, none⟩, rfl, fun j p hj => ?_⟩
  rw [List.getElem?_map] at hj
  cases hs : l[j]? with
  | none => rw [hs] at hj; cases hj
  | some r =>
    rw [hs] at hj; cases hj
    obtain ⟨q0, q1, q2⟩ := row_cells h.1 j r hs
    refine ⟨[.string (mk r.label), .string (mk r.dest), .string (mk r.title)], rfl, k65_mk w (toR r), fun i u hu => ?_⟩
    have hz : k65.sz = 3 := rfl
    rw [hz, add_off]
    match i, hu with
    | 0, hu => cases hu; exact q0
    | 1, hu => cases hu; exact q1
    | 2, hu => cases hu; exact q2
theorem RefRow.max {w : World} {B : Nat} {v : Value} {l : List Ref} (h : RefRow w B v l) : l.length ≤ 9223372036854775807 := by
  rcases h.1.2 with ⟨_, h0⟩ | ⟨g, cap, cur, _, _, _, hle, hm, _⟩
  · omega
  · have : cap ≤ maxLen := hm
    unfold maxLen at this
    omega
theorem refs_same (w : World) (B B' : Nat) (A A' : Option Addr) (c c' : Nat) (l : List Ref) (h : RefRow w B (.slice A l.length c) l) (h' : RefRow w B' (.slice A' l.length c') l) (hc : l.length ≤ c) (hc' : l.length ≤ c') :
    Calls Tryz.prog 18 #[.slice A l.length c, .slice A' l.length c'] w fun e w' => e = .returned (.bool true) ∧ Below w.heap.size w w' := by
  have hl := h.max
  obtain ⟨k, hk⟩ := sr_l0 (l.map toR) (by rw [List.length_map]; exact hl) (l.map toR).length 0 (by omega) (Nat.zero_le _)
  have hf : incipitref10_Same.f k (l.map toR) (l.map toR) = some true := by
    unfold incipitref10_Same.f; rw [if_pos rfl]; exact hk
  have := incipitref10_Same.calls k A c (l.map toR) A' c' (l.map toR) true w (h.C hl) (by rw [List.length_map]; exact hc) (h'.C hl) (by rw [List.length_map]; exact hc') hf
  rw [List.length_map] at this
  exact this.mono fun e w' ⟨h1, h2⟩ => ⟨h1, below_drawn h2⟩
end Bk
end Go.Proofs.YtehmcahdjldhbaaGreatDoor
end
