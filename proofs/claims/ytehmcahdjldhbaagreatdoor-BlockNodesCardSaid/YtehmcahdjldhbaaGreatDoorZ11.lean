/- Parts of this session's proof, one behind the other: M21 M22 M23 M24. -/
import Derived.Test.YtehmcahdjldhbaaGreatDoorZ10
import Derived.StillTailTactics
section
/- Package block: what begins, note, item, code leave of the state's fitness; how starts comes to its end. -/
open Go Go.RowKit
set_option linter.unusedVariables false
set_option linter.unusedSimpArgs false
set_option maxRecDepth 100000
namespace Go.Proofs.YtehmcahdjldhbaaGreatDoor
open Wk
namespace Bk
theorem Fit.put {C L L' : Nat} {σ : St} (h : Fit C L σ) (i : Nat) (f : Nd → Nd) (hL : L ≤ L') (hf : ∀ d, (f d).parent = d.parent ∧ (f d).need = d.need ∧ (f d).fn = d.fn ∧ (f d).fi = d.fi ∧ (f d).kids = d.kids) (hk : (σ.nd i).kind = 1 → (f (σ.nd i)).kind = 1) (hl : (f (σ.nd i)).lines.length ≤ L') : Fit C L' (σ.put i f) := by
  have e : ∀ j, ((σ.put i f).nd j) = if j = i then f (σ.nd i) else σ.nd j := fun j => rfl
  have e1 : ∀ j, ((σ.put i f).nd j).parent = (σ.nd j).parent := fun j => by rw [e]; split; (rename_i h; rw [(hf _).1, h]); rfl
  have e2 : ∀ j, ((σ.put i f).nd j).need = (σ.nd j).need := fun j => by rw [e]; split; (rename_i h; rw [(hf _).2.1, h]); rfl
  have e3 : ∀ j, ((σ.put i f).nd j).fn = (σ.nd j).fn := fun j => by rw [e]; split; (rename_i h; rw [(hf _).2.2.1, h]); rfl
  have e4 : ∀ j, ((σ.put i f).nd j).fi = (σ.nd j).fi := fun j => by rw [e]; split; (rename_i h; rw [(hf _).2.2.2.1, h]); rfl
  have e5 : ∀ j, ((σ.put i f).nd j).kids = (σ.nd j).kids := fun j => by rw [e]; split; (rename_i h; rw [(hf _).2.2.2.2, h]); rfl
  exact
    { near := h.near
      par := fun j hj p hp => h.par j hj p (by rw [← e1]; exact hp)
      need := fun j hj => by unfold Nd.small; rw [e2, e3, e4]; exact h.need j hj
      opnN := h.opnN, leafN := h.leafN
      kidN := fun j hj k hk => h.kidN j hj k (by rw [← e5]; exact hk)
      met1 := h.met1, metL := h.metL
      root := ⟨h.root.1, by rw [e]; split; (rename_i h0; subst h0; exact hk h.root.2); exact h.root.2⟩
      count := h.count
      kidL := fun j hj => by rw [e5]; exact h.kidL j hj
      linL := fun j hj => by rw [e]; split; exact hl; exact Nat.le_trans (h.linL j hj) hL
      opnL := h.opnL }
theorem Fit.add {C L : Nat} {σ : St} (h : Fit C L σ) (s : Bs) : Fit C (L + 1) (σ.add s) := by
  unfold St.add
  cases hl : σ.leaf with
  | none => exact h.mono (Nat.le_refl _) (by omega)
  | some i =>
    have hp : Fit C (L + 1) (σ.put i fun d => { d with lines := d.lines ++ [s] }) :=
      h.put i _ (by omega) (fun d => ⟨rfl, rfl, rfl, rfl, rfl⟩) (fun h => h) (by have := h.linL i (h.leafN i hl); simp; omega)
    dsimp only
    split
    · exact hp
    · exact hp.touch i

/-! ### The bytes that are no blanks -/
def cnt (l : Bs) : Nat := (l.filter fun b => !(b == 32 || b == 9)).length
theorem cnt_append (a b : Bs) : cnt (a ++ b) = cnt a + cnt b := by simp [cnt]
theorem cnt_cons (b : UInt8) (t : Bs) : cnt (b :: t) = (if b = 32 ∨ b = 9 then 0 else 1) + cnt t := by
  unfold cnt
  by_cases h1 : b = 32
  · simp [h1]
  · by_cases h2 : b = 9
    · simp [h2]
    · simp [h1, h2]; omega
theorem cnt_blanks (n : Nat) : cnt (List.replicate n 32) = 0 := by
  induction n with
  | zero => rfl
  | succ n ih => rw [List.replicate_succ, cnt_cons, if_pos (.inl rfl), ih]
theorem cnt_len (l : Bs) : cnt l ≤ l.length := by unfold cnt; exact List.length_filter_le _ _
theorem cnt_drop (l : Bs) (k : Nat) : cnt (l.drop k) ≤ cnt l := by
  have := cnt_append (l.take k) (l.drop k)
  rw [List.take_append_drop] at this; omega
theorem cnt_ind : ∀ l : Bs, cnt (l.drop (indK l)) = cnt l
  | [] => rfl
  | b :: t => by
    simp only [indK]
    split
    · rename_i h
      rw [List.drop_succ_cons, cnt_ind t, cnt_cons, if_pos (by rcases h with h | h; exact .inr h; exact .inl h)]; omega
    · simp
theorem cnt_skip : ∀ (l : Bs) (c n : Nat), cnt (skip l c n).1 = cnt l
  | [], c, n => by simp [skip]
  | b :: t, c, n => by
    have h1 := cnt_skip t (c + (4 - c % 4)) (n - (4 - c % 4))
    have h2 := cnt_skip t (c + 1) (n - 1)
    simp only [skip]
    by_cases h0 : n = 0
    · simp [h0]
    · rw [if_neg h0]
      by_cases h32 : b = 32
      · rw [if_pos h32, h2, cnt_cons b t, if_pos (show b = 32 ∨ b = 9 from .inl h32)]; omega
      · rw [if_neg h32]
        by_cases h9 : b = 9
        · rw [if_pos h9, cnt_cons b t, if_pos (show b = 32 ∨ b = 9 from .inr h9)]
          by_cases hn : n < 4 - c % 4
          · rw [if_pos hn]; show cnt (List.replicate _ 32 ++ t) = _; rw [cnt_append, cnt_blanks]
          · rw [if_neg hn, h1]; omega
        · rw [if_neg h9]
theorem ind_head (l : Bs) : ∀ b r, l.drop (indK l) = b :: r → ¬ (b = 32 ∨ b = 9) := by
  induction l with
  | nil => intro b r h; simp at h
  | cons a t ih =>
    intro b r h
    simp only [indK] at h
    split at h
    · rw [List.drop_succ_cons] at h; exact ih b r h
    · rename_i hn
      simp at h
      rw [← h.1]; intro hx; exact hn (by rcases hx with hx | hx; exact .inr hx; exact .inl hx)
theorem cnt_past (σ : St) (m : Nat) (h1 : 1 ≤ m) (h2 : m ≤ σ.t.length) : cnt (σ.past m).s < cnt σ.s := by
  show cnt (σ.t.drop m) < _
  rw [← cnt_ind σ.s]
  show cnt (σ.t.drop m) < cnt σ.t
  cases e : σ.t with
  | nil => rw [e] at h2; simp at h2; omega
  | cons b r =>
    obtain ⟨k, rfl⟩ : ∃ k, m = k + 1 := ⟨m - 1, by omega⟩
    rw [List.drop_succ_cons, cnt_cons, if_neg (ind_head σ.s b r e)]
    have := cnt_drop r k; omega
/-- Behind so many columns of blanks, what is left without blanks is the same. -/
theorem skip_t : ∀ (l : Bs) (c n : Nat), (skip l c n).1.drop (indK (skip l c n).1) = l.drop (indK l)
  | [], c, n => by simp [skip]
  | b :: t, c, n => by
    have h1 := skip_t t (c + (4 - c % 4)) (n - (4 - c % 4))
    have h2 := skip_t t (c + 1) (n - 1)
    have hrep : ∀ k, (List.replicate k 32 ++ t).drop (indK (List.replicate k 32 ++ t)) = t.drop (indK t) := by
      intro k
      induction k with
      | zero => rfl
      | succ k ih => rw [List.replicate_succ, List.cons_append]; simp only [indK]; rw [if_pos (.inr trivial), List.drop_succ_cons]; exact ih
    simp only [skip]
    by_cases h0 : n = 0
    · simp [h0]
    · rw [if_neg h0]
      by_cases h32 : b = 32
      · rw [if_pos h32, h2]; simp only [indK]; rw [if_pos (.inr h32), List.drop_succ_cons]
      · rw [if_neg h32]
        by_cases h9 : b = 9
        · rw [if_pos h9]
          have hr : (b :: t).drop (indK (b :: t)) = t.drop (indK t) := by simp only [indK]; rw [if_pos (.inl h9), List.drop_succ_cons]
          rw [hr]
          split
          · exact hrep _
          · exact h1
        · rw [if_neg h9]
theorem t_skipped (σ : St) (n : Nat) : (σ.skipped n).t = σ.t := skip_t _ _ _
/-- A rest of l. -/
def Suf (l x : Bs) : Prop := ∃ k, x = l.drop k
theorem Suf.drop {l x : Bs} (h : Suf l x) (k : Nat) : Suf l (x.drop k) := by obtain ⟨j, rfl⟩ := h; exact ⟨j + k, by rw [List.drop_drop]⟩
theorem Suf.past {l : Bs} {σ : St} (h : Suf l σ.t) (m : Nat) : Suf l (σ.past m).t := (h.drop m).drop _
theorem enter_s (σ : St) (d : Nd) : (σ.enter d).s = σ.s ∧ (σ.enter d).leaf = none ∧ (σ.enter d).t = σ.t := by
  refine ⟨(lay_keeps σ d).1, rfl, ?_⟩
  show ((σ.enter d).s).drop (indK (σ.enter d).s) = _
  have : (σ.enter d).s = σ.s := (lay_keeps σ d).1
  rw [this]; rfl
theorem Asked.none {F : Bs → List Ref × Bs} {σ : St} (h : σ.leaf = none) : Asked F σ := ⟨fun i e => (by rw [h] at e; cases e), fun i e => (by rw [h] at e; cases e)⟩
theorem begins_false {σ : St} {F : Bs → List Ref × Bs} {U : Bs → Bs} {w : Nat} {t : Bs} (h : (σ.begins F U w t).1 = false) : (σ.begins F U w t).2 = σ := by
  unfold St.begins at *
  split at h
  · cases h
  · rename_i h1; rw [if_neg h1]
    split at h
    · cases h
    · rename_i h2; rw [if_neg h2]
      split at h
      · cases h
      · rename_i h3; rw [if_neg h3]
        split at h
        · cases h
        · rename_i h4; rw [if_neg h4]
          split at h
          · cases h
          · rename_i h5; rw [if_neg h5]
theorem note_false {σ : St} {b : Bool} {t : Bs} (h : (σ.note b t).1 = false) : (σ.note b t).2 = σ := by
  unfold St.note at *
  split at h
  · rename_i h1; rw [if_pos h1]
  · cases h
theorem item_false {σ : St} {w : Nat} {t : Bs} (h : (σ.item w t).1 = false) : (σ.item w t).2 = σ := by
  unfold St.item at *
  dsimp only at *
  split at h
  · rename_i h1; rw [if_pos h1]
  · rename_i h1; rw [if_neg h1]
    split at h
    · rename_i h2; rw [if_pos h2]
    · cases h

theorem small9 {d : Nd} (h1 : d.need = 0) (h2 : d.fn = 0) (h3 : d.fi = 0) : d.small := ⟨by omega, by omega, by omega⟩
theorem Fit.quoted {C L : Nat} {σ : St} (h : Fit C L σ) : Fit C L σ.quoted := by
  unfold St.quoted
  split
  · rename_i hq
    have : 1 ≤ σ.t.length := by unfold St.quotes at hq; simp at hq; exact hasPrefix_pos hq.2
    exact (h.past 1 this).skipped 1
  · exact h
theorem Fit.code {C L : Nat} {σ : St} (h : Fit C L σ) : Fit (C + 1) (L + 1) σ.code := by
  unfold St.code
  dsimp only
  split
  · exact (h.mono (by omega) (Nat.le_refl _)).add _
  · exact (h.layLeaf (d := { kind := 5 }) rfl (small9 rfl rfl rfl) (Nat.zero_le _)).add _
theorem Fit.close {C L : Nat} {σ : St} (h : Fit C L σ) : Fit C L σ.close := h.leafSet none fun i e => by cases e
theorem headOk_leaf {F : Bs → List Ref × Bs} {σ : St} {level : Nat} (h : σ.headOk F level = true) : ∃ i, σ.leaf = some i ∧ (σ.nd i).kind = 7 ∧ σ.goes = true ∧ σ.all = true := by
  unfold St.headOk at h
  split at h
  · cases h
  · split at h
    · cases h
    · rename_i h2
      simp at h2
      cases hl : σ.leaf with
      | none => rw [hl] at h; cases h
      | some i =>
        refine ⟨i, rfl, ?_, h2.2, h2.1⟩
        have := h2.2
        unfold St.goes St.leafKind at this
        rw [hl] at this; simp at this; exact this.1
theorem Fit.head {C L : Nat} {σ : St} (h : Fit C L σ) (F : Bs → List Ref × Bs) (level : Nat) : Fit C L (σ.head F level) := by
  unfold St.head
  split
  · rename_i hq
    obtain ⟨i, hl, hk, _⟩ := headOk_leaf hq
    rw [hl]
    dsimp only
    have hi := h.leafN i hl
    have hkt : ((σ.touch i).nd i).kind = 7 := by
      show (touchA σ.n σ.nd (some i) σ.line i).kind = 7
      rw [touchA_frame]; exact hk
    have hlt : ((σ.touch i).nd i).lines.length ≤ L := (h.touch i).linL i hi
    exact ((h.touch i).put i (fun d => { d with kind := 8, N := level, setext := true }) (Nat.le_refl _) (fun d => ⟨rfl, rfl, rfl, rfl, rfl⟩) (fun e => by rw [hkt] at e; cases e) hlt).leafSet none fun i e => by cases e
  · exact h
theorem fence_le (t : Bs) : (Sc.fence t).2.1 ≤ t.length := by
  unfold Sc.fence
  split
  · exact Nat.zero_le _
  · split
    · exact Nat.zero_le _
    · split
      · exact Nat.zero_le _
      · exact Sc.run_le _ _
theorem Fit.begins {C L : Nat} {σ : St} (h : Fit C L σ) (F : Bs → List Ref × Bs) (U : Bs → Bs) (w : Nat) (t : Bs) (hw : w ≤ 1000000) (ht : t.length ≤ 1000000) : Fit (C + 1) (L + 1) (σ.begins F U w t).2 := by
  have h1 := h.mono (Nat.le_refl C) (show L ≤ L + 1 by omega)
  have hm := h.mono (show C ≤ C + 1 by omega) (show L ≤ L + 1 by omega)
  unfold St.begins
  split
  · exact h1.lay rfl (small9 rfl rfl rfl) (by simp)
  · split
    · exact h1.layLeaf rfl ⟨Nat.zero_le _, by have := fence_le t; show (Sc.fence t).2.1 ≤ _; omega, by show w ≤ _; omega⟩ (Nat.zero_le _)
    · split
      · dsimp only
        split
        · exact (h1.layLeaf rfl (small9 rfl rfl rfl) (by simp)).close
        · exact h1.layLeaf rfl (small9 rfl rfl rfl) (by simp)
      · split
        · exact hm.head F _
        · split
          · exact h1.lay rfl (small9 rfl rfl rfl) (Nat.zero_le _)
          · exact hm
theorem Fit.note {C L : Nat} {σ : St} (h : Fit C L σ) (b : Bool) : Fit (C + 1) L (σ.note b σ.t).2 := by
  unfold St.note
  split
  · exact h.mono (by omega) (Nat.le_refl _)
  · exact ((h.past _ (label_le σ.t)).enter rfl (small9 rfl rfl rfl) (Nat.zero_le _)).skipped _
theorem Fit.item {C L : Nat} {σ : St} (h : Fit C L σ) : Fit (C + 2) L (σ.item σ.w σ.t).2 := by
  have hml := marker_le σ.t
  have hz := h.near.tLe
  have hw := h.near.wLe
  have hg : σ.itemGap σ.w σ.t (marker σ.t).2.2.1 ≤ 5 := by
    unfold St.itemGap; dsimp only; split
    · omega
    · rename_i hx; have : ¬ 5 ≤ indW (σ.t.drop (marker σ.t).2.2.1) (σ.col + σ.w + (marker σ.t).2.2.1) := fun e => hx (.inr e); omega
  unfold St.item
  dsimp only
  split
  · exact h.mono (by omega) (Nat.le_refl _)
  · split
    · exact h.mono (by omega) (Nat.le_refl _)
    · have hp := (h.past _ hml).skipped (σ.itemGap σ.w σ.t (marker σ.t).2.2.1)
      have sm : Nd.small { kind := 4, need := σ.w + (marker σ.t).2.2.1 + σ.itemGap σ.w σ.t (marker σ.t).2.2.1 } := ⟨by show σ.w + (marker σ.t).2.2.1 + σ.itemGap σ.w σ.t (marker σ.t).2.2.1 ≤ 4000000; omega, Nat.zero_le _, Nat.zero_le _⟩
      split
      · exact (hp.enter rfl (small9 rfl rfl rfl) (Nat.zero_le _)).enter rfl sm (Nat.zero_le _)
      · exact (hp.enter rfl sm (Nat.zero_le _)).mono (by omega) (Nat.le_refl _)
section
variable (F : Bs → List Ref × Bs) (U : Bs → Bs) (notes : Bool)
/-- A round of starts. -/
theorem starts_step (k : Nat) (σ : St) : σ.starts F U notes (k + 1) =
    if σ.blank then (false, σ) else if 4 ≤ σ.w then (if σ.goes then (false, σ) else (true, σ.code)) else if σ.quotes then (σ.quoted.enter { kind := 2 }).starts F U notes k
    else if (σ.begins F U σ.w σ.t).1 then (true, (σ.begins F U σ.w σ.t).2) else if (σ.note notes σ.t).1 then (σ.note notes σ.t).2.starts F U notes k else if (σ.item σ.w σ.t).1 then (σ.item σ.w σ.t).2.starts F U notes k else (false, σ) := by
  rw [St.starts]
  split
  · rfl
  · split
    · rfl
    · split
      · rfl
      · cases hb : (σ.begins F U σ.w σ.t).1 with
        | true => simp [hb]
        | false =>
          have e1 := begins_false hb
          simp only [hb, Bool.false_eq_true, if_false, e1]
          cases hn : (σ.note notes σ.t).1 with
          | true => simp [hn]
          | false =>
            have e2 := note_false hn
            simp only [hn, Bool.false_eq_true, if_false, e2]
            cases hi : (σ.item σ.w σ.t).1 with
            | true => simp [hi]
            | false => simp only [hi, Bool.false_eq_true, if_false]; rw [item_false hi]
theorem Fit.starts {L : Nat} : ∀ (k C : Nat) (σ : St), Fit C L σ → Fit (C + 2 * k + 1) (L + 1) (σ.starts F U notes k).2
  | 0, C, σ, h => h.mono (by omega) (by omega)
  | k + 1, C, σ, h => by
    have hm := h.mono (show C ≤ C + 2 * (k + 1) + 1 by omega) (show L ≤ L + 1 by omega)
    rw [starts_step]
    split
    · exact hm
    · split
      · split
        · exact hm
        · exact h.code.mono (by omega) (Nat.le_refl _)
      · split
        · exact (Fit.starts k (C + 1) _ (h.quoted.enter rfl (small9 rfl rfl rfl) (Nat.zero_le _))).mono (by omega) (Nat.le_refl _)
        · split
          · exact (h.begins F U _ _ h.near.wLe h.near.tLe).mono (by omega) (Nat.le_refl _)
          · split
            · exact (Fit.starts k (C + 1) _ (h.note _)).mono (by omega) (Nat.le_refl _)
            · split
              · exact (Fit.starts k (C + 2) _ h.item).mono (by omega) (Nat.le_refl _)
              · exact hm
end
end Bk
end Go.Proofs.YtehmcahdjldhbaaGreatDoor
end
section
/- Package block: starts. -/
open Go Go.RowKit
set_option linter.unusedVariables false
set_option linter.unusedSimpArgs false
set_option maxRecDepth 100000
namespace Go.Proofs.YtehmcahdjldhbaaGreatDoor
open Wk
namespace Bk
/-- What is asked of the functions beneath, at the rests of a line. -/
def LineOk (U : Bs → Bs) (l : Bs) : Prop := ∀ x, Suf l x → LabelC x ∧ UnescC U (Sc.fence x).2.2

set_option maxHeartbeats 16000000 in
theorem starts_any {B : Nat} {w : World} {mb : Nat} {mask : Int} {nb : Nat → Nat} {kv lv : Nat → Value} {ov : Value} {σ : St} {C L : Nat} {F : Bs → List Ref × Bs} {U : Bs → Bs} (h : MRep B w mb mask nb kv lv ov σ) (hF : Fit C L σ) (hC : C + 3000000 < 1000000000000) (hL : L < 1000000000000) (hA : Asked F σ)
    (hX : LineOk U σ.t) :
    Calls Tryz.prog 34 #[.pointer (some ⟨mb, 0, none⟩)] w (EntPostB B mb mask (σ.starts F U (notesOf mask) (σ.s.length + 1)).1 (σ.starts F U (notesOf mask) (σ.s.length + 1)).2 w) := by
  have hsl : σ.s.length ≤ 1000000 := by have := phi_len σ.s; have := hF.near; unfold Near at this; omega
  have hcl := cnt_len σ.s
  generalize hR : σ.starts F U (notesOf mask) (σ.s.length + 1) = R
  go_enter Tryz.func34, Tryz.ntmps34
  go_wp2
  go_loopg [] (σ.s.length + 1) (fun k wr => ∃ (τ : St) (nb : Nat → Nat) (kv lv : Nat → Value) (ov : Value) (C' : Nat), MRep B wr mb mask nb kv lv ov τ ∧ Fit C' L τ ∧ C' + 2 * k ≤ C + 2 * (σ.s.length + 1) ∧ Hid (τ.starts F U (notesOf mask) k = R) ∧ Asked F τ ∧ Hid (Suf σ.t τ.t) ∧ cnt τ.s < k ∧ Below B w wr)
  case atStart => exact ⟨σ, nb, kv, lv, ov, C, h, hF, by omega, hR, hA, ⟨0, by simp⟩, by omega, Below.refl _ _⟩
  case round =>
    obtain ⟨τ, nb1, kv1, lv1, ov1, C1, M, hF1, hC1, hRR, hA1, hS1, hcn, hbw⟩ := hrel
    obtain ⟨k, rfl⟩ : ∃ k, gk = k + 1 := ⟨gk - 1, by omega⟩
    have hRS := hRR.out
    rw [starts_step] at hRS
    have BL := mblank_any M hF1.near
    have IN := fun w (h : MRep B w mb mask nb1 kv1 lv1 ov1 τ) => mindent_any h hF1.near
    have GO := fun w (h : MRep B w mb mask nb1 kv1 lv1 ov1 τ) => goes_any h hF1.leafN
    have CO := fun w (h : MRep B w mb mask nb1 kv1 lv1 ov1 τ) => code_any h hF1 (by omega) (by omega)
    have QU := fun w (h : MRep B w mb mask nb1 kv1 lv1 ov1 τ) => quoted_any h hF1.near
    obtain ⟨hLb, hUn⟩ := hX τ.t hS1.out
    have BE := fun w (h : MRep B w mb mask nb1 kv1 lv1 ov1 τ) => begins_any h hF1 (by omega) (by omega) hA1 τ.w hF1.near.wLe τ.t hF1.near.tLe hUn
    have NO := fun w nb kv lv ov (h : MRep B w mb mask nb kv lv ov τ) => note_any h hF1 (by omega) (by omega) hLb
    have IT := fun w nb kv lv ov (h : MRep B w mb mask nb kv lv ov τ) => item_any h hF1 (by omega) (by omega)
    have hM := M.mlow
    clear hRR hR
    cases hb : τ.blank with
    | true =>
      rw [hb] at BL hRS
      have HR : Hid ((false, τ) = R) := by apply Lib.hid; rw [← hRS]; rfl
      clear hRS
      go_wp2_with (go_at_call 46; (with_reducible refine BL.mono ?_); rintro e w1 ⟨rfl, hb1⟩; have M1 := M.below hb1)
      go_ret
      exact ⟨nb1, kv1, lv1, ov1, by rw [← HR.out]; rfl, by rw [← HR.out]; exact M1, hbw.trans (hb1.mono hM)⟩
    | false =>
      rw [hb] at BL hRS
      rw [if_neg (by simp)] at hRS
      by_cases hw : 4 ≤ τ.w
      · have dw : decide ((4 : Int) ≤ (τ.w : Int)) = true := by rw [decide_eq_true_iff]; omega
        rw [if_pos hw] at hRS
        cases hg : τ.goes with
        | true =>
          rw [hg] at GO hRS
          have HR : Hid ((false, τ) = R) := by apply Lib.hid; rw [← hRS]; rfl
          clear hRS
          go_wp2_with (first
            | (go_at_call 46; (with_reducible refine BL.mono ?_); rintro e w1 ⟨rfl, hb1⟩; have M1 := M.below hb1)
            | (go_at_call 51; (with_reducible refine (IN _ M1).mono ?_); rintro e w2 ⟨rfl, hb2⟩; have M2 := M1.below hb2)
            | (go_at_call 52; (with_reducible refine (GO _ M2).mono ?_); rintro e w3 ⟨rfl, hb3⟩; have M3 := M2.below hb3))
          go_ret
          exact ⟨nb1, kv1, lv1, ov1, by rw [← HR.out]; rfl, by rw [← HR.out]; exact M3, ((hbw.trans (hb1.mono hM)).trans (hb2.mono M1.mlow)).trans (hb3.mono M2.mlow)⟩
        | false =>
          rw [hg] at GO hRS
          have HR : Hid ((true, τ.code) = R) := by apply Lib.hid; rw [← hRS]; rfl
          clear hRS
          go_wp2_with (first
            | (go_at_call 46; (with_reducible refine BL.mono ?_); rintro e w1 ⟨rfl, hb1⟩; have M1 := M.below hb1)
            | (go_at_call 51; (with_reducible refine (IN _ M1).mono ?_); rintro e w2 ⟨rfl, hb2⟩; have M2 := M1.below hb2)
            | (go_at_call 52; (with_reducible refine (GO _ M2).mono ?_); rintro e w3 ⟨rfl, hb3⟩; have M3 := M2.below hb3)
            | (go_at_call 53; (refine (CO _ M3).mono ?_); rintro e w4 ⟨nb4, kv4, lv4, ov4, rfl, M4, hb4⟩))
          go_ret
          exact ⟨nb4, kv4, lv4, ov4, by rw [← HR.out]; rfl, by rw [← HR.out]; exact M4, (((hbw.trans (hb1.mono hM)).trans (hb2.mono M1.mlow)).trans (hb3.mono M2.mlow)).trans hb4⟩
      · have dw : decide ((4 : Int) ≤ (τ.w : Int)) = false := by rw [decide_eq_false_iff_not]; omega
        rw [if_neg hw] at hRS
        cases hq : τ.quotes with
        | true =>
          rw [hq] at QU hRS
          rw [if_pos rfl] at hRS
          have ht1 : 1 ≤ τ.t.length := by unfold St.quotes at hq; simp at hq; exact hasPrefix_pos hq.2
          have hqd : τ.quoted = (τ.past 1).skipped 1 := by unfold St.quoted; rw [hq]; rfl
          have hcq : cnt τ.quoted.s < cnt τ.s := by rw [hqd]; show cnt (skip (τ.past 1).s (τ.past 1).col 1).1 < _; rw [cnt_skip]; exact cnt_past τ 1 (by omega) ht1
          have hSq : Suf σ.t τ.quoted.t := by rw [hqd, t_skipped]; exact hS1.out.past 1
          have hFq := hF1.quoted
          have EN := fun w nb kv lv ov (h : MRep B w mb mask nb kv lv ov τ.quoted) => enter_fresh h hFq (by omega) { kind := 2 } rfl rfl rfl _ (zeroNode_cells nb 2)
          have hFe := hFq.enter (d := { kind := 2 }) rfl (small9 rfl rfl rfl) (Nat.zero_le _)
          have hes := enter_s τ.quoted { kind := 2 }
          have HRS := Lib.hid hRS
          have HSQ := Lib.hid hSq
          have HES := Lib.hid hes
          clear hRS hqd hSq hes BE NO IT CO GO hw
          go_wp2_with (first
            | (go_at_call 46; (with_reducible refine BL.mono ?_); rintro e w1 ⟨rfl, hb1⟩; have M1 := M.below hb1)
            | (go_at_call 51; (with_reducible refine (IN _ M1).mono ?_); rintro e w2 ⟨rfl, hb2⟩; have M2 := M1.below hb2)
            | (go_at_call 44; (with_reducible refine (QU _ M2).mono ?_); rintro e w3 ⟨rfl, M3, hb3⟩; have EN3 := EN _ _ _ _ _ M3; have hbA := fun o => ((Below.refl w3.heap.size w3).alloc (Nat.le_refl _) o))
            | (go_at_call 54; (refine EN3.mono ?_); rintro e w4 ⟨nb4, kv4, lv4, ov4, rfl, M4, hb4⟩))
          go_roundg k
          case rel => exact ⟨_, nb4, kv4, lv4, ov4, C1 + 1, M4, hFe, by omega, HRS, Asked.none HES.out.2.1, by apply Lib.hid; rw [HES.out.2.2]; exact HSQ.out, by rw [HES.out.1]; omega, ((((hbw.trans (hb1.mono hM)).trans (hb2.mono M1.mlow)).trans hb3).trans ((hbA _).mono M3.mlow)).trans hb4⟩
          case measure => omega
        | false =>
          rw [hq] at QU hRS
          rw [if_neg (by simp)] at hRS
          have hqd : τ.quoted = τ := by unfold St.quoted; rw [hq]; rfl
          rw [hqd] at QU
          clear hqd
          have hfalse := fun h => begins_false (σ := τ) (F := F) (U := U) (w := τ.w) (t := τ.t) h
          have hnf := fun h => note_false (σ := τ) (b := notesOf mask) (t := τ.t) h
          have hif := fun h => item_false (σ := τ) (w := τ.w) (t := τ.t) h
          have hF2 := hF1.note (notesOf mask)
          have hF3 := hF1.item
          have hn1 : (τ.note (notesOf mask) τ.t).1 = true → cnt (τ.note (notesOf mask) τ.t).2.s < cnt τ.s ∧ Suf σ.t (τ.note (notesOf mask) τ.t).2.t ∧ (τ.note (notesOf mask) τ.t).2.leaf = none := by
            intro hx
            unfold St.note at hx ⊢
            split at hx
            · cases hx
            · rename_i hc
              rw [if_neg hc]
              dsimp only
              have hl0 : (label τ.t).2 ≠ 0 := fun e => hc (.inl e)
              have he := enter_s (τ.past (label τ.t).2) { kind := 13, S := (label τ.t).1 }
              refine ⟨?_, ?_, rfl⟩
              · show cnt (skip ((τ.past (label τ.t).2).enter _).s _ _).1 < _
                rw [cnt_skip, he.1]; exact cnt_past τ _ (by omega) (label_le τ.t)
              · rw [t_skipped, he.2.2]; exact hS1.out.past _
          have hi1 : (τ.item τ.w τ.t).1 = true → cnt (τ.item τ.w τ.t).2.s < cnt τ.s ∧ Suf σ.t (τ.item τ.w τ.t).2.t ∧ (τ.item τ.w τ.t).2.leaf = none := by
            intro hx
            have hml := marker_le τ.t
            unfold St.item at hx ⊢
            dsimp only at hx ⊢
            split at hx
            · cases hx
            · rename_i hc
              rw [if_neg hc]
              split at hx
              · cases hx
              · rename_i hc2
                rw [if_neg hc2]
                have hp : cnt ((τ.past (marker τ.t).2.2.1).skipped (τ.itemGap τ.w τ.t (marker τ.t).2.2.1)).s < cnt τ.s := by
                  show cnt (skip (τ.past (marker τ.t).2.2.1).s _ _).1 < _
                  rw [cnt_skip]; exact cnt_past τ _ (by omega) hml
                have hq : Suf σ.t ((τ.past (marker τ.t).2.2.1).skipped (τ.itemGap τ.w τ.t (marker τ.t).2.2.1)).t := by rw [t_skipped]; exact hS1.out.past _
                split
                · refine ⟨?_, ?_, rfl⟩
                  · dsimp only; rw [(enter_s _ _).1, (enter_s _ _).1]; exact hp
                  · dsimp only; rw [(enter_s _ _).2.2, (enter_s _ _).2.2]; exact hq
                · refine ⟨?_, ?_, rfl⟩
                  · dsimp only; rw [(enter_s _ _).1]; exact hp
                  · dsimp only; rw [(enter_s _ _).2.2]; exact hq
          have HRS := Lib.hid hRS
          have HF := Lib.hid hfalse
          have HNF := Lib.hid hnf
          have HIF := Lib.hid hif
          have HN1 := Lib.hid hn1
          have HI1 := Lib.hid hi1
          clear hRS hfalse hnf hif hn1 hi1 CO GO hw
          generalize (τ.begins F U τ.w τ.t).1 = b1 at *
          generalize (τ.begins F U τ.w τ.t).2 = β at *
          generalize (τ.note (notesOf mask) τ.t).1 = n1 at *
          generalize (τ.note (notesOf mask) τ.t).2 = ν at *
          generalize (τ.item τ.w τ.t).1 = i1 at *
          generalize (τ.item τ.w τ.t).2 = ι at *
          unfold EntPostB at BE NO IT
          have hBL := BL
          cases b1 with
          | true =>
            have HR : Hid ((true, β) = R) := by apply Lib.hid; rw [← HRS.out]; rfl
            go_wp2_with (first
            | (go_at_call 46; (with_reducible refine BL.mono ?_); rintro e w1 ⟨rfl, hb1⟩; have M1 := M.below hb1)
            | (go_at_call 51; (with_reducible refine (IN _ M1).mono ?_); rintro e w2 ⟨rfl, hb2⟩; have M2 := M1.below hb2)
            | (go_at_call 44; (with_reducible refine (QU _ M2).mono ?_); rintro e w3 ⟨rfl, M3, hb3⟩)
            | (go_at_call 55; (refine (BE _ M3).mono ?_); rintro e w4 ⟨nb4, kv4, lv4, ov4, rfl, M4, hb4⟩))
            go_ret
            exact ⟨nb4, kv4, lv4, ov4, by rw [← HR.out]; rfl, by rw [← HR.out]; exact M4, (((hbw.trans (hb1.mono hM)).trans (hb2.mono M1.mlow)).trans hb3).trans hb4⟩
          | false =>
            have hβ := HF.out rfl
            subst hβ
            have HRS2 : Hid ((if n1 = true then ν.starts F U (notesOf mask) k else if i1 = true then ι.starts F U (notesOf mask) k else (false, β)) = R) := by
              apply Lib.hid; rw [← HRS.out]; rfl
            cases n1 with
            | true =>
              have hc := Lib.hid (HN1.out rfl)
              have HR3 : Hid (ν.starts F U (notesOf mask) k = R) := by apply Lib.hid; rw [← HRS2.out]; rfl
              go_wp2_with (first
              | (go_at_call 46; (with_reducible refine BL.mono ?_); rintro e w1 ⟨rfl, hb1⟩; have M1 := M.below hb1)
              | (go_at_call 51; (with_reducible refine (IN _ M1).mono ?_); rintro e w2 ⟨rfl, hb2⟩; have M2 := M1.below hb2)
              | (go_at_call 44; (with_reducible refine (QU _ M2).mono ?_); rintro e w3 ⟨rfl, M3, hb3⟩)
              | (go_at_call 55; (refine (BE _ M3).mono ?_); rintro e w4 ⟨nb4, kv4, lv4, ov4, rfl, M4, hb4⟩)
              | (go_at_call 56; (refine (NO _ _ _ _ _ M4).mono ?_); rintro e w5 ⟨nb5, kv5, lv5, ov5, rfl, M5, hb5⟩))
              go_roundg k
              case rel => exact ⟨ν, nb5, kv5, lv5, ov5, C1 + 1, M5, hF2, by omega, HR3, Asked.none hc.out.2.2, Lib.hid hc.out.2.1, by have := hc.out.1; omega, ((((hbw.trans (hb1.mono hM)).trans (hb2.mono M1.mlow)).trans hb3).trans hb4).trans hb5⟩
              case measure => omega
            | false =>
              have hν := HNF.out rfl
              subst hν
              have HRS3 : Hid ((if i1 = true then ι.starts F U (notesOf mask) k else (false, ν)) = R) := by
                apply Lib.hid; rw [← HRS2.out]; rfl
              cases i1 with
              | true =>
                have hc := Lib.hid (HI1.out rfl)
                have HR3 : Hid (ι.starts F U (notesOf mask) k = R) := by apply Lib.hid; rw [← HRS3.out]; rfl
                go_wp2_with (first
              | (go_at_call 46; (with_reducible refine BL.mono ?_); rintro e w1 ⟨rfl, hb1⟩; have M1 := M.below hb1)
              | (go_at_call 51; (with_reducible refine (IN _ M1).mono ?_); rintro e w2 ⟨rfl, hb2⟩; have M2 := M1.below hb2)
              | (go_at_call 44; (with_reducible refine (QU _ M2).mono ?_); rintro e w3 ⟨rfl, M3, hb3⟩)
              | (go_at_call 55; (refine (BE _ M3).mono ?_); rintro e w4 ⟨nb4, kv4, lv4, ov4, rfl, M4, hb4⟩)
              | (go_at_call 56; (refine (NO _ _ _ _ _ M4).mono ?_); rintro e w5 ⟨nb5, kv5, lv5, ov5, rfl, M5, hb5⟩)
              | (go_at_call 57; (refine (IT _ _ _ _ _ M5).mono ?_); rintro e w6 ⟨nb6, kv6, lv6, ov6, rfl, M6, hb6⟩))
                go_roundg k
                case rel => exact ⟨ι, nb6, kv6, lv6, ov6, C1 + 2, M6, hF3, by omega, HR3, Asked.none hc.out.2.2, Lib.hid hc.out.2.1, by have := hc.out.1; omega, (((((hbw.trans (hb1.mono hM)).trans (hb2.mono M1.mlow)).trans hb3).trans hb4).trans hb5).trans hb6⟩
                case measure => omega
              | false =>
                have hι := HIF.out rfl
                subst hι
                have HR : Hid ((false, ι) = R) := by apply Lib.hid; rw [← HRS3.out]; rfl
                go_wp2_with (first
              | (go_at_call 46; (with_reducible refine BL.mono ?_); rintro e w1 ⟨rfl, hb1⟩; have M1 := M.below hb1)
              | (go_at_call 51; (with_reducible refine (IN _ M1).mono ?_); rintro e w2 ⟨rfl, hb2⟩; have M2 := M1.below hb2)
              | (go_at_call 44; (with_reducible refine (QU _ M2).mono ?_); rintro e w3 ⟨rfl, M3, hb3⟩)
              | (go_at_call 55; (refine (BE _ M3).mono ?_); rintro e w4 ⟨nb4, kv4, lv4, ov4, rfl, M4, hb4⟩)
              | (go_at_call 56; (refine (NO _ _ _ _ _ M4).mono ?_); rintro e w5 ⟨nb5, kv5, lv5, ov5, rfl, M5, hb5⟩)
              | (go_at_call 57; (refine (IT _ _ _ _ _ M5).mono ?_); rintro e w6 ⟨nb6, kv6, lv6, ov6, rfl, M6, hb6⟩))
                go_ret
                exact ⟨nb6, kv6, lv6, ov6, by rw [← HR.out]; rfl, by rw [← HR.out]; exact M6, (((((hbw.trans (hb1.mono hM)).trans (hb2.mono M1.mlow)).trans hb3).trans hb4).trans hb5).trans hb6⟩
end Bk
end Go.Proofs.YtehmcahdjldhbaaGreatDoor
end
section
/- Package block: line. -/
open Go Go.RowKit
set_option linter.unusedVariables false
set_option linter.unusedSimpArgs false
set_option maxRecDepth 100000
namespace Go.Proofs.YtehmcahdjldhbaaGreatDoor
open Wk
namespace Bk
theorem Fit.deep {C L : Nat} {σ : St} (h : Fit C L σ) (n : Nat) : Fit C L (σ.deep n) := by
  unfold St.deep
  split
  · exact h.skipped _
  · exact h
theorem Fit.meet {C L : Nat} {σ : St} (h : Fit C L σ) (i : Nat) : Fit C L (σ.meet i) := by
  unfold St.meet
  split
  · split
    · exact h.quoted.touch i
    · exact h
  · split
    · split
      · exact h
      · exact h.deep _
    · split
      · exact h.deep _
      · exact h
theorem quoted_keeps (σ : St) : σ.quoted.n = σ.n ∧ σ.quoted.opn = σ.opn ∧ σ.quoted.met = σ.met ∧ σ.quoted.leaf = σ.leaf ∧ σ.quoted.began = σ.began ∧ σ.quoted.line = σ.line ∧ σ.quoted.nd = σ.nd := by
  unfold St.quoted; split <;> exact ⟨rfl, rfl, rfl, rfl, rfl, rfl, rfl⟩
theorem deep_keeps (σ : St) (n : Nat) : (σ.deep n).n = σ.n ∧ (σ.deep n).opn = σ.opn ∧ (σ.deep n).met = σ.met ∧ (σ.deep n).leaf = σ.leaf ∧ (σ.deep n).began = σ.began ∧ (σ.deep n).line = σ.line ∧ (σ.deep n).nd = σ.nd := by
  unfold St.deep; split <;> exact ⟨rfl, rfl, rfl, rfl, rfl, rfl, rfl⟩
theorem meet_keeps (σ : St) (i : Nat) : (σ.meet i).n = σ.n ∧ (σ.meet i).opn = σ.opn ∧ (σ.meet i).met = σ.met ∧ (σ.meet i).leaf = σ.leaf ∧ (σ.meet i).began = σ.began ∧ (σ.meet i).line = σ.line := by
  unfold St.meet
  split
  · split
    · obtain ⟨h1, h2, h3, h4, h5, h6, _⟩ := quoted_keeps σ
      exact ⟨h1, h2, h3, h4, h5, h6⟩
    · exact ⟨rfl, rfl, rfl, rfl, rfl, rfl⟩
  · split
    · split
      · exact ⟨rfl, rfl, rfl, rfl, rfl, rfl⟩
      · obtain ⟨h1, h2, h3, h4, h5, h6, _⟩ := deep_keeps σ (σ.nd i).need
        exact ⟨h1, h2, h3, h4, h5, h6⟩
    · split
      · obtain ⟨h1, h2, h3, h4, h5, h6, _⟩ := deep_keeps σ 4
        exact ⟨h1, h2, h3, h4, h5, h6⟩
      · exact ⟨rfl, rfl, rfl, rfl, rfl, rfl⟩
theorem Fit.met {C L : Nat} {σ : St} (h : Fit C L σ) (m : Nat) (h1 : 1 ≤ m) (h2 : m ≤ σ.opn.length) : Fit C L { σ with met := m } := { h with met1 := h1, metL := h2 }
theorem Fit.began {C L : Nat} {σ : St} (h : Fit C L σ) (b : Bool) : Fit C L { σ with began := b } := { h with }
theorem Fit.meets {C L : Nat} : ∀ (k : Nat) (σ : St), Fit C L σ → Fit C L (σ.meets k)
  | 0, σ, h => h
  | k + 1, σ, h => by
    rw [St.meets]
    split
    · rename_i hlt
      split
      · exact Fit.meets k _ ((h.meet _).met _ (by omega) (by rw [(meet_keeps σ _).2.1]; omega))
      · exact h.meet _
    · exact h
theorem Fit.takes {C L : Nat} {σ : St} (h : Fit C L σ) : Fit C (L + 1) σ.takes.2 := by
  have hm := h.mono (Nat.le_refl C) (show L ≤ L + 1 by omega)
  unfold St.takes
  split
  · cases hl : σ.leaf with
    | none => exact hm
    | some i =>
      dsimp only
      split
      · unfold St.fenced
        split
        · exact (hm.touch i).close
        · exact h.add _
      · split
        · dsimp only
          unfold St.html
          split
          · split
            · exact (h.add _).close
            · exact h.add _
          · exact hm.close
        · exact hm
  · exact hm
/-- The state in which a line's containers are met. -/
def St.line0 (σ : St) : St := { σ with met := 1, began := false }
theorem one_eq (F : Bs → List Ref × Bs) (U : Bs → Bs) (nt : Bool) (σ : St) : σ.one F U nt =
    if ((σ.line0.meets σ.opn.length).takes).1 then ((σ.line0.meets σ.opn.length).takes).2
    else if (((σ.line0.meets σ.opn.length).takes).2.starts F U nt (((σ.line0.meets σ.opn.length).takes).2.s.length + 1)).1 then (((σ.line0.meets σ.opn.length).takes).2.starts F U nt (((σ.line0.meets σ.opn.length).takes).2.s.length + 1)).2
    else (((σ.line0.meets σ.opn.length).takes).2.starts F U nt (((σ.line0.meets σ.opn.length).takes).2.s.length + 1)).2.text := rfl

set_option maxHeartbeats 16000000 in
theorem line_any {B : Nat} {w : World} {mb : Nat} {mask : Int} {nb : Nat → Nat} {kv lv : Nat → Value} {ov : Value} {σ : St} {C L : Nat} {F : Bs → List Ref × Bs} {U : Bs → Bs} (h : MRep B w mb mask nb kv lv ov σ) (hF0 : Fit C L σ.line0) (hC : C + 6000000 < 1000000000000) (hL : L + 3 < 1000000000000)
    (hX : ((σ.line0.meets σ.opn.length).takes).1 = false → Asked F ((σ.line0.meets σ.opn.length).takes).2 ∧ LineOk U ((σ.line0.meets σ.opn.length).takes).2.t) :
    Calls Tryz.prog 25 #[.pointer (some ⟨mb, 0, none⟩)] w (EntPost B mb mask (σ.one F U (notesOf mask)) w) := by
  have hB := h.mlow
  have f5 := h.free 5
  have f6 := h.free 6
  have c5 := h.c5
  have c6 := h.c6
  have hpos : 1 ≤ σ.opn.length := by
    have := hF0.met1; have := hF0.metL; have : σ.line0.met ≤ σ.opn.length := hF0.metL; have : σ.line0.met = 1 := rfl; omega
  have M0 : MRep B ((w.setCell ⟨mb, 5, none⟩ (.int .i64 1)).setCell ⟨mb, 6, none⟩ (.bool false)) mb mask nb kv lv ov σ.line0 :=
    (h.mset 5 (natV 1) { σ with met := 1 } rfl rfl rfl rfl).mset 6 (.bool false) σ.line0 rfl rfl rfl rfl
  have hb0 : Below B w ((w.setCell ⟨mb, 5, none⟩ (.int .i64 1)).setCell ⟨mb, 6, none⟩ (.bool false)) := ((Below.refl B w).setCell h.mbase _).setCell h.mbase _
  have HO := Lib.hid (one_eq F U (notesOf mask) σ)
  have hol : σ.opn.length ≤ C := hF0.opnL
  have hFm := Fit.meets σ.opn.length _ hF0
  generalize hμ : σ.line0.meets σ.opn.length = μ at *
  have HMU := Lib.hid hμ
  clear hμ
  go_enter Tryz.func25, Tryz.ntmps25
  go_wp2
  go_loopg [] (σ.opn.length) (fun k wr => ∃ τ, MRep B wr mb mask nb kv lv ov τ ∧ Fit C L τ ∧ Hid (τ.meets k = μ) ∧ τ.opn.length ≤ k + τ.met ∧ Hid (τ.opn = σ.opn) ∧ Below B w wr)
  case atStart => exact ⟨σ.line0, M0, hF0, HMU.out, by show σ.opn.length ≤ σ.opn.length + 1; omega, rfl, hb0⟩
  case round =>
    obtain ⟨τ, hM, hFt, hT, hk, hop, hbw⟩ := hrel
    obtain ⟨g, cap, hov, hgB, hcap, hcl⟩ := hM.ov_form
    have c2 := hM.c2
    have c5' := hM.c5
    have c5b := c5'
    rw [hov] at c2
    clear M0 hb0 c5 c6 f5 f6
    by_cases hlt : τ.met < τ.opn.length
    · obtain ⟨k, rfl⟩ : ∃ k, gk = k + 1 := ⟨gk - 1, by omega⟩
      have hTT := hT.out
      rw [St.meets, if_pos hlt] at hTT
      have hmem : τ.opn[τ.met]? = some (τ.opn.getD τ.met 0) := by
        rw [List.getD_eq_getElem?_getD, List.getElem?_eq_getElem hlt]; rfl
      have hgi := hcl _ _ hmem
      have d1 : decide ((τ.met : Int) < (τ.opn.length : Int)) = true := by rw [decide_eq_true_iff]; omega
      have hin := hFt.opnN _ (List.mem_of_getElem? hmem)
      have hoL := hFt.opnL
      generalize τ.opn.getD τ.met 0 = i at *
      have ME := fun w (h : MRep B w mb mask nb kv lv ov τ) => meet_any h hFt.toSound i hin
      have hmk := meet_keeps τ i
      have hFi := hFt.meet i
      cases hmo : τ.meetOk i with
      | true =>
        rw [hmo] at ME hTT
        rw [if_pos rfl] at hTT
        have c5n : (τ.meet i).met = τ.met := hmk.2.2.1
        have opn' : (τ.meet i).opn = τ.opn := hmk.2.1
        have HT := Lib.hid hTT
        have HOP := Lib.hid opn'
        have hFn := hFi.met (τ.met + 1) (by omega) (by rw [opn']; omega)
        have S5 : ∀ {w}, MRep B w mb mask nb kv lv ov (τ.meet i) → MRep B (w.setCell ⟨mb, 5, none⟩ (.int .i64 ((τ.met : Int) + 1))) mb mask nb kv lv ov { τ.meet i with met := τ.met + 1 } := fun h => by
          have e : ((τ.met : Int) + 1) = ((τ.met + 1 : Nat) : Int) := by omega
          rw [e]; exact h.mset 5 (natV (τ.met + 1)) _ rfl rfl rfl rfl
        have C5 : ∀ {w}, MRep B w mb mask nb kv lv ov (τ.meet i) → w.cell? ⟨mb, 5, none⟩ = some (.int .i64 τ.met) := fun h => by rw [← c5n]; exact h.c5
        clear hTT hmk c5n opn' hmem hcl c5b hT
        go_wp2_with fail
        go_still_tail 22, (by kernel_rfl)
        change wpList _ _ _ _ _ wr.drew
        have hMd := hM.drew
        have hbd := hbw.drew
        generalize wr.drew = w2 at *
        go_wp2_with (go_at_call 32; (refine (ME _ hMd).mono ?_); rintro e w3 ⟨rfl, M3, hb3⟩; have c5x := C5 M3; have f5x := M3.free 5)
        go_roundg k
        case rel => exact ⟨_, S5 M3, hFn, HT, by show (τ.meet i).opn.length ≤ k + (τ.met + 1); rw [HOP.out]; omega, by apply Lib.hid; show (τ.meet i).opn = _; rw [HOP.out]; exact hop.out, (hbd.trans hb3).setCell hM.mbase _⟩
        case measure => omega
      | false =>
        rw [hmo] at ME hTT
        rw [if_neg (by simp)] at hTT
        have HX := Lib.hid hTT
        clear hTT hmk hmem hcl c5b hT
        have FINAL : ∀ wz, MRep B wz mb mask nb kv lv ov μ → True := fun _ _ => trivial
        cases hu : μ.takes.1 with
        | true =>
          have TK := fun w (h : MRep B w mb mask nb kv lv ov μ) => takes_any h hFm (by omega) (by omega)
          rw [hu] at TK
          have HR : Hid (σ.one F U (notesOf mask) = μ.takes.2) := by apply Lib.hid; rw [HO.out, if_pos hu]
          clear FINAL
          go_wp2_with fail
          go_still_tail 22, (by kernel_rfl)
          change wpList _ _ _ _ _ wr.drew
          have hMd := hM.drew
          have hbd := hbw.drew
          generalize wr.drew = w2 at *
          go_wp2_with (first
            | (go_at_call 32; (refine (ME _ hMd).mono ?_); rintro e w3 ⟨rfl, M3, hb3⟩; rw [HX.out] at M3)
            | (go_at_call 33; (refine (TK _ M3).mono ?_); rintro e w5 ⟨nb5, kv5, lv5, ov5, rfl, M5, hb5⟩))
          go_end0
          exact ⟨nb5, kv5, lv5, ov5, rfl, by rw [HR.out]; exact M5, (hbd.trans hb3).trans hb5⟩
        | false =>
          have TK := fun w (h : MRep B w mb mask nb kv lv ov μ) => takes_any h hFm (by omega) (by omega)
          rw [hu] at TK
          obtain ⟨hAs, hLn⟩ := hX hu
          have hFu := hFm.takes
          have ST := fun w nb kv lv ov (h : MRep B w mb mask nb kv lv ov μ.takes.2) => starts_any h hFu (by omega) (by omega) hAs hLn
          have hFv := Fit.starts F U (notesOf mask) (μ.takes.2.s.length + 1) C μ.takes.2 hFu
          have hsl : μ.takes.2.s.length ≤ 1000000 := by have := phi_len μ.takes.2.s; have := hFu.near; unfold Near at this; omega
          have TX := fun w nb kv lv ov (h : MRep B w mb mask nb kv lv ov (μ.takes.2.starts F U (notesOf mask) (μ.takes.2.s.length + 1)).2) => text_any h hFv (by omega) (by omega)
          have HR1 : (μ.takes.2.starts F U (notesOf mask) (μ.takes.2.s.length + 1)).1 = true → σ.one F U (notesOf mask) = (μ.takes.2.starts F U (notesOf mask) (μ.takes.2.s.length + 1)).2 := fun h => by rw [HO.out, if_neg (by rw [hu]; simp), if_pos h]
          have HR2 : (μ.takes.2.starts F U (notesOf mask) (μ.takes.2.s.length + 1)).1 = false → σ.one F U (notesOf mask) = (μ.takes.2.starts F U (notesOf mask) (μ.takes.2.s.length + 1)).2.text := fun h => by rw [HO.out, if_neg (by rw [hu]; simp), if_neg (by rw [h]; simp)]
          clear FINAL hFu hFv hsl hAs hLn
          generalize (μ.takes.2.starts F U (notesOf mask) (μ.takes.2.s.length + 1)).1 = s1 at *
          generalize (μ.takes.2.starts F U (notesOf mask) (μ.takes.2.s.length + 1)).2 = s2 at *
          generalize μ.takes.2 = u2 at *
          cases s1 with
          | true =>
            have HR := Lib.hid (HR1 rfl)
            clear HR1 HR2
            go_wp2_with fail
            go_still_tail 22, (by kernel_rfl)
            change wpList _ _ _ _ _ wr.drew
            have hMd := hM.drew
            have hbd := hbw.drew
            generalize wr.drew = w2 at *
            go_wp2_with (first
              | (go_at_call 32; (refine (ME _ hMd).mono ?_); rintro e w3 ⟨rfl, M3, hb3⟩; rw [HX.out] at M3)
              | (go_at_call 33; (refine (TK _ M3).mono ?_); rintro e w5 ⟨nb5, kv5, lv5, ov5, rfl, M5, hb5⟩)
              | (go_at_call 34; (refine (ST _ _ _ _ _ M5).mono ?_); rintro e w6 ⟨nb6, kv6, lv6, ov6, rfl, M6, hb6⟩))
            go_end0
            exact ⟨nb6, kv6, lv6, ov6, rfl, by rw [HR.out]; exact M6, ((hbd.trans hb3).trans hb5).trans hb6⟩
          | false =>
            have HR := Lib.hid (HR2 rfl)
            clear HR1 HR2
            go_wp2_with fail
            go_still_tail 22, (by kernel_rfl)
            change wpList _ _ _ _ _ wr.drew
            have hMd := hM.drew
            have hbd := hbw.drew
            generalize wr.drew = w2 at *
            go_wp2_with (first
              | (go_at_call 32; (refine (ME _ hMd).mono ?_); rintro e w3 ⟨rfl, M3, hb3⟩; rw [HX.out] at M3)
              | (go_at_call 33; (refine (TK _ M3).mono ?_); rintro e w5 ⟨nb5, kv5, lv5, ov5, rfl, M5, hb5⟩)
              | (go_at_call 34; (refine (ST _ _ _ _ _ M5).mono ?_); rintro e w6 ⟨nb6, kv6, lv6, ov6, rfl, M6, hb6⟩)
              | (go_at_call 35; (refine (TX _ _ _ _ _ M6).mono ?_); rintro e w7 ⟨nb7, kv7, lv7, ov7, rfl, M7, hb7⟩))
            go_end0
            exact ⟨nb7, kv7, lv7, ov7, rfl, by rw [HR.out]; exact M7, (((hbd.trans hb3).trans hb5).trans hb6).trans hb7⟩
    · have hTT : τ = μ := by
        have := hT.out
        cases gk with
        | zero => exact this
        | succ k => rw [St.meets, if_neg hlt] at this; exact this
      have d : decide ((τ.met : Int) < (τ.opn.length : Int)) = false := by rw [decide_eq_false_iff_not]; omega
      have hMμ : MRep B wr mb mask nb kv lv ov μ := by rw [← hTT]; exact hM
      clear hT hTT hcl c5b
      go_wp2_with fail
      go_quiet (fail)
      have hMμ := hMμ.below (drewN_below wr nq)
      have hbw := bdn hbw nq
      have FINAL : ∀ wz, MRep B wz mb mask nb kv lv ov μ → True := fun _ _ => trivial
      cases hu : μ.takes.1 with
      | true =>
        have TK := fun w (h : MRep B w mb mask nb kv lv ov μ) => takes_any h hFm (by omega) (by omega)
        rw [hu] at TK
        have HR : Hid (σ.one F U (notesOf mask) = μ.takes.2) := by apply Lib.hid; rw [HO.out, if_pos hu]
        clear FINAL
        go_wp2_with (first
          | (go_at_call 33; (refine (TK _ hMμ).mono ?_); rintro e w5 ⟨nb5, kv5, lv5, ov5, rfl, M5, hb5⟩))
        go_end0
        exact ⟨nb5, kv5, lv5, ov5, rfl, by rw [HR.out]; exact M5, hbw.trans hb5⟩
      | false =>
        have TK := fun w (h : MRep B w mb mask nb kv lv ov μ) => takes_any h hFm (by omega) (by omega)
        rw [hu] at TK
        obtain ⟨hAs, hLn⟩ := hX hu
        have hFu := hFm.takes
        have ST := fun w nb kv lv ov (h : MRep B w mb mask nb kv lv ov μ.takes.2) => starts_any h hFu (by omega) (by omega) hAs hLn
        have hFv := Fit.starts F U (notesOf mask) (μ.takes.2.s.length + 1) C μ.takes.2 hFu
        have hsl : μ.takes.2.s.length ≤ 1000000 := by have := phi_len μ.takes.2.s; have := hFu.near; unfold Near at this; omega
        have TX := fun w nb kv lv ov (h : MRep B w mb mask nb kv lv ov (μ.takes.2.starts F U (notesOf mask) (μ.takes.2.s.length + 1)).2) => text_any h hFv (by omega) (by omega)
        have HR1 : (μ.takes.2.starts F U (notesOf mask) (μ.takes.2.s.length + 1)).1 = true → σ.one F U (notesOf mask) = (μ.takes.2.starts F U (notesOf mask) (μ.takes.2.s.length + 1)).2 := fun h => by rw [HO.out, if_neg (by rw [hu]; simp), if_pos h]
        have HR2 : (μ.takes.2.starts F U (notesOf mask) (μ.takes.2.s.length + 1)).1 = false → σ.one F U (notesOf mask) = (μ.takes.2.starts F U (notesOf mask) (μ.takes.2.s.length + 1)).2.text := fun h => by rw [HO.out, if_neg (by rw [hu]; simp), if_neg (by rw [h]; simp)]
        clear FINAL hFu hFv hsl hAs hLn
        generalize (μ.takes.2.starts F U (notesOf mask) (μ.takes.2.s.length + 1)).1 = s1 at *
        generalize (μ.takes.2.starts F U (notesOf mask) (μ.takes.2.s.length + 1)).2 = s2 at *
        generalize μ.takes.2 = u2 at *
        cases s1 with
        | true =>
          have HR := Lib.hid (HR1 rfl)
          clear HR1 HR2
          go_wp2_with (first
            | (go_at_call 33; (refine (TK _ hMμ).mono ?_); rintro e w5 ⟨nb5, kv5, lv5, ov5, rfl, M5, hb5⟩)
            | (go_at_call 34; (refine (ST _ _ _ _ _ M5).mono ?_); rintro e w6 ⟨nb6, kv6, lv6, ov6, rfl, M6, hb6⟩))
          go_end0
          exact ⟨nb6, kv6, lv6, ov6, rfl, by rw [HR.out]; exact M6, (hbw.trans hb5).trans hb6⟩
        | false =>
          have HR := Lib.hid (HR2 rfl)
          clear HR1 HR2
          go_wp2_with (first
            | (go_at_call 33; (refine (TK _ hMμ).mono ?_); rintro e w5 ⟨nb5, kv5, lv5, ov5, rfl, M5, hb5⟩)
            | (go_at_call 34; (refine (ST _ _ _ _ _ M5).mono ?_); rintro e w6 ⟨nb6, kv6, lv6, ov6, rfl, M6, hb6⟩)
            | (go_at_call 35; (refine (TX _ _ _ _ _ M6).mono ?_); rintro e w7 ⟨nb7, kv7, lv7, ov7, rfl, M7, hb7⟩))
          go_end0
          exact ⟨nb7, kv7, lv7, ov7, rfl, by rw [HR.out]; exact M7, ((hbw.trans hb5).trans hb6).trans hb7⟩
end Bk
end Go.Proofs.YtehmcahdjldhbaaGreatDoor
end
section
/- Package block: apart, tight: what the nodes' lines and kids tell. -/
open Go Go.RowKit
set_option linter.unusedVariables false
set_option linter.unusedSimpArgs false
set_option maxRecDepth 100000
namespace Go.Proofs.YtehmcahdjldhbaaGreatDoor
open Wk
namespace Bk
/-- What stays of the nodes while they are told: their first and last lines, their kids. -/
structure Fixed (B : Nat) (w : World) (nb : Nat → Nat) (kv : Nat → Value) (n : Nat) (A : Nat → Nd) : Prop where
  first : ∀ i, i < n → w.cell? ⟨nb i, 6, none⟩ = some (.int .i64 (A i).first)
  last : ∀ i, i < n → w.cell? ⟨nb i, 7, none⟩ = some (.int .i64 (A i).last)
  kidv : ∀ i, i < n → w.cell? ⟨nb i, 10, none⟩ = some (kv i)
  kids : ∀ i, i < n → w.ownsRow B TP 1 (kv i) (A i).kids.length ((A i).kids.map (nodeP nb))
theorem Fixed.below {B : Nat} {w w1 : World} {nb : Nat → Nat} {kv : Nat → Value} {n : Nat} {A : Nat → Nd} (h : Fixed B w nb kv n A) (hb : Below w.heap.size w w1) : Fixed B w1 nb kv n A :=
  ⟨fun i hi => (hb.cell (World.block_lt_of_cell? _ _ (h.first i hi))).trans (h.first i hi), fun i hi => (hb.cell (World.block_lt_of_cell? _ _ (h.last i hi))).trans (h.last i hi),
   fun i hi => (hb.cell (World.block_lt_of_cell? _ _ (h.kidv i hi))).trans (h.kidv i hi), fun i hi => own_below (h.kids i hi) hb⟩
theorem own_cells {w : World} {B : Nat} {v : Value} {nb : Nat → Nat} {l : List Nat} (h : w.ownsRow B TP 1 v l.length (l.map (nodeP nb))) :
    (l = [] ∧ ∃ A c, v = .slice A 0 c) ∨ ∃ g cap, v = .slice (some ⟨g, 0, none⟩) l.length cap ∧ l.length ≤ cap ∧ ∀ k i, l[k]? = some i → w.cell? ⟨g, k, none⟩ = some (.pointer (some ⟨nb i, 0, none⟩)) := by
  rcases h.2 with ⟨rfl, h0⟩ | ⟨g, cap, cur, rfl, hB, hg, hle, hm, hs, ht⟩
  · left; exact ⟨List.eq_nil_of_length_eq_zero h0, none, 0, rfl⟩
  · right
    refine ⟨g, cap, rfl, hle, fun k i hk => ?_⟩
    have := h.cells (g := g) rfl k (nodeP nb i) (by rw [List.getElem?_map, hk]; rfl)
    rw [add_off] at this; exact this
theorem apart_drop (A : Nat → Nd) (l : List Nat) (k a b : Nat) (h1 : l[k]? = some a) (h2 : l[k + 1]? = some b) : apart A (l.drop k) = (decide ((A a).last + 1 < (A b).first) || apart A (l.drop (k + 1))) := by
  obtain ⟨h1l, h1e⟩ := List.getElem?_eq_some_iff.1 h1
  obtain ⟨h2l, h2e⟩ := List.getElem?_eq_some_iff.1 h2
  rw [List.drop_eq_getElem_cons h1l, List.drop_eq_getElem_cons h2l, h1e, h2e]; rfl
theorem apart_end (A : Nat → Nd) (l : List Nat) (k : Nat) (h : l.length ≤ k + 1) : apart A (l.drop k) = false := by
  have : (l.drop k).length ≤ 1 := by simp; omega
  match e : l.drop k with
  | [] => rfl
  | [a] => rfl
  | a :: b :: r => rw [e] at this; simp at this

set_option maxHeartbeats 4000000 in
theorem apart_any {B : Nat} {w : World} {nb : Nat → Nat} {kv : Nat → Value} {n : Nat} {A : Nat → Nd} (h : Fixed B w nb kv n A) (l : List Nat) (hl : ∀ i ∈ l, i < n) (hz : ∀ i, i < n → (A i).last ≤ 1000000000000) (hll : l.length ≤ 1000000000000)
    (v : Value) (hv : w.ownsRow B TP 1 v l.length (l.map (nodeP nb))) :
    Calls Tryz.prog 89 #[v] w fun e w' => e = .returned (.bool (apart A l)) ∧ Below w.heap.size w w' := by
  rcases own_cells hv with ⟨rfl, a, c, rfl⟩ | ⟨g, cap, rfl, hcap, hc⟩
  · go_enter Tryz.func89, Tryz.ntmps89
    go_wp2
    refine wp_loop_rounds 1 ?_
    rw [rounds_succ]
    go_wp2
    go_ret
    exact ⟨rfl, Below.refl _ _⟩
  · go_enter Tryz.func89, Tryz.ntmps89
    go_wp2
    go_loopw [3] (fun kk wr => ∃ k : Nat, kk = .int .i64 ((k : Int) + 1) ∧ k ≤ l.length ∧ Hid (apart A (l.drop k) = apart A l) ∧ Below w.heap.size w wr) (fun kk _ => l.length + 1 - (intOf kk).toNat)
    case atStart => exact ⟨0, rfl, Nat.zero_le _, by simp [Hid], Below.refl _ _⟩
    case round =>
      obtain ⟨k, rfl, hk, hA, hb⟩ := hrel
      by_cases hlt : k + 1 < l.length
      · have h1 : l[k]? = some l[k] := List.getElem?_eq_getElem (by omega)
        have h2 : l[k + 1]? = some l[k + 1] := List.getElem?_eq_getElem hlt
        have m1 := hl _ (List.getElem_mem (show k < l.length by omega))
        have m2 := hl _ (List.getElem_mem hlt)
        have q1 := (hb.cell (World.block_lt_of_cell? _ _ (hc k _ h1))).trans (hc k _ h1)
        have q2 := (hb.cell (World.block_lt_of_cell? _ _ (hc (k + 1) _ h2))).trans (hc (k + 1) _ h2)
        have hfx := h.below hb
        have hst := apart_drop A l k _ _ h1 h2
        generalize l[k] = a at *
        generalize l[k + 1] = b at *
        have p1 := hfx.last a m1
        have p2 := hfx.first b m2
        have z1 := hz a m1
        have hst2 : Hid (apart A (l.drop k) = (decide ((A a).last + 1 < (A b).first) || apart A (l.drop (k + 1)))) := hst
        clear hst h1 h2 hc hl hz
        by_cases ht : (A a).last + 1 < (A b).first
        · have d : decide (((A a).last : Int) + 1 < ((A b).first : Int)) = true := by rw [decide_eq_true_iff]; omega
          have hT : Hid (apart A l = true) := by apply Lib.hid; rw [← hA.out, hst2.out, decide_eq_true ht]; rfl
          go_wp2
          go_quiet (fail)
          go_wp2
          go_ret
          exact ⟨by rw [hT.out]; rfl, bdn hb _⟩
        · have d : decide (((A a).last : Int) + 1 < ((A b).first : Int)) = false := by rw [decide_eq_false_iff_not]; omega
          have hT : Hid (apart A (l.drop (k + 1)) = apart A l) := by apply Lib.hid; rw [← hA.out, hst2.out, decide_eq_false ht]; rfl
          go_wp2
          go_quiet (fail)
          go_wp2
          go_roundw
          case rel => exact ⟨k + 1, by go_num, by omega, hT, bdn hb _⟩
          case measure => simp [intOf]; omega
      · have hT : Hid (apart A l = false) := by apply Lib.hid; rw [← hA.out]; exact apart_end A l k (by omega)
        go_wp2
        go_ret
        exact ⟨by rw [hT.out]; rfl, hb⟩
end Bk
end Go.Proofs.YtehmcahdjldhbaaGreatDoor
end
