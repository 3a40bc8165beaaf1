/- Parts of this session's proof, one behind the other: N5 N6 N7. -/
import Derived.Test.YtehmcahdjldhbaaGreatDoorZ14
section
/- Package block in plain Lean: two runs, of which one goes within a container of the other: what is alike, deed by deed. -/
set_option linter.unusedVariables false
set_option linter.unusedSimpArgs false
set_option maxRecDepth 100000
namespace Go.Proofs.YtehmcahdjldhbaaGreatDoor
open Wk
namespace Bk
/-- A node's number in the other run. -/
def mv (r c : Nat) (j : Nat) : Nat := if j = 0 then r else j + c
def mvN (r c dl : Nat) (d : Nd) : Nd := { d with first := d.first + dl, last := d.last + dl, parent := d.parent.map (mv r c), kids := d.kids.map (mv r c) }
structure Sim (r c dl : Nat) (pre pk : List Nat) (K : Nat → List Nat) (σ τ : St) : Prop where
  rc : r ≤ c
  gs : Good σ
  gt : Good τ
  nd : ∀ j, 0 < j → j < σ.n → τ.nd (j + c) = mvN r c dl (σ.nd j)
  kids0 : (τ.nd r).kids = pk ++ (σ.nd 0).kids.map (mv r c)
  kind0 : (τ.nd r).kind ≠ 3
  low : ∀ j, j < r → (τ.nd j).kids = K j
  n : τ.n = σ.n + c
  opn : τ.opn = pre ++ σ.opn.map (mv r c)
  met : τ.met = pre.length + σ.met
  leaf : τ.leaf = σ.leaf.map (mv r c)
  line : τ.line = σ.line + dl
  s : τ.s = σ.s
  col : τ.col = σ.col ∨ 9 ∉ σ.s
/-- Does the line's beginning not matter, or is it the same? -/
def Bg (σ τ : St) : Prop := σ.leaf = none ∨ τ.began = σ.began
theorem mv_pos {r c j : Nat} (h : 0 < j) : mv r c j = j + c := by unfold mv; rw [if_neg (by omega)]
theorem mv_zero {r c : Nat} : mv r c 0 = r := by unfold mv; rw [if_pos rfl]
theorem mv_inj {r c i j : Nat} (h : r ≤ c) (e : mv r c i = mv r c j) : i = j := by unfold mv at e; split at e <;> split at e <;> omega
theorem indW_notab : ∀ (l : Bs) (c c' : Nat), 9 ∉ l → indW l c = indW l c'
  | [], _, _, _ => rfl
  | b :: t, c, c', h => by
    have hb : b ≠ 9 := fun e => h (e ▸ List.mem_cons_self ..)
    have ht : 9 ∉ t := fun e => h (List.mem_cons_of_mem _ e)
    simp only [indW]
    rw [if_neg hb, if_neg hb, indW_notab t (c + 1) (c' + 1) ht]
theorem skip_notab : ∀ (l : Bs) (c c' n : Nat), 9 ∉ l → (skip l c n).1 = (skip l c' n).1
  | [], _, _, n, _ => by simp [skip]
  | b :: t, c, c', n, h => by
    have hb : b ≠ 9 := fun e => h (e ▸ List.mem_cons_self ..)
    have ht : 9 ∉ t := fun e => h (List.mem_cons_of_mem _ e)
    simp only [skip]
    by_cases h0 : n = 0
    · rw [if_pos h0, if_pos h0]
    · rw [if_neg h0, if_neg h0]
      by_cases h32 : b = 32
      · rw [if_pos h32, if_pos h32]; exact skip_notab t _ _ _ ht
      · rw [if_neg h32, if_neg h32, if_neg hb, if_neg hb]
theorem skip_tabs : ∀ (l : Bs) (c n : Nat), 9 ∉ l → 9 ∉ (skip l c n).1
  | [], _, n, _ => by simp [skip]
  | b :: t, c, n, h => by
    have hb : b ≠ 9 := fun e => h (e ▸ List.mem_cons_self ..)
    have ht : 9 ∉ t := fun e => h (List.mem_cons_of_mem _ e)
    simp only [skip]
    by_cases h0 : n = 0
    · rw [if_pos h0]; exact h
    · rw [if_neg h0]
      by_cases h32 : b = 32
      · rw [if_pos h32]; exact skip_tabs t _ _ ht
      · rw [if_neg h32, if_neg hb]; exact h
namespace Sim
variable {r c dl : Nat} {pre pk : List Nat} {K : Nat → List Nat} {σ τ : St}
theorem npos (h : Sim r c dl pre pk K σ τ) : 0 < σ.n := (h.gs.opnH _ (List.mem_of_getElem? h.gs.root.1)).1
theorem par0 (h : Sim r c dl pre pk K σ τ) : (σ.nd 0).parent = none := by
  cases e : (σ.nd 0).parent with
  | none => rfl
  | some p => have := h.gs.par 0 h.npos p e; omega
/-- What lies above what. -/
theorem up_of {A B : Nat → Nd} {N : Nat} (hrc : r ≤ c) (h0 : (A 0).parent = none) (hB : ∀ j, 0 < j → j < N → (B (j + c)).parent = (A j).parent.map (mv r c)) (hA : ∀ j, j < N → ∀ p, (A j).parent = some p → p < j)
    {i j : Nat} (hi : i < N) (u : Up A i j) : Up B (mv r c i) (mv r c j) := by
  induction u with
  | refl i => exact .refl _
  | @step i p j e _ ih =>
    have hp := hA _ hi _ e
    have h1 : 0 < i := by omega
    refine .step (p := mv r c p) ?_ (ih (by omega))
    rw [mv_pos h1, hB _ h1 hi, e]; rfl
theorem up_back {A B : Nat → Nd} {N M : Nat} (hrc : r ≤ c) (hB : ∀ j, 0 < j → j < N → (B (j + c)).parent = (A j).parent.map (mv r c)) (hA : ∀ j, j < N → ∀ p, (A j).parent = some p → p < j)
    (hr : r < M) (hBp : ∀ j, j < M → ∀ p, (B j).parent = some p → p < j) {x y : Nat} (u : Up B x y) : ∀ i j, x = mv r c i → i < N → y = mv r c j → 0 < j → Up A i j := by
  induction u with
  | refl x =>
    intro i j e1 hi e2 hj
    have := mv_inj hrc (e1.symm.trans e2)
    subst this; exact .refl _
  | @step x p y e u ih =>
    intro i j e1 hi e2 hj
    by_cases h0 : i = 0
    · subst h0
      rw [mv_zero] at e1
      subst e1
      have hp := hBp _ hr _ e
      have := u.le fun k q hk hq => hBp k (by omega) q hq
      rw [e2, mv_pos hj] at this
      omega
    · rw [e1, mv_pos (by omega), hB i (by omega) hi] at e
      cases hq : (A i).parent with
      | none => rw [hq] at e; cases e
      | some q =>
        rw [hq] at e
        have hqi := hA i hi q hq
        have e' : mv r c q = p := Option.some.inj e
        exact .step hq (ih q j e'.symm (by omega) e2 hj)
theorem rN (h : Sim r c dl pre pk K σ τ) : r < τ.n := by have := h.n; have := h.npos; have := h.rc; omega
theorem up (h : Sim r c dl pre pk K σ τ) {i j : Nat} (hi : i < σ.n) (hj : 0 < j) : Up τ.nd (mv r c i) (j + c) ↔ Up σ.nd i j := by
  have hB : ∀ j, 0 < j → j < σ.n → (τ.nd (j + c)).parent = (σ.nd j).parent.map (mv r c) := fun j h1 h2 => by rw [h.nd j h1 h2]; rfl
  constructor
  · intro u; exact up_back h.rc hB h.gs.par h.rN h.gt.par u i j rfl hi (mv_pos hj).symm hj
  · intro u; have := up_of h.rc h.par0 hB h.gs.par hi u; rwa [mv_pos hj] at this
theorem mvlt (h : Sim r c dl pre pk K σ τ) {i : Nat} (hi : i < σ.n) : mv r c i < τ.n := by
  have := h.n; have := h.rN; unfold mv; split <;> omega
theorem touch (h : Sim r c dl pre pk K σ τ) {i : Nat} (hi : i < σ.n) : Sim r c dl pre pk K (σ.touch i) (τ.touch (mv r c i)) := by
  have l1 := touchA_last σ.n σ.nd i σ.line (fun j p hj hp => h.gs.par j (by omega) p hp) hi
  have hm := h.mvlt hi
  have l2 := touchA_last τ.n τ.nd (mv r c i) τ.line (fun j p hj hp => h.gt.par j (by omega) p hp) hm
  refine { h with gs := h.gs.touch i hi, gt := h.gt.touch _ hm, nd := fun j h1 h2 => ?_, kids0 := ?_, kind0 := ?_, low := fun j hj => by rw [touch_nd]; exact h.low j hj }
  · rw [touch_nd τ (mv r c i) (j + c), touch_nd σ i j, h.nd j h1 h2]
    have hn := h.nd j h1 h2
    show ({ mvN r c dl (σ.nd j) with last := (touchA τ.n τ.nd (some (mv r c i)) τ.line (j + c)).last } : Nd) = mvN r c dl { σ.nd j with last := (touchA σ.n σ.nd (some i) σ.line j).last }
    have e : (touchA τ.n τ.nd (some (mv r c i)) τ.line (j + c)).last = (touchA σ.n σ.nd (some i) σ.line j).last + dl := by
      by_cases u : Up σ.nd i j
      · rw [(l1 j).1 u, (l2 (j + c)).1 ((h.up hi h1).2 u), h.line]
      · rw [(l1 j).2 u, (l2 (j + c)).2 (fun v => u ((h.up hi h1).1 v)), hn]; rfl
    rw [e]; rfl
  · rw [touch_nd τ (mv r c i) r, touch_nd σ i 0]; exact h.kids0
  · rw [touch_nd]; exact h.kind0
/-- A change of a node that is not the root. -/
theorem put (h : Sim r c dl pre pk K σ τ) {i : Nat} (hp : 0 < i) (hi : i < σ.n) (f : Nd → Nd) (hf : ∀ d, f (mvN r c dl d) = mvN r c dl (f d)) (hs : Good (σ.put i f)) (ht : Good (τ.put (i + c) f)) :
    Sim r c dl pre pk K (σ.put i f) (τ.put (i + c) f) := by
  refine { h with gs := hs, gt := ht, nd := fun j h1 h2 => ?_, kids0 := ?_, kind0 := ?_, low := ?_ }
  · show upd τ.nd (i + c) f (j + c) = mvN r c dl (upd σ.nd i f j)
    unfold upd
    by_cases e : j = i
    · subst e; rw [if_pos rfl, if_pos rfl, h.nd j h1 h2, hf]
    · rw [if_neg (by omega), if_neg e, h.nd j h1 h2]
  · show (upd τ.nd (i + c) f r).kids = pk ++ (upd σ.nd i f 0).kids.map _
    have := h.rc
    unfold upd; rw [if_neg (by omega), if_neg (by omega)]; exact h.kids0
  · show (upd τ.nd (i + c) f r).kind ≠ 3
    have := h.rc
    unfold upd; rw [if_neg (by omega)]; exact h.kind0
  · intro j hj
    have := h.rc
    show (upd τ.nd (i + c) f j).kids = _
    unfold upd; rw [if_neg (by omega)]; exact h.low j hj
theorem cur (h : Sim r c dl pre pk K σ τ) (s : Bs) (a b : Nat) (hc : b = a ∨ 9 ∉ s) : Sim r c dl pre pk K { σ with s := s, col := a } { τ with s := s, col := b } :=
  { h with gs := { h.gs with }, gt := { h.gt with }, s := rfl, col := hc }
theorem close (h : Sim r c dl pre pk K σ τ) : Sim r c dl pre pk K σ.close τ.close :=
  { h with gs := h.gs.op (.leaf _), gt := h.gt.op (.leaf _), leaf := rfl }
theorem began (h : Sim r c dl pre pk K σ τ) (a b : Bool) : Sim r c dl pre pk K { σ with began := a } { τ with began := b } :=
  { h with gs := h.gs.op (.began _ _), gt := h.gt.op (.began _ _) }
theorem setMet (h : Sim r c dl pre pk K σ τ) (m : Nat) (h1 : 1 ≤ m) (h2 : m ≤ σ.opn.length) : Sim r c dl pre pk K { σ with met := m } { τ with met := pre.length + m } :=
  { h with gs := h.gs.op (.met _ m h1 h2), gt := h.gt.op (.met _ _ (by omega) (by rw [h.opn]; simp; omega)), met := rfl }
theorem cut (h : Sim r c dl pre pk K σ τ) : Sim r c dl pre pk K { σ with opn := σ.opn.take σ.met } { τ with opn := τ.opn.take τ.met } :=
  { h with gs := h.gs.op (.cut _), gt := h.gt.op (.cut _),
           opn := by
             show τ.opn.take τ.met = pre ++ (σ.opn.take σ.met).map (mv r c)
             rw [h.opn, h.met, List.take_append, List.take_of_length_le (by omega), List.map_take]
             congr 2; omega }
/-! What is asked is answered alike. -/
theorem w_eq (h : Sim r c dl pre pk K σ τ) : τ.w = σ.w := by
  unfold St.w
  rw [h.s]
  rcases h.col with e | e
  · rw [e]
  · exact indW_notab _ _ _ e
theorem t_eq (h : Sim r c dl pre pk K σ τ) : τ.t = σ.t := by unfold St.t; rw [h.s]
theorem blank_eq (h : Sim r c dl pre pk K σ τ) : τ.blank = σ.blank := by unfold St.blank; rw [h.s]
theorem all_eq (h : Sim r c dl pre pk K σ τ) : τ.all = σ.all := by
  unfold St.all; rw [h.met, h.opn, List.length_append, List.length_map]
  by_cases e : σ.met = σ.opn.length
  · rw [e]; simp
  · have : ¬ pre.length + σ.met = pre.length + σ.opn.length := by omega
    rw [beq_eq_false_iff_ne.2 e, beq_eq_false_iff_ne.2 this]
theorem leafKind_eq (h : Sim r c dl pre pk K σ τ) : τ.leafKind = σ.leafKind := by
  unfold St.leafKind
  rw [h.leaf]
  cases e : σ.leaf with
  | none => rfl
  | some i =>
    obtain ⟨h1, h2⟩ := h.gs.leafN i e
    show (τ.nd (mv r c i)).kind = (σ.nd i).kind
    rw [mv_pos h1, h.nd i h1 h2]; rfl
theorem goes_eq (h : Sim r c dl pre pk K σ τ) (b : Bg σ τ) : τ.goes = σ.goes := by
  unfold St.goes
  rw [h.leafKind_eq, h.leaf]
  rcases b with b | b
  · rw [b]; rfl
  · rw [b]; cases σ.leaf <;> rfl
theorem plain_eq (h : Sim r c dl pre pk K σ τ) (b : Bg σ τ) : τ.plain = σ.plain := by
  unfold St.plain
  rw [h.leafKind_eq, h.leaf, h.all_eq]
  rcases b with b | b
  · rw [b]; simp
  · rw [b]; cases σ.leaf <;> rfl
theorem last_eq (h : Sim r c dl pre pk K σ τ) : τ.last = mv r c σ.last := by
  have h1 := h.gs.met1
  have h2 := h.gs.lastIn
  have h3 := h.gt.lastIn
  rw [h.opn, h.met, List.getElem?_append_right (by omega), List.getElem?_map, show pre.length + σ.met - 1 - pre.length = σ.met - 1 by omega, h2] at h3
  exact (Option.some.inj h3).symm
theorem kind_eq (h : Sim r c dl pre pk K σ τ) {i : Nat} (hi : i < σ.n) : ((τ.nd (mv r c i)).kind = 3 ↔ (σ.nd i).kind = 3) ∧ ((σ.nd i).kind = 3 → (τ.nd (mv r c i)).M = (σ.nd i).M) := by
  by_cases e : i = 0
  · subst e
    rw [mv_zero]
    have := h.gs.root.2
    have := h.kind0
    exact ⟨⟨fun x => absurd x h.kind0, fun x => by omega⟩, fun x => by omega⟩
  · rw [mv_pos (by omega), h.nd i (by omega) hi]
    exact ⟨Iff.rfl, fun _ => rfl⟩
theorem lastKind (h : Sim r c dl pre pk K σ τ) : ((τ.nd τ.last).kind = 3 ↔ (σ.nd σ.last).kind = 3) ∧ ((σ.nd σ.last).kind = 3 → (τ.nd τ.last).M = (σ.nd σ.last).M) := by
  rw [h.last_eq]; exact h.kind_eq h.gs.lastLt
theorem lay0 (h : Sim r c dl pre pk K σ τ) (k : Nat) (h4 : k = 4 → (σ.nd σ.last).kind = 3) : Sim r c dl pre pk K (σ.lay0 k) (τ.lay0 k) := by
  have hg := (h.gs.lay0 k h4).1
  have hg2 := (h.gt.lay0 k fun e => h.lastKind.1.2 (h4 e)).1
  have hl := h.lastKind.1
  unfold St.lay0 at *
  by_cases e : (σ.nd σ.last).kind = 3 ∧ k ≠ 4
  · rw [if_pos e] at hg ⊢
    rw [if_pos ⟨hl.2 e.1, e.2⟩] at hg2 ⊢
    have := hg.met1
    have h1 : 1 ≤ σ.met - 1 := this
    exact { h with gs := hg, gt := hg2, met := by show τ.met - 1 = _ + (σ.met - 1); have := h.met; omega }
  · rw [if_neg e]
    rw [if_neg (fun x => e ⟨hl.1 x.1, x.2⟩)]
    exact h
theorem lay1 (h : Sim r c dl pre pk K σ τ) (d : Nd) (hk : d.kids = []) (h4 : d.kind = 4 ↔ (σ.nd σ.last).kind = 3) : Sim r c dl pre pk K ((σ.lay1 d).touch σ.n) ((τ.lay1 d).touch τ.n) := by
  have h4t : d.kind = 4 ↔ (τ.nd τ.last).kind = 3 := h4.trans h.lastKind.1.symm
  have g1 : Good ((σ.lay1 d).touch σ.n) := h.gs.lay1 d hk h4 none (.inl rfl)
  have g2 : Good ((τ.lay1 d).touch τ.n) := h.gt.lay1 d hk h4t none (.inl rfl)
  have hle := h.last_eq
  have hlt := h.gs.lastLt
  have hlt2 := h.gt.lastLt
  have hn := h.n
  have hnp := h.npos
  have a1 : ∀ j, (σ.lay1 d).nd j = if j = σ.n then { d with parent := some σ.last, first := σ.line } else if j = σ.last then { σ.nd j with kids := (σ.nd j).kids ++ [σ.n] } else σ.nd j := fun j => rfl
  have a2 : ∀ j, (τ.lay1 d).nd j = if j = τ.n then { d with parent := some τ.last, first := τ.line } else if j = τ.last then { τ.nd j with kids := (τ.nd j).kids ++ [τ.n] } else τ.nd j := fun j => rfl
  have hmn : mv r c σ.n = τ.n := by rw [mv_pos hnp, hn]
  have p1 : ∀ j, j < σ.n + 1 → ∀ p, ((σ.lay1 d).nd j).parent = some p → p < j := fun j hj p hp => by
    rw [a1] at hp
    split at hp
    · cases hp; omega
    · split at hp <;> exact h.gs.par j (by omega) p hp
  have p2 : ∀ j, j < τ.n + 1 → ∀ p, ((τ.lay1 d).nd j).parent = some p → p < j := fun j hj p hp => by
    rw [a2] at hp
    split at hp
    · cases hp; omega
    · split at hp <;> exact h.gt.par j (by omega) p hp
  -- the new arenas, but for what is met last
  have key : ∀ j, 0 < j → j < σ.n + 1 → { (τ.lay1 d).nd (j + c) with last := 0 } = { mvN r c dl ((σ.lay1 d).nd j) with last := 0 } := fun j h1 h2 => by
    rw [a1, a2]
    by_cases e : j = σ.n
    · rw [if_pos (by omega), if_pos e, hle, h.line]
      show ({ d with first := σ.line + dl, last := 0, parent := some (mv r c σ.last) } : Nd) = { d with first := σ.line + dl, last := 0, parent := some (mv r c σ.last), kids := d.kids.map (mv r c) }
      rw [hk]; rfl
    · rw [if_neg (by omega), if_neg e]
      have hj : j < σ.n := by omega
      by_cases e2 : j = σ.last
      · have e3 : j + c = τ.last := by rw [hle, ← e2, mv_pos h1]
        rw [if_pos e3, if_pos e2, h.nd j h1 hj]
        show ({ mvN r c dl (σ.nd j) with kids := (σ.nd j).kids.map (mv r c) ++ [τ.n], last := 0 } : Nd) = { mvN r c dl (σ.nd j) with kids := ((σ.nd j).kids ++ [σ.n]).map (mv r c), last := 0 }
        rw [List.map_append, List.map_singleton, hmn]
      · have e3 : j + c ≠ τ.last := fun x => e2 (by rw [hle] at x; rw [← mv_pos h1 (r := r)] at x; exact mv_inj h.rc x)
        rw [if_neg e3, if_neg e2, h.nd j h1 hj]
  have lst : ∀ j, 0 < j → j < σ.n → ((τ.lay1 d).nd (j + c)).last = ((σ.lay1 d).nd j).last + dl := fun j h1 h2 => by
    have x1 : ((τ.lay1 d).nd (j + c)).last = (τ.nd (j + c)).last := by
      rw [a2, if_neg (by omega)]; split <;> rfl
    have x2 : ((σ.lay1 d).nd j).last = (σ.nd j).last := by
      rw [a1, if_neg (by omega)]; split <;> rfl
    rw [x1, x2, h.nd j h1 h2]; rfl
  have hB : ∀ j, 0 < j → j < σ.n + 1 → ((τ.lay1 d).nd (j + c)).parent = ((σ.lay1 d).nd j).parent.map (mv r c) := fun j h1 h2 => by
    have := congrArg Nd.parent (key j h1 h2); exact this
  have h0 : ((σ.lay1 d).nd 0).parent = none := by
    cases e : ((σ.lay1 d).nd 0).parent with
    | none => rfl
    | some p => have := p1 0 (by omega) p e; omega
  have l1 := touchA_last (σ.n + 1) (σ.lay1 d).nd σ.n σ.line (fun j p hj hp => p1 j (by omega) p hp) (by omega)
  have l2 := touchA_last (τ.n + 1) (τ.lay1 d).nd τ.n τ.line (fun j p hj hp => p2 j (by omega) p hp) (by omega)
  refine { rc := h.rc, gs := g1, gt := g2, nd := fun j h1 h2 => ?_, kids0 := ?_, kind0 := ?_, low := fun j hj => ?_, n := ?_, opn := ?_, met := h.met, leaf := rfl, line := h.line, s := h.s, col := h.col }
  · change j < σ.n + 1 at h2
    rw [touch_nd (τ.lay1 d) τ.n (j + c), touch_nd (σ.lay1 d) σ.n j]
    have e : (((τ.lay1 d).touch τ.n).nd (j + c)).last = (((σ.lay1 d).touch σ.n).nd j).last + dl := by
      by_cases u : Up (σ.lay1 d).nd σ.n j
      · have u2 := up_of h.rc h0 hB p1 (by omega) u
        rw [hmn, mv_pos h1] at u2
        have x1 := (l1 j).1 u
        have x2 := (l2 (j + c)).1 u2
        show (touchA (τ.n + 1) (τ.lay1 d).nd (some τ.n) τ.line (j + c)).last = (touchA (σ.n + 1) (σ.lay1 d).nd (some σ.n) σ.line j).last + dl
        rw [x1, x2, h.line]
      · have u2 : ¬ Up (τ.lay1 d).nd τ.n (j + c) := fun v => u (up_back h.rc hB p1 (by have := h.rN; omega : r < τ.n + 1) p2 v σ.n j hmn.symm (by omega) (mv_pos h1).symm h1)
        have x1 := (l1 j).2 u
        have x2 := (l2 (j + c)).2 u2
        show (touchA (τ.n + 1) (τ.lay1 d).nd (some τ.n) τ.line (j + c)).last = (touchA (σ.n + 1) (σ.lay1 d).nd (some σ.n) σ.line j).last + dl
        rw [x1, x2]
        have hjn : j < σ.n := by
          by_cases e : j = σ.n
          · subst e; exact absurd (.refl _) u
          · omega
        exact lst j h1 hjn
    rw [e]
    have k := key j h1 h2
    have k2 : ({ (τ.lay1 d).nd (j + c) with last := (((σ.lay1 d).touch σ.n).nd j).last + dl } : Nd) = { mvN r c dl ((σ.lay1 d).nd j) with last := (((σ.lay1 d).touch σ.n).nd j).last + dl } := by
      have := congrArg (fun x : Nd => ({ x with last := (((σ.lay1 d).touch σ.n).nd j).last + dl } : Nd)) k
      exact this
    rw [k2]; rfl
  · rw [touch_nd (τ.lay1 d) τ.n r, touch_nd (σ.lay1 d) σ.n 0]
    show ((τ.lay1 d).nd r).kids = pk ++ ((σ.lay1 d).nd 0).kids.map (mv r c)
    rw [a1, a2, if_neg (show ¬ r = τ.n by have := h.rN; omega), if_neg (show ¬ 0 = σ.n by omega)]
    by_cases e2 : 0 = σ.last
    · have e3 : r = τ.last := by rw [hle, ← e2, mv_zero]
      rw [if_pos e3, if_pos e2]
      show (τ.nd r).kids ++ [τ.n] = pk ++ ((σ.nd 0).kids ++ [σ.n]).map (mv r c)
      rw [h.kids0, List.map_append, List.map_singleton, hmn, List.append_assoc]
    · have e3 : r ≠ τ.last := fun x => e2 (by rw [hle, ← mv_zero (r := r) (c := c)] at x; exact mv_inj h.rc x)
      rw [if_neg e3, if_neg e2]; exact h.kids0
  · rw [touch_nd]
    show ((τ.lay1 d).nd r).kind ≠ 3
    rw [a2, if_neg (show ¬ r = τ.n by have := h.rN; omega)]
    split
    · exact h.kind0
    · exact h.kind0
  · rw [touch_nd]
    show ((τ.lay1 d).nd j).kids = _
    have hr := h.rN
    have hl : r ≤ τ.last := by rw [hle]; have := h.rc; unfold mv; split <;> omega
    rw [a2, if_neg (show ¬ j = τ.n by omega), if_neg (show ¬ j = τ.last by omega)]; exact h.low j hj
  · show τ.n + 1 = σ.n + 1 + c; omega
  · show τ.opn.take τ.met = pre ++ (σ.opn.take σ.met).map (mv r c)
    rw [h.opn, h.met, List.take_append, List.take_of_length_le (by omega), List.map_take]
    congr 2; omega
theorem lay (h : Sim r c dl pre pk K σ τ) (d : Nd) (hk : d.kids = []) (h4 : d.kind = 4 → (σ.nd σ.last).kind = 3) : Sim r c dl pre pk K (σ.lay d) (τ.lay d) := by
  have h0 := h.lay0 d.kind h4
  have x := (h.gs.lay0 d.kind h4)
  have y := (h.gt.lay0 d.kind fun e => h.lastKind.1.2 (h4 e))
  have h1 := h0.lay1 d hk x.2.1
  rw [x.2.2.1, y.2.2.1] at h1
  exact h1
theorem layLeaf (h : Sim r c dl pre pk K σ τ) (d : Nd) (hk : d.kids = []) (h4 : d.kind ≠ 4) : Sim r c dl pre pk K (σ.layLeaf d) (τ.layLeaf d) :=
  { h.lay d hk (fun e => absurd e h4) with
    gs := h.gs.lay d hk (fun e => absurd e h4) (some σ.n) (.inr rfl)
    gt := h.gt.lay d hk (fun e => absurd e h4) (some τ.n) (.inr rfl)
    leaf := by show some τ.n = some (mv r c σ.n); rw [mv_pos h.npos, h.n] }
theorem enter (h : Sim r c dl pre pk K σ τ) (d : Nd) (hk : d.kids = []) (h4 : d.kind = 4 → (σ.nd σ.last).kind = 3) (hh : Holds d.kind) : Sim r c dl pre pk K (σ.enter d) (τ.enter d) := by
  have hl := h.lay d hk h4
  exact
    { hl with
      gs := h.gs.enter d hk h4 hh
      gt := h.gt.enter d hk (fun e => h.lastKind.1.2 (h4 e)) hh
      opn := by
        show (τ.lay d).opn ++ [τ.n] = pre ++ ((σ.lay d).opn ++ [σ.n]).map (mv r c)
        rw [hl.opn, List.map_append, List.map_singleton, mv_pos h.npos, h.n, List.append_assoc]
      met := by
        show (τ.lay d).opn.length + 1 = pre.length + ((σ.lay d).opn.length + 1)
        rw [hl.opn, List.length_append, List.length_map]; omega
      leaf := rfl }
end Sim
end Bk
end Go.Proofs.YtehmcahdjldhbaaGreatDoor
end
section
/- Package block in plain Lean: two runs, of which one goes within a container of the other: a line leaves them alike. -/
set_option linter.unusedVariables false
set_option linter.unusedSimpArgs false
set_option maxRecDepth 100000
namespace Go.Proofs.YtehmcahdjldhbaaGreatDoor
open Wk
namespace Bk
namespace Sim
variable {r c dl : Nat} {pre pk : List Nat} {K : Nat → List Nat} {σ τ : St}
theorem skipped (h : Sim r c dl pre pk K σ τ) (n : Nat) : Sim r c dl pre pk K (σ.skipped n) (τ.skipped n) := by
  unfold St.skipped
  rw [h.s]
  rcases h.col with e | e
  · rw [e]; exact h.cur _ _ _ (.inl rfl)
  · rw [skip_notab σ.s τ.col σ.col n e]
    exact h.cur _ _ _ (.inr (skip_tabs _ _ _ e))
theorem tabs_drop {l : Bs} (k : Nat) (h : 9 ∉ l) : 9 ∉ l.drop k := fun e => h (List.mem_of_mem_drop e)
theorem past (h : Sim r c dl pre pk K σ τ) (m : Nat) : Sim r c dl pre pk K (σ.past m) (τ.past m) := by
  unfold St.past
  rw [h.t_eq, h.w_eq]
  refine h.cur _ _ _ ?_
  rcases h.col with e | e
  · left; rw [e]
  · right; exact tabs_drop _ (tabs_drop _ e)
theorem without_eq (h : Sim r c dl pre pk K σ τ) (n : Nat) : τ.without n = σ.without n := by
  unfold St.without
  rw [h.s]
  rcases h.col with e | e
  · rw [e]
  · exact skip_notab _ _ _ _ e
theorem quotes_eq (h : Sim r c dl pre pk K σ τ) : τ.quotes = σ.quotes := by unfold St.quotes; rw [h.w_eq, h.t_eq]
theorem quoted (h : Sim r c dl pre pk K σ τ) : Sim r c dl pre pk K σ.quoted τ.quoted := by
  unfold St.quoted
  rw [h.quotes_eq]
  split
  · exact (h.past 1).skipped 1
  · exact h
theorem deepOk_eq (h : Sim r c dl pre pk K σ τ) (n : Nat) : τ.deepOk n = σ.deepOk n := by unfold St.deepOk; rw [h.w_eq, h.t_eq]
theorem deep (h : Sim r c dl pre pk K σ τ) (n : Nat) : Sim r c dl pre pk K (σ.deep n) (τ.deep n) := by
  unfold St.deep
  rw [h.deepOk_eq, h.w_eq]
  split
  · exact h.skipped _
  · exact h
theorem nd_eq (h : Sim r c dl pre pk K σ τ) {i : Nat} (hp : 0 < i) (hi : i < σ.n) : τ.nd (mv r c i) = mvN r c dl (σ.nd i) := by rw [mv_pos hp]; exact h.nd i hp hi
theorem meetOk_eq (h : Sim r c dl pre pk K σ τ) {i : Nat} (hp : 0 < i) (hi : i < σ.n) : τ.meetOk (mv r c i) = σ.meetOk i := by
  unfold St.meetOk
  rw [h.nd_eq hp hi, h.quotes_eq, h.blank_eq]
  show (if (σ.nd i).kind = 2 then σ.quotes else if (σ.nd i).kind = 4 then !(σ.blank && ((σ.nd i).kids.map (mv r c)).isEmpty) && τ.deepOk (σ.nd i).need else if (σ.nd i).kind = 13 then τ.deepOk 4 else true) = _
  rw [h.deepOk_eq, h.deepOk_eq, List.isEmpty_map]
theorem meet (h : Sim r c dl pre pk K σ τ) {i : Nat} (hp : 0 < i) (hi : i < σ.n) : Sim r c dl pre pk K (σ.meet i) (τ.meet (mv r c i)) := by
  unfold St.meet
  rw [h.nd_eq hp hi, h.quotes_eq, h.blank_eq]
  show Sim r c dl pre pk K _ (if (σ.nd i).kind = 2 then (if σ.quotes then τ.quoted.touch (mv r c i) else τ) else if (σ.nd i).kind = 4 then (if σ.blank && ((σ.nd i).kids.map (mv r c)).isEmpty then τ else τ.deep (σ.nd i).need) else if (σ.nd i).kind = 13 then τ.deep 4 else τ)
  rw [List.isEmpty_map]
  split
  · split
    · exact h.quoted.touch (by rw [(quoted_keeps σ).1]; exact hi)
    · exact h
  · split
    · split
      · exact h
      · exact h.deep _
    · split
      · exact h.deep _
      · exact h
theorem add (h : Sim r c dl pre pk K σ τ) (s : Bs) : Sim r c dl pre pk K (σ.add s) (τ.add s) := by
  unfold St.add
  rw [h.leaf]
  cases e : σ.leaf with
  | none => exact h
  | some i =>
    obtain ⟨h1, h2⟩ := h.gs.leafN i e
    have hm := h.mvlt h2
    rw [Option.map_some]
    dsimp only
    have g1 := h.gs.op (.line σ i s h2)
    rw [mv_pos h1] at hm ⊢
    have g2 := h.gt.op (.line τ (i + c) s hm)
    have hp := h.put h1 h2 (fun d => { d with lines := d.lines ++ [s] }) (fun d => rfl) g1 g2
    split
    · exact hp
    · have := hp.touch (i := i) h2
      rw [mv_pos h1] at this; exact this
theorem fenced (h : Sim r c dl pre pk K σ τ) {i : Nat} (hp : 0 < i) (hi : i < σ.n) : Sim r c dl pre pk K (σ.fenced i) (τ.fenced (mv r c i)) := by
  unfold St.fenced
  rw [h.nd_eq hp hi, h.w_eq, h.t_eq]
  show Sim r c dl pre pk K _ (if σ.w < 4 ∧ Sc.closes σ.t (σ.nd i).fc (σ.nd i).fn = true then (τ.touch (mv r c i)).close else τ.add (τ.without (σ.nd i).fi))
  rw [h.without_eq]
  split
  · exact (h.touch hi).close
  · exact h.add _
theorem htmlOk_eq (h : Sim r c dl pre pk K σ τ) {i : Nat} (hp : 0 < i) (hi : i < σ.n) : τ.htmlOk (mv r c i) = σ.htmlOk i := by
  unfold St.htmlOk
  rw [h.nd_eq hp hi, h.blank_eq]; rfl
theorem html (h : Sim r c dl pre pk K σ τ) {i : Nat} (hp : 0 < i) (hi : i < σ.n) : Sim r c dl pre pk K (σ.html i) (τ.html (mv r c i)) := by
  unfold St.html
  rw [h.htmlOk_eq hp hi, h.nd_eq hp hi, h.s]
  show Sim r c dl pre pk K _ (if σ.htmlOk i = true then (if (σ.nd i).N ≤ 5 ∧ Sc.htmlEnds σ.s (σ.nd i).N = true then (τ.add σ.s).close else τ.add σ.s) else τ.close)
  split
  · split
    · exact (h.add _).close
    · exact h.add _
  · exact h.close
theorem takes12 (h : Sim r c dl pre pk K σ τ) : τ.takes.1 = σ.takes.1 ∧ Sim r c dl pre pk K σ.takes.2 τ.takes.2 := by
  unfold St.takes
  rw [h.all_eq, h.leaf]
  cases e : σ.leaf with
  | none => exact ⟨by split <;> rfl, by split <;> exact h⟩
  | some i =>
    obtain ⟨h1, h2⟩ := h.gs.leafN i e
    rw [Option.map_some]
    dsimp only
    rw [h.nd_eq h1 h2, h.htmlOk_eq h1 h2]
    show (if σ.all = true then if 0 < (σ.nd i).fn then (true, τ.fenced (mv r c i)) else if (σ.nd i).kind = 6 then (σ.htmlOk i, τ.html (mv r c i)) else (false, τ) else (false, τ)).1 = _ ∧
      Sim r c dl pre pk K _ (if σ.all = true then if 0 < (σ.nd i).fn then (true, τ.fenced (mv r c i)) else if (σ.nd i).kind = 6 then (σ.htmlOk i, τ.html (mv r c i)) else (false, τ) else (false, τ)).2
    split
    · split
      · exact ⟨rfl, h.fenced h1 h2⟩
      · split
        · exact ⟨rfl, h.html h1 h2⟩
        · exact ⟨rfl, h⟩
    · exact ⟨rfl, h⟩
theorem takes_none (σ : St) (e : σ.leaf = none) : σ.takes = (false, σ) := by
  unfold St.takes
  rw [e]
  split <;> rfl
theorem takes (h : Sim r c dl pre pk K σ τ) : τ.takes.1 = σ.takes.1 ∧ Sim r c dl pre pk K σ.takes.2 τ.takes.2 ∧ (σ.leaf = none → σ.takes = (false, σ) ∧ τ.takes = (false, τ)) :=
  ⟨h.takes12.1, h.takes12.2, fun e => ⟨takes_none σ e, takes_none τ (by rw [h.leaf, e]; rfl)⟩⟩
theorem code (h : Sim r c dl pre pk K σ τ) (b : Bg σ τ) : Sim r c dl pre pk K σ.code τ.code := by
  unfold St.code
  dsimp only
  rw [h.plain_eq b]
  split
  · rw [h.without_eq]; exact h.add _
  · have hl := h.layLeaf { kind := 5 } rfl (by decide)
    rw [hl.without_eq]; exact hl.add _
variable (F : Bs → List Ref × Bs) (U : Bs → Bs) (notes : Bool)
theorem headOk_eq (h : Sim r c dl pre pk K σ τ) (b : Bg σ τ) (level : Nat) : τ.headOk F level = σ.headOk F level := by
  unfold St.headOk
  rw [h.all_eq, h.goes_eq b, h.leaf]
  cases e : σ.leaf with
  | none => rfl
  | some i =>
    obtain ⟨h1, h2⟩ := h.gs.leafN i e
    rw [Option.map_some]
    dsimp only
    rw [h.nd_eq h1 h2]; rfl
theorem head (h : Sim r c dl pre pk K σ τ) (b : Bg σ τ) (level : Nat) : Sim r c dl pre pk K (σ.head F level) (τ.head F level) := by
  unfold St.head
  rw [h.headOk_eq F b]
  by_cases q : σ.headOk F level = true
  · rw [if_pos q, if_pos q, h.leaf]
    obtain ⟨i, hl, hk, _⟩ := headOk_leaf q
    rw [hl, Option.map_some]
    dsimp only
    obtain ⟨h1, h2⟩ := h.gs.leafN i hl
    have ht := h.touch h2
    have hm := h.mvlt h2
    have k1 : ((σ.touch i).nd i).kind = 7 := by rw [touch_nd]; exact hk
    have k2 : ((τ.touch (mv r c i)).nd (i + c)).kind = 7 := by
      rw [ht.nd i h1 h2]; exact k1
    rw [mv_pos h1] at hm ht k2 ⊢
    have g1 := ht.gs.op (.head _ i level h2 k1)
    have g2 := ht.gt.op (.head _ (i + c) level hm k2)
    exact (ht.put h1 h2 (fun d => { d with kind := 8, N := level, setext := true }) (fun d => rfl) g1 g2).close
  · rw [if_neg q, if_neg q]; exact h
theorem begins (h : Sim r c dl pre pk K σ τ) (b : Bg σ τ) (w : Nat) (t : Bs) : (τ.begins F U w t).1 = (σ.begins F U w t).1 ∧ Sim r c dl pre pk K (σ.begins F U w t).2 (τ.begins F U w t).2 := by
  unfold St.begins
  rw [h.goes_eq b, h.headOk_eq F b, h.s]
  split
  · exact ⟨rfl, h.lay _ rfl (fun e => by cases e)⟩
  · split
    · exact ⟨rfl, h.layLeaf _ rfl (show (5 : Nat) ≠ 4 by decide)⟩
    · split
      · refine ⟨rfl, ?_⟩
        dsimp only
        split
        · exact (h.layLeaf _ rfl (show (6 : Nat) ≠ 4 by decide)).close
        · exact h.layLeaf _ rfl (show (6 : Nat) ≠ 4 by decide)
      · split
        · exact ⟨rfl, h.head F b _⟩
        · split
          · exact ⟨rfl, h.lay _ rfl (fun e => by cases e)⟩
          · exact ⟨rfl, h⟩
theorem note (h : Sim r c dl pre pk K σ τ) (b : Bg σ τ) (t : Bs) : (τ.note notes t).1 = (σ.note notes t).1 ∧ Sim r c dl pre pk K (σ.note notes t).2 (τ.note notes t).2 := by
  unfold St.note
  rw [h.goes_eq b]
  split
  · exact ⟨rfl, h⟩
  · have he := (h.past (label t).2).enter { kind := 13, S := (label t).1 } rfl (fun e => by cases e) (.inr (.inr (.inr (.inr rfl))))
    dsimp only
    rw [he.w_eq]
    exact ⟨rfl, he.skipped _⟩
theorem gap_eq (h : Sim r c dl pre pk K σ τ) (w : Nat) (size : Nat) : τ.itemGap w τ.t size = σ.itemGap w σ.t size := by
  unfold St.itemGap
  rw [h.t_eq]
  rcases h.col with e | e
  · rw [e]
  · rw [indW_notab (σ.t.drop size) (τ.col + w + size) (σ.col + w + size) (tabs_drop _ (tabs_drop _ e))]
theorem item (h : Sim r c dl pre pk K σ τ) (b : Bg σ τ) (w : Nat) : (τ.item w τ.t).1 = (σ.item w σ.t).1 ∧ Sim r c dl pre pk K (σ.item w σ.t).2 (τ.item w τ.t).2 := by
  unfold St.item
  dsimp only
  rw [h.all_eq, h.goes_eq b, h.gap_eq, h.t_eq]
  split
  · exact ⟨rfl, h⟩
  · split
    · exact ⟨rfl, h⟩
    · refine ⟨rfl, ?_⟩
      have hp := (h.past (marker σ.t).2.2.1).skipped (σ.itemGap w σ.t (marker σ.t).2.2.1)
      generalize (σ.past (marker σ.t).2.2.1).skipped (σ.itemGap w σ.t (marker σ.t).2.2.1) = α at *
      generalize (τ.past (marker σ.t).2.2.1).skipped (σ.itemGap w σ.t (marker σ.t).2.2.1) = β at *
      have hl := hp.lastKind
      dsimp only
      by_cases q : (α.nd α.last).kind ≠ 3 ∨ (α.nd α.last).M ≠ (marker σ.t).2.1.toNat
      · have q2 : (β.nd β.last).kind ≠ 3 ∨ (β.nd β.last).M ≠ (marker σ.t).2.1.toNat := by
          by_cases x : (α.nd α.last).kind = 3
          · right; rw [hl.2 x]; exact q.resolve_left fun y => y x
          · left; exact fun y => x (hl.1.1 y)
        rw [if_pos q, if_pos q2]
        have h1 := hp.enter { kind := 3, N := (marker σ.t).1, M := (marker σ.t).2.1.toNat } rfl (fun e => by cases e) (.inr (.inr (.inl rfl)))
        have e1 := Ops.enter_last α { kind := 3, N := (marker σ.t).1, M := (marker σ.t).2.1.toNat }
        exact h1.enter _ rfl (fun _ => by rw [e1.1, e1.2]) (.inr (.inr (.inr (.inl rfl))))
      · have x : (α.nd α.last).kind = 3 := Classical.not_not.1 fun y => q (.inl y)
        have q2 : ¬ ((β.nd β.last).kind ≠ 3 ∨ (β.nd β.last).M ≠ (marker σ.t).2.1.toNat) := by
          rintro (y | y)
          · exact y (hl.1.2 x)
          · rw [hl.2 x] at y; exact q (.inr y)
        rw [if_neg q, if_neg q2]
        exact hp.enter _ rfl (fun _ => x) (.inr (.inr (.inr (.inl rfl))))
theorem bg_enter (α β : St) (d : Nd) : Bg (α.enter d) (β.enter d) := .inl rfl
theorem bg_skip {α β : St} (b : Bg α β) (n m : Nat) : Bg (α.skipped n) (β.skipped m) := b
theorem note_bg {t t' : Bs} (h1 : (σ.note notes t).1 = true) (b : Bg σ τ) : Bg (σ.note notes t).2 (τ.note notes t').2 := by
  unfold St.note at h1 ⊢
  split at h1
  · cases h1
  · rename_i h2
    rw [if_neg h2]
    exact .inl rfl
theorem item_bg {w w' : Nat} {t t' : Bs} (h1 : (σ.item w t).1 = true) : Bg (σ.item w t).2 (τ.item w' t').2 := by
  unfold St.item at h1 ⊢
  dsimp only at h1 ⊢
  split at h1
  · cases h1
  · rename_i h2
    rw [if_neg h2]
    split at h1
    · cases h1
    · rename_i h3
      rw [if_neg h3]
      exact .inl rfl
theorem starts : ∀ (k : Nat) (σ τ : St), Sim r c dl pre pk K σ τ → Bg σ τ →
    (τ.starts F U notes k).1 = (σ.starts F U notes k).1 ∧ Sim r c dl pre pk K (σ.starts F U notes k).2 (τ.starts F U notes k).2 ∧ ((σ.starts F U notes k).1 = false → Bg (σ.starts F U notes k).2 (τ.starts F U notes k).2)
  | 0, σ, τ, h, b => ⟨rfl, h, fun _ => b⟩
  | k + 1, σ, τ, h, b => by
    have hb := h.begins F U b σ.w σ.t
    have hn := h.note notes b σ.t
    have hi := h.item b σ.w
    rw [starts_step, starts_step, h.blank_eq, h.w_eq, h.goes_eq b, h.quotes_eq, ← h.w_eq, h.w_eq]
    have et := h.t_eq
    rw [et]
    rw [et] at hi
    rw [hb.1, hn.1, hi.1]
    split
    · exact ⟨rfl, h, fun _ => b⟩
    · split
      · split
        · exact ⟨rfl, h, fun _ => b⟩
        · exact ⟨rfl, h.code b, fun e => by cases e⟩
      · split
        · exact starts k _ _ (h.quoted.enter { kind := 2 } rfl (fun e => by cases e) (.inr (.inl rfl))) (bg_enter _ _ _)
        · split
          · exact ⟨rfl, hb.2, fun e => by cases e⟩
          · split
            · rename_i q; exact starts k _ _ hn.2 (note_bg notes q b)
            · split
              · rename_i q; exact starts k _ _ hi.2 (item_bg q)
              · exact ⟨rfl, h, fun _ => b⟩
theorem text (h : Sim r c dl pre pk K σ τ) (b : Bg σ τ) : Sim r c dl pre pk K σ.text τ.text := by
  rw [text_eq, text_eq, h.blank_eq, h.plain_eq b, h.without_eq]
  split
  · split
    · exact h.add _
    · unfold St.blankEnd
      rw [h.all_eq, h.goes_eq b]
      have hc := h.cut
      split
      · exact hc.close
      · exact { hc with gs := { hc.gs with }, gt := { hc.gt with } }
  · unfold St.para
    rw [h.goes_eq b]
    split
    · rw [h.s]; exact h.add _
    · have hl := h.layLeaf { kind := 7 } rfl (by decide)
      rw [hl.s]; exact hl.add _
theorem meets : ∀ (k : Nat) (σ τ : St), Sim r c dl pre pk K σ τ → Sim r c dl pre pk K (σ.meets k) (τ.meets k)
  | 0, σ, τ, h => h
  | k + 1, σ, τ, h => by
    have e1 : (τ.met < τ.opn.length) ↔ σ.met < σ.opn.length := by rw [h.met, h.opn, List.length_append, List.length_map]; omega
    rw [St.meets, St.meets]
    by_cases hlt : σ.met < σ.opn.length
    · rw [if_pos hlt, if_pos (e1.2 hlt)]
      have eo : τ.opn.getD τ.met 0 = mv r c (σ.opn.getD σ.met 0) := by
        rw [List.getD_eq_getElem?_getD, List.getD_eq_getElem?_getD, h.opn, h.met, List.getElem?_append_right (by omega), List.getElem?_map, show pre.length + σ.met - pre.length = σ.met by omega, List.getElem?_eq_getElem hlt]; rfl
      have hmem : σ.opn[σ.met]? = some (σ.opn.getD σ.met 0) := by rw [List.getD_eq_getElem?_getD, List.getElem?_eq_getElem hlt]; rfl
      have hi : σ.opn.getD σ.met 0 < σ.n := (h.gs.opnH _ (List.mem_of_getElem? hmem)).1
      have hp : 0 < σ.opn.getD σ.met 0 := h.gs.opnPos hmem h.gs.met1
      rw [eo, h.meetOk_eq hp hi]
      have hm := h.meet hp hi
      have k1 := meet_keeps σ (σ.opn.getD σ.met 0)
      split
      · have := hm.setMet (σ.met + 1) (by omega) (by rw [k1.2.1]; omega)
        rw [show τ.met + 1 = pre.length + (σ.met + 1) by rw [h.met]; omega]
        exact meets k _ _ this
      · exact hm
    · rw [if_neg hlt, if_neg (fun x => hlt (e1.1 x))]; exact h
end Sim
end Bk
end Go.Proofs.YtehmcahdjldhbaaGreatDoor
end
section
/- Package block in plain Lean: what is told of two runs, of which one goes within a container of the other. -/
set_option linter.unusedVariables false
set_option linter.unusedSimpArgs false
set_option maxRecDepth 100000
namespace Go.Proofs.YtehmcahdjldhbaaGreatDoor
open Wk
namespace Bk
/-! ### Rounds do not matter -/
section
variable (F : Bs → List Ref × Bs) (U : Bs → Bs) (notes : Bool)
theorem hasPrefix_pos' {t : Bs} {b : UInt8} (h : Lib.hasPrefix t [b] = true) : 1 ≤ t.length := hasPrefix_pos h
theorem cnt_quoted (σ : St) (h : σ.quotes = true) : cnt (σ.quoted.enter { kind := 2 }).s < cnt σ.s := by
  rw [(enter_s σ.quoted { kind := 2 }).1]
  have h1 : 1 ≤ σ.t.length := by unfold St.quotes at h; simp at h; exact hasPrefix_pos h.2
  unfold St.quoted
  rw [if_pos h]
  have := cnt_past σ 1 (Nat.le_refl _) h1
  have e : cnt ((σ.past 1).skipped 1).s = cnt (σ.past 1).s := cnt_skip _ _ _
  omega
theorem cnt_note (σ : St) (h : (σ.note notes σ.t).1 = true) : cnt (σ.note notes σ.t).2.s < cnt σ.s := by
  unfold St.note at h ⊢
  split at h
  · cases h
  · rename_i h1
    rw [if_neg h1]
    have hp := cnt_past σ (label σ.t).2 (by omega) (label_le σ.t)
    have e := (enter_s (σ.past (label σ.t).2) { kind := 13, S := (label σ.t).1 }).1
    show cnt (skip ((σ.past (label σ.t).2).enter { kind := 13, S := (label σ.t).1 }).s _ _).1 < _
    rw [cnt_skip, e]; exact hp
theorem cnt_item (σ : St) (h : (σ.item σ.w σ.t).1 = true) : cnt (σ.item σ.w σ.t).2.s < cnt σ.s := by
  unfold St.item at h ⊢
  dsimp only at h ⊢
  split at h
  · cases h
  · rename_i h1
    rw [if_neg h1]
    split at h
    · cases h
    · rename_i h2
      rw [if_neg h2]
      have hp := cnt_past σ (marker σ.t).2.2.1 (by omega) (marker_le σ.t)
      have e : cnt ((σ.past (marker σ.t).2.2.1).skipped (σ.itemGap σ.w σ.t (marker σ.t).2.2.1)).s = cnt (σ.past (marker σ.t).2.2.1).s := cnt_skip _ _ _
      generalize (σ.past (marker σ.t).2.2.1).skipped (σ.itemGap σ.w σ.t (marker σ.t).2.2.1) = α at *
      dsimp only
      split
      · rw [(enter_s _ _).1, (enter_s _ _).1]; omega
      · rw [(enter_s _ _).1]; omega
/-- More rounds than there are bytes: the same. -/
theorem starts_more : ∀ (k : Nat) (σ : St), cnt σ.s < k → σ.starts F U notes (k + 1) = σ.starts F U notes k
  | 0, σ, h => by omega
  | k + 1, σ, h => by
    have e1 := starts_step F U notes (k + 1) σ
    have e2 := starts_step F U notes k σ
    rw [e1, e2]
    split
    · rfl
    · split
      · rfl
      · split
        · rename_i q; exact starts_more k _ (by have := cnt_quoted σ q; omega)
        · split
          · rfl
          · split
            · rename_i q; exact starts_more k _ (by have := cnt_note notes σ q; omega)
            · split
              · rename_i q; exact starts_more k _ (by have := cnt_item σ q; omega)
              · rfl
/-- What a line does, once its containers are met. -/
def St.after (τ : St) : St :=
  if τ.takes.1 then τ.takes.2
  else if (τ.takes.2.starts F U notes (τ.takes.2.s.length + 1)).1 then (τ.takes.2.starts F U notes (τ.takes.2.s.length + 1)).2
  else (τ.takes.2.starts F U notes (τ.takes.2.s.length + 1)).2.text
theorem one_after (σ : St) : σ.one F U notes = (σ.line0.meets σ.opn.length).after F U notes := one_eq F U notes σ
theorem takes_began (σ : St) (h : σ.takes.1 = false) : σ.takes.2.began = σ.began ∧ (σ.takes.2 = σ ∨ σ.takes.2 = σ.close) := by
  unfold St.takes at h ⊢
  by_cases a : σ.all = true
  · rw [if_pos a] at h ⊢
    cases e : σ.leaf with
    | none => exact ⟨rfl, .inl rfl⟩
    | some i =>
      rw [e] at h
      dsimp only at h ⊢
      split at h
      · cases h
      · rename_i h1
        rw [if_neg h1]
        split at h
        · rename_i h2
          rw [if_pos h2]
          dsimp only at h ⊢
          unfold St.html
          rw [h, if_neg (by decide)]
          exact ⟨rfl, .inr rfl⟩
        · rename_i h2
          rw [if_neg h2]; exact ⟨rfl, .inl rfl⟩
  · rw [if_neg a]; exact ⟨rfl, .inl rfl⟩
end
namespace Sim
variable {r c dl : Nat} {pre pk : List Nat} {K : Nat → List Nat} {σ τ : St} (F : Bs → List Ref × Bs) (U : Bs → Bs) (notes : Bool)
theorem after (h : Sim r c dl pre pk K σ τ) (b : Bg σ τ) : Sim r c dl pre pk K (σ.after F U notes) (τ.after F U notes) := by
  obtain ⟨t1, t2, t3⟩ := h.takes
  unfold St.after
  rw [t1]
  cases e : σ.takes.1 with
  | true => rw [if_pos rfl, if_pos rfl]; exact t2
  | false =>
    rw [if_neg Bool.false_ne_true, if_neg Bool.false_ne_true]
    have b2 : Bg σ.takes.2 τ.takes.2 := by
      rcases b with b | b
      · have := t3 b; rw [this.1, this.2]; exact .inl b
      · right
        rw [(takes_began σ e).1, (takes_began τ (t1.trans e)).1]; exact b
    rw [t2.s]
    obtain ⟨s1, s2, s3⟩ := starts F U notes (σ.takes.2.s.length + 1) _ _ t2 b2
    rw [s1]
    cases e2 : (σ.takes.2.starts F U notes (σ.takes.2.s.length + 1)).1 with
    | true => rw [if_pos rfl, if_pos rfl]; exact s2
    | false => rw [if_neg Bool.false_ne_true, if_neg Bool.false_ne_true]; exact s2.text (s3 e2)
/-- Between two lines. -/
theorem next (h : Sim r c dl pre pk K σ τ) : Sim r c dl pre pk K σ.line0 { τ with met := pre.length + 1, began := false } :=
  (h.setMet 1 (Nat.le_refl _) (Nat.le_trans h.gs.met1 h.gs.metL)).began false false
/-- The beginning of a line. -/
theorem atLine (h : Sim r c dl pre pk K σ.line0 { τ with met := pre.length + 1, began := false }) (s : Bs) (k col : Nat) (hk : σ.line ≤ k) (hc : col = 0 ∨ 9 ∉ s) :
    Sim r c dl pre pk K (σ.at' s k).line0 { τ with met := pre.length + 1, began := false, s := s, col := col, line := k + dl } :=
  { h with
    gs := h.gs.same rfl rfl rfl rfl hk (fun j => ⟨rfl, rfl, rfl, rfl⟩) (fun j => .inl rfl)
    gt := h.gt.same rfl rfl rfl rfl (by show τ.line ≤ k + dl; have : τ.line = σ.line + dl := h.line; omega) (fun j => ⟨rfl, rfl, rfl, rfl⟩) (fun j => .inl rfl)
    line := rfl, s := rfl, col := hc }

/-! ### What is told -/
theorem apart_mv (h : Sim r c dl pre pk K σ τ) : ∀ l : List Nat, (∀ k ∈ l, 0 < k ∧ k < σ.n) → apart τ.nd (l.map (mv r c)) = apart σ.nd l
  | [], _ => rfl
  | [a], _ => rfl
  | a :: b :: t, hl => by
    have ha := hl a (List.mem_cons_self ..)
    have hb := hl b (List.mem_cons_of_mem _ (List.mem_cons_self ..))
    have ih := apart_mv h (b :: t) fun k hk => hl k (List.mem_cons_of_mem _ hk)
    show (decide ((τ.nd (mv r c a)).last + 1 < (τ.nd (mv r c b)).first) || apart τ.nd ((b :: t).map (mv r c))) = (decide ((σ.nd a).last + 1 < (σ.nd b).first) || apart σ.nd (b :: t))
    rw [ih, h.nd_eq ha.1 ha.2, h.nd_eq hb.1 hb.2]
    congr 1
    show decide ((σ.nd a).last + dl + 1 < (σ.nd b).first + dl) = _
    congr 1
    exact propext (by omega)
theorem kidsIn (h : Sim r c dl pre pk K σ τ) {i : Nat} (hi : i < σ.n) : ∀ k ∈ (σ.nd i).kids, 0 < k ∧ k < σ.n := fun k hk => by
  have := h.gs.kid i hi k hk; omega
theorem tight_mv (h : Sim r c dl pre pk K σ τ) {i : Nat} (hp : 0 < i) (hi : i < σ.n) : tight τ.nd (mv r c i) = tight σ.nd i := by
  unfold tight
  rw [h.nd_eq hp hi]
  show (!apart τ.nd ((σ.nd i).kids.map (mv r c)) && !((σ.nd i).kids.map (mv r c)).any fun k => apart τ.nd (τ.nd k).kids) = _
  rw [h.apart_mv _ (h.kidsIn hi), List.any_map]
  congr 2
  have hall := h.kidsIn hi
  generalize (σ.nd i).kids = l at hall ⊢
  induction l with
  | nil => rfl
  | cons a t ih =>
    have ha := hall a (List.mem_cons_self ..)
    rw [List.any_cons, List.any_cons, ih fun k hk => hall k (List.mem_cons_of_mem _ hk)]
    congr 1
    show apart τ.nd (τ.nd (mv r c a)).kids = _
    rw [h.nd_eq ha.1 ha.2]
    exact h.apart_mv _ (h.kidsIn ha.2)
theorem content_mv (h : Sim r c dl pre pk K σ τ) {i : Nat} (hp : 0 < i) (hi : i < σ.n) (defs : List Ref) : content F τ.nd (mv r c i) defs = content F σ.nd i defs := by
  unfold content
  rw [h.tight_mv hp hi, h.nd_eq hp hi]
  rfl
end Sim
mutual
def trS (dl : Nat) : Tr → Tr
  | .mk k S T N M f a b l => .mk k S T N M f (a + dl) (b + dl) (trSs dl l)
def trSs (dl : Nat) : List Tr → List Tr
  | [] => []
  | t :: r => trS dl t :: trSs dl r
end
theorem trSs_append (dl : Nat) : ∀ a b : List Tr, trSs dl (a ++ b) = trSs dl a ++ trSs dl b
  | [], _ => by simp [trSs]
  | t :: a, b => by simp [trSs, trSs_append dl a b]
mutual
theorem trS_zero : ∀ t : Tr, trS 0 t = t
  | .mk k S T N M f a b l => by simp [trS, trSs_zero l]
theorem trSs_zero : ∀ l : List Tr, trSs 0 l = l
  | [] => rfl
  | t :: r => by simp [trSs, trS_zero t, trSs_zero r]
end
namespace Sim
variable {r c dl : Nat} {pre pk : List Nat} {K : Nat → List Nat} {σ τ : St} (F : Bs → List Ref × Bs)
theorem fold_mv (h : Sim r c dl pre pk K σ τ) (k : Nat)
    (IH : ∀ i, 0 < i → i < σ.n → ∀ defs, blocks F τ.nd k (mv r c i) defs = (trSs dl (blocks F σ.nd k i defs).1, (blocks F σ.nd k i defs).2)) :
    ∀ (l : List Nat) (X : List Tr) (acc : List Tr × List Ref), (∀ j ∈ l, 0 < j ∧ j < σ.n) →
      (l.map (mv r c)).foldl (tell F τ.nd (blocks F τ.nd k)) (X ++ trSs dl acc.1, acc.2) = (X ++ trSs dl (l.foldl (tell F σ.nd (blocks F σ.nd k)) acc).1, (l.foldl (tell F σ.nd (blocks F σ.nd k)) acc).2)
  | [], X, acc, _ => rfl
  | j :: t, X, acc, hl => by
    obtain ⟨hp, hi⟩ := hl j (List.mem_cons_self ..)
    have step : tell F τ.nd (blocks F τ.nd k) (X ++ trSs dl acc.1, acc.2) (mv r c j) = (X ++ trSs dl (tell F σ.nd (blocks F σ.nd k) acc j).1, (tell F σ.nd (blocks F σ.nd k) acc j).2) := by
      unfold tell
      dsimp only
      rw [h.content_mv F hp hi]
      split
      · rw [IH j hp hi, h.nd_eq hp hi]
        dsimp only
        rw [trSs_append]
        simp only [trSs, trS, List.append_assoc]
        rfl
      · rfl
    rw [List.map_cons, List.foldl_cons, List.foldl_cons, step]
    exact fold_mv h k IH t X _ fun x hx => hl x (List.mem_cons_of_mem _ hx)
theorem blocks_mv (h : Sim r c dl pre pk K σ τ) : ∀ (k i : Nat), 0 < i → i < σ.n → ∀ defs, blocks F τ.nd k (mv r c i) defs = (trSs dl (blocks F σ.nd k i defs).1, (blocks F σ.nd k i defs).2)
  | 0, i, _, _, defs => rfl
  | k + 1, i, hp, hi, defs => by
    show (τ.nd (mv r c i)).kids.foldl (tell F τ.nd (blocks F τ.nd k)) ([], defs) = (trSs dl ((σ.nd i).kids.foldl (tell F σ.nd (blocks F σ.nd k)) ([], defs)).1, ((σ.nd i).kids.foldl (tell F σ.nd (blocks F σ.nd k)) ([], defs)).2)
    rw [h.nd_eq hp hi]
    exact fold_mv F h k (blocks_mv h k) (σ.nd i).kids [] ([], defs) (h.kidsIn hi)
/-- The root's own, behind what stands ahead of them. -/
theorem root_mv (h : Sim r c dl pre pk K σ τ) (k : Nat) (X : List Tr) (defs0 defs : List Ref) (hX : pk.foldl (tell F τ.nd (blocks F τ.nd k)) ([], defs0) = (X, defs)) :
    blocks F τ.nd (k + 1) r defs0 = (X ++ trSs dl (blocks F σ.nd (k + 1) 0 defs).1, (blocks F σ.nd (k + 1) 0 defs).2) := by
  show (τ.nd r).kids.foldl (tell F τ.nd (blocks F τ.nd k)) ([], defs0) = _
  rw [h.kids0, List.foldl_append, hX]
  have := fold_mv F h k (blocks_mv F h k) (σ.nd 0).kids X ([], defs) (h.kidsIn h.npos)
  simp only [trSs, List.append_nil] at this
  exact this
end Sim
theorem foldl_same {α β : Type} (f g : α → β → α) : ∀ (l : List β) (a : α), (∀ x ∈ l, ∀ a, f a x = g a x) → l.foldl f a = l.foldl g a
  | [], _, _ => rfl
  | b :: t, a, h => by rw [List.foldl_cons, List.foldl_cons, h b (List.mem_cons_self ..)]; exact foldl_same f g t _ fun x hx => h x (List.mem_cons_of_mem _ hx)
theorem blocks_more (F : Bs → List Ref × Bs) {σ : St} (h : Good σ) : ∀ (k i : Nat) (defs : List Ref), i < σ.n → σ.n ≤ k + i → blocks F σ.nd (k + 1) i defs = blocks F σ.nd k i defs
  | 0, i, defs, hi, hk => by omega
  | k + 1, i, defs, hi, hk => by
    show (σ.nd i).kids.foldl (tell F σ.nd (blocks F σ.nd (k + 1))) ([], defs) = (σ.nd i).kids.foldl (tell F σ.nd (blocks F σ.nd k)) ([], defs)
    refine foldl_same _ _ _ _ fun j hj a => ?_
    obtain ⟨h1, h2, _⟩ := h.kid i hi j hj
    unfold tell
    rw [blocks_more F h k j _ h1 (by omega)]
theorem blocks_fuel (F : Bs → List Ref × Bs) {σ : St} (h : Good σ) (i : Nat) (defs : List Ref) (hi : i < σ.n) : ∀ (m k : Nat), σ.n ≤ k + i → blocks F σ.nd (k + m) i defs = blocks F σ.nd k i defs
  | 0, k, _ => rfl
  | m + 1, k, hk => by
    rw [show k + (m + 1) = (k + m) + 1 by omega, blocks_more F h (k + m) i defs hi (by omega)]
    exact blocks_fuel F h i defs hi m k hk
end Bk
end Go.Proofs.YtehmcahdjldhbaaGreatDoor
end
