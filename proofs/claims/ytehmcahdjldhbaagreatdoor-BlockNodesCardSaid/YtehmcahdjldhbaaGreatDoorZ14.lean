/- Parts of this session's proof, one behind the other: M32 N1 N2 N3 M30. -/
import Derived.Test.YtehmcahdjldhbaaGreatDoorZ11
import Derived.Test.YtehmcahdjldhbaaGreatDoorZ13
section
/- Package block: what stays fit from line to line; what the lines ask. -/
open Go Go.RowKit
set_option linter.unusedVariables false
set_option linter.unusedSimpArgs false
set_option maxRecDepth 100000
namespace Go.Proofs.YtehmcahdjldhbaaGreatDoor
open Wk
namespace Bk
theorem Fit.text {C L : Nat} {σ : St} (h : Fit C L σ) : Fit (C + 1) (L + 1) σ.text := by
  have hm := h.mono (Nat.le_succ C) (Nat.le_succ L)
  have hm2 := h.mono (Nat.le_succ C) (Nat.le_refl L)
  unfold St.text
  split
  · split
    · exact hm2.add _
    · have hl : (σ.opn.take σ.met).length = σ.met := by rw [List.length_take]; have := h.metL; omega
      exact
        { near := h.near, par := h.par, need := h.need
          opnN := fun i hi => h.opnN i (List.mem_of_mem_take hi)
          leafN := fun i e => by
            dsimp only at e
            split at e
            · cases e
            · exact h.leafN i e
          kidN := h.kidN, met1 := h.met1
          metL := by show σ.met ≤ (σ.opn.take σ.met).length; omega
          root := ⟨by
            show (σ.opn.take σ.met)[0]? = some 0
            rw [List.getElem?_take, if_pos (by have := h.met1; omega)]; exact h.root.1, h.root.2⟩
          count := hm.count, kidL := hm.kidL, linL := hm.linL
          opnL := by show (σ.opn.take σ.met).length ≤ _; have := h.metL; have := h.opnL; omega }
  · dsimp only
    split
    · exact hm2.add _
    · exact (h.layLeaf rfl (small9 rfl rfl rfl) (Nat.zero_le _)).add _
theorem Fit.one {C L : Nat} {σ : St} {F : Bs → List Ref × Bs} {U : Bs → Bs} {nt : Bool} (h : Fit C L σ.line0) : Fit (C + 2000010) (L + 4) (σ.one F U nt) := by
  have h1 : Fit C L (σ.line0.meets σ.opn.length) := Fit.meets _ _ h
  have h2 := h1.takes
  have hsl : (σ.line0.meets σ.opn.length).takes.2.s.length ≤ 1000000 := by have := phi_len (σ.line0.meets σ.opn.length).takes.2.s; have := h2.near; unfold Near at this; omega
  have h3 := Fit.starts F U nt ((σ.line0.meets σ.opn.length).takes.2.s.length + 1) C _ h2
  have h4 := h3.text
  rw [one_eq]
  split
  · exact h2.mono (by omega) (by omega)
  · split
    · exact h3.mono (by omega) (by omega)
    · exact h4.mono (by omega) (by omega)
theorem Fit.again {C L : Nat} {σ : St} (h : Fit C L σ) : Fit C L σ.line0 :=
  (h.met 1 (Nat.le_refl _) (by have := h.met1; have := h.metL; omega)).began false
/-- The state ahead of a line. -/
def St.at' (σ : St) (s : Bs) (k : Nat) : St := { σ with s := s, col := 0, line := k }
/-- What a line asks of the rest of the program. -/
def AskOk (F : Bs → List Ref × Bs) (U : Bs → Bs) (σ : St) : Prop :=
  ((σ.line0.meets σ.opn.length).takes).1 = false → Asked F ((σ.line0.meets σ.opn.length).takes).2 ∧ LineOk U ((σ.line0.meets σ.opn.length).takes).2.t
def RunOk (F : Bs → List Ref × Bs) (U : Bs → Bs) (nt : Bool) : List Bs → Nat → St → Prop
  | [], _, _ => True
  | s :: r, k, σ => AskOk F U (σ.at' s k) ∧ RunOk F U nt r (k + 1) ((σ.at' s k).one F U nt)
theorem run_cons (F : Bs → List Ref × Bs) (U : Bs → Bs) (nt : Bool) (s : Bs) (r : List Bs) (k : Nat) (σ : St) : St.run F U nt (s :: r) k σ = St.run F U nt r (k + 1) ((σ.at' s k).one F U nt) := rfl
theorem Fit.init : Fit 1 0 St.init.line0 :=
  { near := by show phi [] + 0 ≤ _; simp [phi]
    par := fun j hj p hp => by
      have : j = 0 := by have : j < 1 := hj; omega
      subst this; cases hp
    need := fun j hj => by
      have : j = 0 := by have : j < 1 := hj; omega
      subst this; exact ⟨Nat.zero_le _, Nat.zero_le _, Nat.zero_le _⟩
    opnN := fun i hi => by have : i = 0 := by simpa [St.init, St.line0] using hi
                           subst this; exact Nat.one_pos
    leafN := fun i e => by cases e
    kidN := fun j hj k hk => by
      have : j = 0 := by have : j < 1 := hj; omega
      subst this; cases hk
    met1 := Nat.le_refl _, metL := Nat.le_refl _, root := ⟨rfl, rfl⟩, count := Nat.le_refl _
    kidL := fun j hj => by
      have : j = 0 := by have : j < 1 := hj; omega
      subst this; exact Nat.zero_le _
    linL := fun j hj => by
      have : j = 0 := by have : j < 1 := hj; omega
      subst this; exact Nat.le_refl _
    opnL := Nat.le_refl _ }
theorem Fit.atLine {C L : Nat} {σ : St} (h : Fit C L σ.line0) (s : Bs) (k : Nat) (hs : phi s ≤ 1000000) : Fit C L (σ.at' s k).line0 :=
  { h with near := by show phi s + 0 ≤ _; omega }
end Bk
end Go.Proofs.YtehmcahdjldhbaaGreatDoor
end
section
/- Package block in plain Lean: a line as a row of small deeds, each of which keeps what must stay true of the nodes. -/
set_option linter.unusedVariables false
set_option linter.unusedSimpArgs false
set_option maxRecDepth 100000
namespace Go.Proofs.YtehmcahdjldhbaaGreatDoor
open Wk
namespace Bk
/-- j is i, or lies above it. -/
inductive Up (A : Nat → Nd) : Nat → Nat → Prop
  | refl (i : Nat) : Up A i i
  | step {i p j : Nat} : (A i).parent = some p → Up A p j → Up A i j
theorem Up.congr {A B : Nat → Nd} (h : ∀ j, (A j).parent = (B j).parent) {i j : Nat} (u : Up A i j) : Up B i j := by
  induction u with
  | refl i => exact .refl i
  | step e _ ih => exact .step ((h _).symm.trans e) ih
theorem Up.le {A : Nat → Nd} {i j : Nat} (u : Up A i j) : (∀ k p, k ≤ i → (A k).parent = some p → p < k) → j ≤ i := by
  induction u with
  | refl i => intro _; exact Nat.le_refl _
  | step e _ ih =>
    intro h
    have h1 := h _ _ (Nat.le_refl _) e
    have := ih fun k p hk hp => h k p (by omega) hp
    omega
theorem touchA_last : ∀ (k : Nat) (A : Nat → Nd) (i l : Nat), (∀ j p, j ≤ i → (A j).parent = some p → p < j) → i < k → ∀ j, (Up A i j → (touchA k A (some i) l j).last = l) ∧ (¬ Up A i j → (touchA k A (some i) l j).last = (A j).last)
  | 0, A, i, l, h, hi, j => by omega
  | k + 1, A, i, l, h, hi, j => by
    have hp : ∀ x, (upd A i (fun d => { d with last := l }) x).parent = (A x).parent := fun x => by unfold upd; split; (rename_i e; subst e; rfl); rfl
    have hl : ∀ x, (upd A i (fun d => { d with last := l }) x).last = if x = i then l else (A x).last := fun x => by unfold upd; split <;> rfl
    unfold touchA
    cases e : (A i).parent with
    | none =>
      rw [touchA_none, hl]
      constructor
      · intro u
        cases u with
        | refl => rw [if_pos rfl]
        | step e2 _ => rw [e] at e2; cases e2
      · intro u; rw [if_neg (fun (x : j = i) => u (x ▸ Up.refl _))]
    | some p =>
      have hpi := h i p (Nat.le_refl _) e
      have ih := touchA_last k (upd A i fun d => { d with last := l }) p l (fun x q hx hq => h x q (by omega) (by rw [← hp]; exact hq)) (by omega) j
      constructor
      · intro u
        cases u with
        | refl =>
          by_cases hu : Up (upd A i fun d => { d with last := l }) p i
          · exact ih.1 hu
          · rw [ih.2 hu, hl, if_pos rfl]
        | step e2 u2 =>
          rw [e] at e2; cases e2
          exact ih.1 (u2.congr fun x => (hp x).symm)
      · intro u
        have hu : ¬ Up (upd A i fun d => { d with last := l }) p j := fun x => u (.step e (x.congr hp))
        rw [ih.2 hu, hl, if_neg (fun (x : j = i) => u (x ▸ Up.refl _))]

/-! ### Small deeds -/
def Holds (k : Nat) : Prop := k = 1 ∨ k = 2 ∨ k = 3 ∨ k = 4 ∨ k = 13
inductive Op : St → St → Nat → Prop
  | cur (σ : St) (s : Bs) (c : Nat) (h : phi s + c ≤ phi σ.s + σ.col) : Op σ { σ with s := s, col := c } 0
  | touch (σ : St) (i : Nat) (h : i < σ.n) : Op σ (σ.touch i) 0
  | met (σ : St) (m : Nat) (h1 : 1 ≤ m) (h2 : m ≤ σ.opn.length) : Op σ { σ with met := m } 0
  | leaf (σ : St) : Op σ σ.close 0
  | cut (σ : St) : Op σ { σ with opn := σ.opn.take σ.met } 0
  | lay (σ : St) (d : Nd) (o : Option Nat) (hk : d.kids = []) (h4 : d.kind ≠ 4 ∧ d.kind ≠ 1) (ho : o = none ∨ o = some σ.n) : Op σ { σ.lay d with leaf := o } (joinEnd d.lines).length
  | enter (σ : St) (d : Nd) (hk : d.kids = []) (hl : d.lines = []) (h4 : d.kind = 4 → (σ.nd σ.last).kind = 3) (hh : Holds d.kind ∧ d.kind ≠ 1) : Op σ (σ.enter d) 0
  | line (σ : St) (i : Nat) (s : Bs) (h : i < σ.n) : Op σ (σ.put i fun d => { d with lines := d.lines ++ [s] }) (s.length + 1)
  | head (σ : St) (i N : Nat) (h : i < σ.n) (hk : (σ.nd i).kind = 7) : Op σ (σ.put i fun d => { d with kind := 8, N := N, setext := true }) 0
  | began (σ : St) (b : Bool) : Op σ { σ with began := b } 0
inductive Ops : St → St → Nat → Prop
  | nil (σ : St) : Ops σ σ 0
  | snoc {σ τ υ : St} {a b : Nat} : Ops σ τ a → Op τ υ b → Ops σ υ (a + b)
theorem Op.one {σ τ : St} {b : Nat} (h : Op σ τ b) : Ops σ τ b := by have := Ops.snoc (Ops.nil σ) h; rwa [Nat.zero_add] at this
theorem Ops.trans {σ τ υ : St} {a b : Nat} (h : Ops σ τ a) (g : Ops τ υ b) : Ops σ υ (a + b) := by
  induction g with
  | nil => exact h
  | snoc _ o ih => rw [← Nat.add_assoc]; exact ih.snoc o
theorem lay_cur (σ : St) (d : Nd) : (σ.lay d).s = σ.s ∧ (σ.lay d).col = σ.col ∧ (σ.lay d).line = σ.line := by
  unfold St.lay St.touch St.lay1 St.lay0
  split <;> exact ⟨rfl, rfl, rfl⟩
theorem Op.near {σ τ : St} {b : Nat} (h : Op σ τ b) : phi τ.s + τ.col ≤ phi σ.s + σ.col ∧ τ.line = σ.line := by
  cases h with
  | cur s c h => exact ⟨h, rfl⟩
  | lay d o => obtain ⟨h1, h2, h3⟩ := lay_cur σ d; exact ⟨by show phi (σ.lay d).s + (σ.lay d).col ≤ _; rw [h1, h2]; exact Nat.le_refl _, h3⟩
  | enter d => obtain ⟨h1, h2, h3⟩ := lay_cur σ d; exact ⟨by show phi (σ.lay d).s + (σ.lay d).col ≤ _; rw [h1, h2]; exact Nat.le_refl _, h3⟩
  | _ => exact ⟨Nat.le_refl _, rfl⟩
theorem Ops.near {σ τ : St} {b : Nat} (h : Ops σ τ b) : phi τ.s + τ.col ≤ phi σ.s + σ.col ∧ τ.line = σ.line := by
  induction h with
  | nil => exact ⟨Nat.le_refl _, rfl⟩
  | snoc _ o ih => exact ⟨Nat.le_trans o.near.1 ih.1, o.near.2.trans ih.2⟩

namespace Ops
variable {C L : Nat} {σ : St}
theorem skipped (σ : St) (n : Nat) : Ops σ (σ.skipped n) 0 := (Op.cur σ _ _ (phi_skip σ.s σ.col n)).one
theorem past (σ : St) (m : Nat) (hm : m ≤ σ.t.length) : Ops σ (σ.past m) 0 := by
  refine (Op.cur σ _ _ ?_).one
  have h1 := phi_ind σ.s σ.col
  have h2 := phi_drop σ.t m
  unfold St.t St.w at *
  omega
theorem without_len (σ : St) (n : Nat) : (σ.without n).length ≤ phi σ.s + σ.col := by
  have := phi_skip σ.s σ.col n
  have := phi_len (σ.without n)
  unfold St.without at *
  omega
theorem s_len (σ : St) : σ.s.length ≤ phi σ.s + σ.col := by have := phi_len σ.s; omega
theorem t_len (σ : St) : σ.t.length ≤ phi σ.s + σ.col := by have := s_len σ; unfold St.t; simp; omega
theorem quoted (σ : St) : Ops σ σ.quoted 0 := by
  unfold St.quoted
  split
  · rename_i hq
    have : 1 ≤ σ.t.length := by unfold St.quotes at hq; simp at hq; exact hasPrefix_pos hq.2
    exact (past σ 1 this).trans (skipped _ 1)
  · exact .nil σ
theorem deep (σ : St) (n : Nat) : Ops σ (σ.deep n) 0 := by
  unfold St.deep
  split
  · exact skipped σ _
  · exact .nil σ
theorem quoted_n (σ : St) : σ.quoted.n = σ.n := by unfold St.quoted; split <;> rfl
theorem meet (σ : St) (i : Nat) (hi : i < σ.n) : Ops σ (σ.meet i) 0 := by
  unfold St.meet
  split
  · split
    · exact (quoted σ).snoc (.touch _ i (by rw [quoted_n]; exact hi))
    · exact .nil σ
  · split
    · split
      · exact .nil σ
      · exact deep σ _
    · split
      · exact deep σ _
      · exact .nil σ
end Ops
end Bk
end Go.Proofs.YtehmcahdjldhbaaGreatDoor
end
section
/- Package block in plain Lean: what stays true of the nodes from deed to deed: they are a tree, each lies in its parent by its lines, Lists hold Items. -/
set_option linter.unusedVariables false
set_option linter.unusedSimpArgs false
set_option maxRecDepth 100000
namespace Go.Proofs.YtehmcahdjldhbaaGreatDoor
open Wk
namespace Bk
structure Good (σ : St) : Prop where
  kid : ∀ i, i < σ.n → ∀ k ∈ (σ.nd i).kids, k < σ.n ∧ i < k ∧ (σ.nd k).parent = some i
  nodup : ∀ i, i < σ.n → (σ.nd i).kids.Nodup
  par : ∀ j, j < σ.n → ∀ p, (σ.nd j).parent = some p → p < j
  firstK : ∀ i, i < σ.n → ∀ k ∈ (σ.nd i).kids, (σ.nd i).first ≤ (σ.nd k).first
  sorted : ∀ i, i < σ.n → (σ.nd i).kids.Pairwise fun a b => (σ.nd a).first ≤ (σ.nd b).first
  lastK : ∀ i, i < σ.n → ∀ k ∈ (σ.nd i).kids, (σ.nd k).last ≤ (σ.nd i).last
  fl : ∀ i, i < σ.n → (σ.nd i).first ≤ (σ.nd i).last ∧ (σ.nd i).last ≤ σ.line
  kindK : ∀ i, i < σ.n → ∀ k ∈ (σ.nd i).kids, ((σ.nd k).kind = 4 ↔ (σ.nd i).kind = 3)
  holds : ∀ i, i < σ.n → (σ.nd i).kids ≠ [] → Holds (σ.nd i).kind
  opnH : ∀ i ∈ σ.opn, i < σ.n ∧ Holds (σ.nd i).kind
  path : ∀ (j a b : Nat), σ.opn[j]? = some a → σ.opn[j + 1]? = some b → ((σ.nd b).kind = 4 ↔ (σ.nd a).kind = 3)
  root : σ.opn[0]? = some 0 ∧ (σ.nd 0).kind = 1
  met1 : 1 ≤ σ.met
  metL : σ.met ≤ σ.opn.length
  leafN : ∀ i, σ.leaf = some i → 0 < i ∧ i < σ.n
  opnPos : ∀ {j i : Nat}, σ.opn[j]? = some i → 1 ≤ j → 0 < i
theorem holds7 : ¬ Holds 7 := by unfold Holds; omega
theorem Good.same {σ τ : St} (h : Good σ) (hn : τ.n = σ.n) (ho : τ.opn = σ.opn) (hm : τ.met = σ.met) (hle : τ.leaf = σ.leaf) (hl : σ.line ≤ τ.line)
    (e : ∀ j, (τ.nd j).kids = (σ.nd j).kids ∧ (τ.nd j).parent = (σ.nd j).parent ∧ (τ.nd j).first = (σ.nd j).first ∧ (τ.nd j).last = (σ.nd j).last)
    (ek : ∀ j, (τ.nd j).kind = (σ.nd j).kind ∨ ((σ.nd j).kind = 7 ∧ (τ.nd j).kind = 8)) : Good τ := by
  have ef : ∀ j, (τ.nd j).first = (σ.nd j).first := fun j => (e j).2.2.1
  have k4 : ∀ j, (τ.nd j).kind = 4 ↔ (σ.nd j).kind = 4 := fun j => by rcases ek j with x | ⟨x, y⟩ <;> omega
  have k3 : ∀ j, (τ.nd j).kind = 3 ↔ (σ.nd j).kind = 3 := fun j => by rcases ek j with x | ⟨x, y⟩ <;> omega
  have kh : ∀ j, Holds (σ.nd j).kind → Holds (τ.nd j).kind := fun j hj => by
    rcases ek j with x | ⟨x, y⟩
    · rw [x]; exact hj
    · rw [x] at hj; exact absurd hj holds7
  exact
    { kid := fun i hi k hk => by rw [(e i).1] at hk; rw [hn, (e k).2.1]; exact h.kid i (by omega) k hk
      nodup := fun i hi => by rw [(e i).1]; exact h.nodup i (by omega)
      par := fun j hj p hp => h.par j (by omega) p (by rw [← (e j).2.1]; exact hp)
      firstK := fun i hi k hk => by rw [(e i).1] at hk; rw [ef, ef]; exact h.firstK i (by omega) k hk
      sorted := fun i hi => by
        rw [(e i).1]
        refine (h.sorted i (by omega)).imp ?_
        intro a b hab; rw [ef, ef]; exact hab
      lastK := fun i hi k hk => by rw [(e i).1] at hk; rw [(e i).2.2.2, (e k).2.2.2]; exact h.lastK i (by omega) k hk
      fl := fun i hi => by rw [ef, (e i).2.2.2]; have := h.fl i (by omega); exact ⟨this.1, Nat.le_trans this.2 hl⟩
      kindK := fun i hi k hk => by rw [(e i).1] at hk; rw [k4, k3]; exact h.kindK i (by omega) k hk
      holds := fun i hi hk => by rw [(e i).1] at hk; exact kh i (h.holds i (by omega) hk)
      opnH := fun i hi => by rw [ho] at hi; rw [hn]; exact ⟨(h.opnH i hi).1, kh i (h.opnH i hi).2⟩
      path := fun j a b ha hb => by rw [ho] at ha hb; rw [k4, k3]; exact h.path j a b ha hb
      root := by
        rw [ho]; refine ⟨h.root.1, ?_⟩
        rcases ek 0 with x | ⟨x, y⟩
        · rw [x]; exact h.root.2
        · rw [h.root.2] at x; cases x
      met1 := by rw [hm]; exact h.met1
      metL := by rw [hm, ho]; exact h.metL
      leafN := fun i hi => by rw [hle] at hi; rw [hn]; exact h.leafN i hi
      opnPos := fun hi h1 => by rw [ho] at hi; exact h.opnPos hi h1 }
theorem Up.trans {A : Nat → Nd} {i j k : Nat} (u : Up A i j) (v : Up A j k) : Up A i k := by
  induction u with
  | refl => exact v
  | step e _ ih => exact .step e (ih v)
theorem Up.over {A : Nat → Nd} {i j p : Nat} (u : Up A i j) (e : (A j).parent = some p) : Up A i p := u.trans (.step e (.refl _))
theorem touch_nd (σ : St) (i j : Nat) : (σ.touch i).nd j = { σ.nd j with last := ((σ.touch i).nd j).last } := touchA_frame _ _ _ _ _
theorem Good.touch {σ : St} (h : Good σ) (i : Nat) (hi : i < σ.n) : Good (σ.touch i) := by
  have e : ∀ j, ((σ.touch i).nd j).kids = (σ.nd j).kids ∧ ((σ.touch i).nd j).parent = (σ.nd j).parent ∧ ((σ.touch i).nd j).first = (σ.nd j).first ∧ ((σ.touch i).nd j).kind = (σ.nd j).kind := fun j => by
    rw [touch_nd]; exact ⟨rfl, rfl, rfl, rfl⟩
  have hl := touchA_last σ.n σ.nd i σ.line (fun j p hj hp => h.par j (by omega) p hp) hi
  have ef : ∀ j, ((σ.touch i).nd j).first = (σ.nd j).first := fun j => (e j).2.2.1
  have ek : ∀ j, ((σ.touch i).nd j).kind = (σ.nd j).kind := fun j => (e j).2.2.2
  exact
    { kid := fun a ha k hk => by rw [(e a).1] at hk; rw [(e k).2.1]; exact h.kid a ha k hk
      nodup := fun a ha => by rw [(e a).1]; exact h.nodup a ha
      par := fun j hj p hp => h.par j hj p (by rw [← (e j).2.1]; exact hp)
      firstK := fun a ha k hk => by rw [(e a).1] at hk; rw [ef, ef]; exact h.firstK a ha k hk
      sorted := fun a ha => by
        rw [(e a).1]
        refine (h.sorted a ha).imp ?_
        intro x y hxy; rw [ef, ef]; exact hxy
      lastK := fun a ha k hk => by
        rw [(e a).1] at hk
        obtain ⟨h1, h2, h3⟩ := h.kid a ha k hk
        have h4 := h.lastK a ha k hk
        by_cases u : Up σ.nd i k
        · have e1 := (hl k).1 u
          have e2 := (hl a).1 (u.over h3)
          show (touchA σ.n σ.nd (some i) σ.line k).last ≤ (touchA σ.n σ.nd (some i) σ.line a).last
          rw [e1, e2]; exact Nat.le_refl _
        · have e1 := (hl k).2 u
          show (touchA σ.n σ.nd (some i) σ.line k).last ≤ (touchA σ.n σ.nd (some i) σ.line a).last
          rw [e1]
          by_cases v : Up σ.nd i a
          · rw [(hl a).1 v]; exact (h.fl k h1).2
          · rw [(hl a).2 v]; exact h4
      fl := fun a ha => by
        rw [ef]
        have := h.fl a ha
        show (σ.nd a).first ≤ (touchA σ.n σ.nd (some i) σ.line a).last ∧ (touchA σ.n σ.nd (some i) σ.line a).last ≤ σ.line
        by_cases v : Up σ.nd i a
        · rw [(hl a).1 v]; exact ⟨by omega, Nat.le_refl _⟩
        · rw [(hl a).2 v]; exact this
      kindK := fun a ha k hk => by rw [(e a).1] at hk; rw [ek, ek]; exact h.kindK a ha k hk
      holds := fun a ha hk => by rw [(e a).1] at hk; rw [ek]; exact h.holds a ha hk
      opnH := fun a ha => by rw [ek]; exact h.opnH a ha
      path := fun j a b ha hb => by rw [ek, ek]; exact h.path j a b ha hb
      root := by rw [ek]; exact h.root
      met1 := h.met1
      metL := h.metL
      leafN := h.leafN
      opnPos := h.opnPos }
theorem Good.cut {σ : St} (h : Good σ) (m : Nat) (h1 : 1 ≤ m) (h2 : m ≤ σ.opn.length) : Good { σ with opn := σ.opn.take m, met := m } :=
  { h with
    opnH := fun i hi => h.opnH i (List.mem_of_mem_take hi)
    path := fun j a b ha hb => by
      dsimp only at ha hb
      rw [List.getElem?_take] at ha hb
      split at ha
      · split at hb
        · exact h.path j a b ha hb
        · cases hb
      · cases ha
    root := ⟨by show (σ.opn.take m)[0]? = _; rw [List.getElem?_take, if_pos (by omega)]; exact h.root.1, h.root.2⟩
    met1 := h1
    metL := by show m ≤ (σ.opn.take m).length; rw [List.length_take]; omega
    opnPos := fun hi h1 => by
      dsimp only at hi
      rw [List.getElem?_take] at hi
      split at hi
      · exact h.opnPos hi h1
      · cases hi }
theorem Good.lastIn {σ : St} (h : Good σ) : σ.opn[σ.met - 1]? = some σ.last := by
  have := h.met1; have := h.metL
  unfold St.last
  rw [List.getD_eq_getElem?_getD, List.getElem?_eq_getElem (by omega)]; rfl
theorem Good.lastLt {σ : St} (h : Good σ) : σ.last < σ.n := (h.opnH _ (List.mem_of_getElem? h.lastIn)).1
/-- The container that a new block lies in, once those that hold no such block are left. -/
theorem Good.lay0 {σ : St} (h : Good σ) (k : Nat) (h4 : k = 4 → (σ.nd σ.last).kind = 3) : Good (σ.lay0 k) ∧ (k = 4 ↔ ((σ.lay0 k).nd (σ.lay0 k).last).kind = 3) ∧ (σ.lay0 k).n = σ.n ∧ (σ.lay0 k).nd = σ.nd := by
  unfold St.lay0
  split
  · rename_i hc
    have hm : 2 ≤ σ.met := by
      have := h.met1
      by_cases e : σ.met = 1
      · have hl := h.lastIn
        rw [e] at hl
        have := h.root.1
        rw [show (1 : Nat) - 1 = 0 from rfl] at hl
        rw [hl] at this
        have e0 : σ.last = 0 := Option.some.inj this
        have := h.root.2
        rw [e0] at hc
        omega
      · omega
    have hg : Good { σ with met := σ.met - 1 } := { h with met1 := by show 1 ≤ σ.met - 1; omega, metL := by have := h.metL; show σ.met - 1 ≤ σ.opn.length; omega }
    refine ⟨hg, ?_, rfl, rfl⟩
    have hl := h.lastIn
    have hl2 := hg.lastIn
    have hl2' : σ.opn[σ.met - 1 - 1]? = some (St.last { σ with met := σ.met - 1 }) := hl2
    have hp := h.path (σ.met - 1 - 1) _ _ hl2' (by rw [show σ.met - 1 - 1 + 1 = σ.met - 1 by omega]; exact hl)
    constructor
    · intro e; exact absurd e hc.2
    · intro e
      have : (σ.nd (St.last { σ with met := σ.met - 1 })).kind = 3 := e
      have := hp.2 this
      omega
  · rename_i hc
    refine ⟨h, ⟨h4, fun e => ?_⟩, rfl, rfl⟩
    exact Classical.not_not.1 fun x => hc ⟨e, x⟩
theorem Good.lay1 {σ : St} (h : Good σ) (d : Nd) (hk : d.kids = []) (h4 : d.kind = 4 ↔ (σ.nd σ.last).kind = 3) (o : Option Nat) (hoo : o = none ∨ o = some σ.n) : Good { (σ.lay1 d).touch σ.n with leaf := o } := by
  have hlt := h.lastLt
  have hLast := (h.opnH _ (List.mem_of_getElem? h.lastIn)).2
  have a1 : ∀ j, (σ.lay1 d).nd j = if j = σ.n then { d with parent := some σ.last, first := σ.line } else if j = σ.last then { σ.nd j with kids := (σ.nd j).kids ++ [σ.n] } else σ.nd j := fun j => rfl
  have an : (σ.lay1 d).nd σ.n = { d with parent := some σ.last, first := σ.line } := by rw [a1, if_pos rfl]
  have ao : ∀ j, j < σ.n → ((σ.lay1 d).nd j).parent = (σ.nd j).parent ∧ ((σ.lay1 d).nd j).first = (σ.nd j).first ∧ ((σ.lay1 d).nd j).kind = (σ.nd j).kind ∧ ((σ.lay1 d).nd j).last = (σ.nd j).last ∧ (j ≠ σ.last → ((σ.lay1 d).nd j).kids = (σ.nd j).kids) ∧ (j = σ.last → ((σ.lay1 d).nd j).kids = (σ.nd j).kids ++ [σ.n]) := fun j hj => by
    rw [a1, if_neg (by omega)]
    split
    · rename_i e; exact ⟨rfl, rfl, rfl, rfl, fun x => absurd e x, fun _ => rfl⟩
    · rename_i e; exact ⟨rfl, rfl, rfl, rfl, fun _ => rfl, fun x => absurd x e⟩
  have hpar : ∀ j, j ≤ σ.n → ∀ p, ((σ.lay1 d).nd j).parent = some p → p < j := fun j hj p hp => by
    by_cases e : j = σ.n
    · subst e; rw [an] at hp; cases hp; exact hlt
    · rw [(ao j (by omega)).1] at hp; exact h.par j (by omega) p hp
  have hl := touchA_last (σ.n + 1) (σ.lay1 d).nd σ.n σ.line (fun j p hj hp => hpar j hj p hp) (by omega)
  generalize hτ : ((σ.lay1 d).touch σ.n) = τ
  have e : ∀ j, (τ.nd j).kids = ((σ.lay1 d).nd j).kids ∧ (τ.nd j).parent = ((σ.lay1 d).nd j).parent ∧ (τ.nd j).first = ((σ.lay1 d).nd j).first ∧ (τ.nd j).kind = ((σ.lay1 d).nd j).kind := fun j => by
    rw [← hτ, touch_nd]; exact ⟨rfl, rfl, rfl, rfl⟩
  have l1 : ∀ j, Up (σ.lay1 d).nd σ.n j → (τ.nd j).last = σ.line := fun j u => by rw [← hτ]; exact (hl j).1 u
  have l2 : ∀ j, ¬ Up (σ.lay1 d).nd σ.n j → (τ.nd j).last = ((σ.lay1 d).nd j).last := fun j u => by rw [← hτ]; exact (hl j).2 u
  have hn : τ.n = σ.n + 1 := by rw [← hτ]; rfl
  have hli : τ.line = σ.line := by rw [← hτ]; rfl
  have hop : τ.opn = σ.opn.take σ.met := by rw [← hτ]; rfl
  have hme : τ.met = σ.met := by rw [← hτ]; rfl
  have kn : (τ.nd σ.n).kids = [] := by rw [(e _).1, an]; exact hk
  have fn : (τ.nd σ.n).first = σ.line := by rw [(e _).2.2.1, an]
  have ln : (τ.nd σ.n).last = σ.line := l1 _ (.refl _)
  have dn : (τ.nd σ.n).kind = d.kind := by rw [(e _).2.2.2, an]
  have pn : (τ.nd σ.n).parent = some σ.last := by rw [(e _).2.1, an]
  have po : ∀ j, j < σ.n → (τ.nd j).parent = (σ.nd j).parent := fun j hj => by rw [(e j).2.1, (ao j hj).1]
  have fo : ∀ j, j < σ.n → (τ.nd j).first = (σ.nd j).first := fun j hj => by rw [(e j).2.2.1, (ao j hj).2.1]
  have ko : ∀ j, j < σ.n → (τ.nd j).kind = (σ.nd j).kind := fun j hj => by rw [(e j).2.2.2, (ao j hj).2.2.1]
  have lo : ∀ j, j < σ.n → (σ.nd j).last ≤ (τ.nd j).last ∧ (τ.nd j).last ≤ σ.line := fun j hj => by
    have := h.fl j hj
    by_cases u : Up (σ.lay1 d).nd σ.n j
    · rw [l1 j u]; exact ⟨this.2, Nat.le_refl _⟩
    · rw [l2 j u, (ao j hj).2.2.2.1]; exact ⟨Nat.le_refl _, this.2⟩
  have mem : ∀ i, i < σ.n → ∀ k ∈ (τ.nd i).kids, (k ∈ (σ.nd i).kids ∧ k < σ.n) ∨ (k = σ.n ∧ i = σ.last) := fun i hi k hk => by
    rw [(e i).1] at hk
    by_cases x : i = σ.last
    · rw [(ao i hi).2.2.2.2.2 x] at hk
      rcases List.mem_append.1 hk with hk | hk
      · exact .inl ⟨hk, (h.kid i hi k hk).1⟩
      · exact .inr ⟨List.mem_singleton.1 hk, x⟩
    · rw [(ao i hi).2.2.2.2.1 x] at hk; exact .inl ⟨hk, (h.kid i hi k hk).1⟩
  have sp : ∀ i, i < σ.n + 1 → i < σ.n ∨ i = σ.n := fun i hi => by omega
  exact
    { kid := fun i hi k hk => by
        rcases sp i (by rw [← hn]; exact hi) with x | x
        · show k < τ.n ∧ i < k ∧ (τ.nd k).parent = some i
          rcases mem i x k hk with ⟨m, km⟩ | ⟨rfl, rfl⟩
          · have := h.kid i x k m
            rw [po k km]; exact ⟨by omega, this.2⟩
          · exact ⟨by omega, x, pn⟩
        · subst x; change k ∈ (τ.nd σ.n).kids at hk; rw [kn] at hk; cases hk
      nodup := fun i hi => by
        show (τ.nd i).kids.Nodup
        rcases sp i (by rw [← hn]; exact hi) with x | x
        · rw [(e i).1]
          by_cases y : i = σ.last
          · rw [(ao i x).2.2.2.2.2 y, List.nodup_append]
            refine ⟨h.nodup i x, by simp, fun a ha b hb => ?_⟩
            have := (h.kid i x a ha).1
            rw [List.mem_singleton.1 hb]; omega
          · rw [(ao i x).2.2.2.2.1 y]; exact h.nodup i x
        · subst x; rw [kn]; exact List.nodup_nil
      par := fun j hj p hp => by
        change (τ.nd j).parent = some p at hp
        rw [(e j).2.1] at hp
        exact hpar j (by have := sp j (by rw [← hn]; exact hj); omega) p hp
      firstK := fun i hi k hk => by
        show (τ.nd i).first ≤ (τ.nd k).first
        rcases sp i (by rw [← hn]; exact hi) with x | x
        · rcases mem i x k hk with ⟨m, km⟩ | ⟨rfl, rfl⟩
          · rw [fo i x, fo k km]; exact h.firstK i x k m
          · rw [fo _ x, fn]; have := h.fl _ x; omega
        · subst x; change k ∈ (τ.nd σ.n).kids at hk; rw [kn] at hk; cases hk
      sorted := fun i hi => by
        show (τ.nd i).kids.Pairwise fun a b => (τ.nd a).first ≤ (τ.nd b).first
        rcases sp i (by rw [← hn]; exact hi) with x | x
        · have hold : (σ.nd i).kids.Pairwise fun a b => (τ.nd a).first ≤ (τ.nd b).first := by
            refine (h.sorted i x).imp_of_mem ?_
            intro a b ha hb hab
            rw [fo a (h.kid i x a ha).1, fo b (h.kid i x b hb).1]; exact hab
          rw [(e i).1]
          by_cases y : i = σ.last
          · rw [(ao i x).2.2.2.2.2 y, List.pairwise_append]
            refine ⟨hold, List.pairwise_singleton _ _, fun a ha b hb => ?_⟩
            have hak := (h.kid i x a ha).1
            rw [List.mem_singleton.1 hb, fo a hak, fn]; have := h.fl a hak; omega
          · rw [(ao i x).2.2.2.2.1 y]; exact hold
        · subst x; rw [kn]; exact List.Pairwise.nil
      lastK := fun i hi k hk => by
        show (τ.nd k).last ≤ (τ.nd i).last
        rcases sp i (by rw [← hn]; exact hi) with x | x
        · rcases mem i x k hk with ⟨m, km⟩ | ⟨rfl, rfl⟩
          · have hpk : ((σ.lay1 d).nd k).parent = some i := by rw [(ao k km).1]; exact (h.kid i x k m).2.2
            by_cases u : Up (σ.lay1 d).nd σ.n k
            · rw [l1 k u, l1 i (u.over hpk)]; exact Nat.le_refl _
            · rw [l2 k u, (ao k km).2.2.2.1]; exact Nat.le_trans (h.lastK i x k m) (lo i x).1
          · rw [ln, l1 _ (.step (by rw [an]) (.refl _))]; exact Nat.le_refl _
        · subst x; change k ∈ (τ.nd σ.n).kids at hk; rw [kn] at hk; cases hk
      fl := fun i hi => by
        show (τ.nd i).first ≤ (τ.nd i).last ∧ (τ.nd i).last ≤ τ.line
        rw [hli]
        rcases sp i (by rw [← hn]; exact hi) with x | x
        · rw [fo i x]; have := h.fl i x; have := lo i x; omega
        · subst x; rw [fn, ln]; omega
      kindK := fun i hi k hk => by
        show (τ.nd k).kind = 4 ↔ (τ.nd i).kind = 3
        rcases sp i (by rw [← hn]; exact hi) with x | x
        · rcases mem i x k hk with ⟨m, km⟩ | ⟨rfl, rfl⟩
          · rw [ko i x, ko k km]; exact h.kindK i x k m
          · rw [ko _ x, dn]; exact h4
        · subst x; change k ∈ (τ.nd σ.n).kids at hk; rw [kn] at hk; cases hk
      holds := fun i hi hk2 => by
        show Holds (τ.nd i).kind
        rcases sp i (by rw [← hn]; exact hi) with x | x
        · rw [ko i x]
          by_cases y : i = σ.last
          · rw [y]; exact hLast
          · refine h.holds i x ?_
            change (τ.nd i).kids ≠ [] at hk2
            rw [(e i).1, (ao i x).2.2.2.2.1 y] at hk2; exact hk2
        · subst x; exact absurd kn hk2
      opnH := fun i hi => by
        change i ∈ τ.opn at hi
        rw [hop] at hi
        have := h.opnH i (List.mem_of_mem_take hi)
        show i < τ.n ∧ Holds (τ.nd i).kind
        rw [hn, ko i this.1]; exact ⟨by omega, this.2⟩
      path := fun j a b ha hb => by
        change τ.opn[j]? = some a at ha
        change τ.opn[j + 1]? = some b at hb
        rw [hop, List.getElem?_take] at ha hb
        split at ha
        · split at hb
          · have la := (h.opnH a (List.mem_of_getElem? ha)).1
            have lb := (h.opnH b (List.mem_of_getElem? hb)).1
            show (τ.nd b).kind = 4 ↔ (τ.nd a).kind = 3
            rw [ko a la, ko b lb]; exact h.path j a b ha hb
          · cases hb
        · cases ha
      root := by
        show τ.opn[0]? = some 0 ∧ (τ.nd 0).kind = 1
        rw [hop, List.getElem?_take, if_pos (by have := h.met1; omega)]
        refine ⟨h.root.1, ?_⟩
        rw [ko 0 (h.opnH 0 (List.mem_of_getElem? h.root.1)).1]; exact h.root.2
      met1 := by show 1 ≤ τ.met; rw [hme]; exact h.met1
      metL := by show τ.met ≤ τ.opn.length; rw [hop, hme, List.length_take]; have := h.metL; omega
      leafN := fun i hi => by
        change o = some i at hi
        show 0 < i ∧ i < τ.n
        rcases hoo with x | x
        · rw [x] at hi; cases hi
        · rw [x] at hi; cases hi; rw [hn]; omega
      opnPos := fun hi h1 => by
        change τ.opn[_]? = _ at hi
        rw [hop, List.getElem?_take] at hi
        split at hi
        · exact h.opnPos hi h1
        · cases hi }
theorem lay_eq (σ : St) (d : Nd) : σ.lay d = ((σ.lay0 d.kind).lay1 d).touch σ.n := rfl
theorem Good.lay {σ : St} (h : Good σ) (d : Nd) (hk : d.kids = []) (h4 : d.kind = 4 → (σ.nd σ.last).kind = 3) (o : Option Nat) (hoo : o = none ∨ o = some σ.n) : Good { σ.lay d with leaf := o } := by
  obtain ⟨h1, h2, h3, _⟩ := h.lay0 d.kind h4
  have := h1.lay1 d hk h2 o (by rw [h3]; exact hoo)
  rw [h3] at this
  exact this
theorem Good.enter {σ : St} (h : Good σ) (d : Nd) (hk : d.kids = []) (h4 : d.kind = 4 → (σ.nd σ.last).kind = 3) (hh : Holds d.kind) : Good (σ.enter d) := by
  obtain ⟨h1, h2, h3, h5⟩ := h.lay0 d.kind h4
  have g := h.lay d hk h4 none (.inl rfl)
  have hlast := h1.lastIn
  have hlt := h1.lastLt
  rw [h3] at hlt
  have hop : (σ.lay d).opn = (σ.lay0 d.kind).opn.take (σ.lay0 d.kind).met := rfl
  have hlen : (σ.lay d).opn.length = (σ.lay0 d.kind).met := by rw [hop, List.length_take]; have := h1.metL; omega
  have hnn : (σ.lay d).n = σ.n + 1 := by show (σ.lay0 d.kind).n + 1 = _; rw [h3]
  have dn : ((σ.lay d).nd σ.n).kind = d.kind := by
    show (((σ.lay0 d.kind).lay1 d).touch σ.n |>.nd σ.n).kind = _
    rw [touch_nd]
    show (((σ.lay0 d.kind).lay1 d).nd σ.n).kind = _
    unfold St.lay1; simp [h3]
  have kl : ((σ.lay d).nd (σ.lay0 d.kind).last).kind = ((σ.lay0 d.kind).nd (σ.lay0 d.kind).last).kind := by
    show ((((σ.lay0 d.kind).lay1 d).touch σ.n).nd _).kind = _
    rw [touch_nd]
    show (((σ.lay0 d.kind).lay1 d).nd _).kind = _
    unfold St.lay1; simp [h3, Nat.ne_of_lt hlt]
  exact
    { g with
      opnH := fun i hi => by
        rcases List.mem_append.1 hi with x | x
        · exact g.opnH i x
        · rw [List.mem_singleton.1 x]
          show σ.n < (σ.lay d).n ∧ Holds ((σ.lay d).nd σ.n).kind
          rw [dn, hnn]; exact ⟨by omega, hh⟩
      path := fun j a b ha hb => by
        change ((σ.lay d).opn ++ [σ.n])[j]? = some a at ha
        change ((σ.lay d).opn ++ [σ.n])[j + 1]? = some b at hb
        show ((σ.lay d).nd b).kind = 4 ↔ ((σ.lay d).nd a).kind = 3
        by_cases x : j + 1 < (σ.lay d).opn.length
        · rw [List.getElem?_append_left (by omega)] at ha
          rw [List.getElem?_append_left x] at hb
          exact g.path j a b ha hb
        · by_cases y : j + 1 = (σ.lay d).opn.length
          · rw [List.getElem?_append_left (by omega), hop, List.getElem?_take, if_pos (by omega)] at ha
            rw [List.getElem?_append_right (by omega), show j + 1 - (σ.lay d).opn.length = 0 by omega] at hb
            have hj : j = (σ.lay0 d.kind).met - 1 := by omega
            rw [hj, hlast] at ha
            cases ha
            cases hb
            rw [dn, kl]; exact h2
          · rw [List.getElem?_append_right (by omega)] at hb
            have : 1 ≤ j + 1 - (σ.lay d).opn.length := by omega
            rw [List.getElem?_eq_none (by simp; omega)] at hb; cases hb
      root := ⟨by
        show ((σ.lay d).opn ++ [σ.n])[0]? = some 0
        rw [List.getElem?_append_left (by rw [hlen]; have := h1.met1; omega)]; exact g.root.1, g.root.2⟩
      met1 := by show 1 ≤ (σ.lay d).opn.length + 1; omega
      metL := by show (σ.lay d).opn.length + 1 ≤ ((σ.lay d).opn ++ [σ.n]).length; simp
      leafN := g.leafN
      opnPos := fun {j i} hi hj => by
        change ((σ.lay d).opn ++ [σ.n])[j]? = some i at hi
        by_cases x : j < (σ.lay d).opn.length
        · rw [List.getElem?_append_left x] at hi; exact g.opnPos hi hj
        · rw [List.getElem?_append_right (by omega)] at hi
          have := List.mem_of_getElem? hi
          rw [List.mem_singleton.1 this]
          have := (h.opnH 0 (List.mem_of_getElem? h.root.1)).1; omega }
theorem Good.op {σ τ : St} {b : Nat} (h : Good σ) (o : Op σ τ b) : Good τ := by
  cases o with
  | cur s c _ => exact { h with }
  | touch i hi => exact h.touch i hi
  | met m h1 h2 => exact { h with met1 := h1, metL := h2 }
  | leaf => exact { h with leafN := fun i e => by cases e }
  | cut =>
    exact h.cut σ.met h.met1 h.metL
  | lay d o hk h4 ho => exact h.lay d hk (fun e => absurd e h4.1) o ho
  | enter d hk _ h4 hh => exact h.enter d hk h4 hh.1
  | line i s hi =>
    refine h.same rfl rfl rfl rfl (Nat.le_refl _) (fun j => ?_) (fun j => .inl ?_)
    · show (upd σ.nd i _ j).kids = _ ∧ (upd σ.nd i _ j).parent = _ ∧ (upd σ.nd i _ j).first = _ ∧ (upd σ.nd i _ j).last = _
      unfold upd; split
      · rename_i e; subst e; exact ⟨rfl, rfl, rfl, rfl⟩
      · exact ⟨rfl, rfl, rfl, rfl⟩
    · show (upd σ.nd i _ j).kind = _
      unfold upd; split
      · rename_i e; subst e; rfl
      · rfl
  | head i N hi hk =>
    refine h.same rfl rfl rfl rfl (Nat.le_refl _) (fun j => ?_) (fun j => ?_)
    · show (upd σ.nd i _ j).kids = _ ∧ (upd σ.nd i _ j).parent = _ ∧ (upd σ.nd i _ j).first = _ ∧ (upd σ.nd i _ j).last = _
      unfold upd; split
      · rename_i e; subst e; exact ⟨rfl, rfl, rfl, rfl⟩
      · exact ⟨rfl, rfl, rfl, rfl⟩
    · show (upd σ.nd i _ j).kind = _ ∨ _ ∧ (upd σ.nd i _ j).kind = _
      unfold upd; split
      · rename_i e; subst e; exact .inr ⟨hk, rfl⟩
      · exact .inl rfl
  | began b => exact { h with }
theorem Good.ops {σ τ : St} {b : Nat} (o : Ops σ τ b) : Good σ → Good τ := by
  induction o with
  | nil => exact id
  | snoc _ o ih => exact fun h => (ih h).op o
theorem Good.init : Good St.init.line0 :=
  { kid := fun i hi k hk => by have : i = 0 := by have : i < 1 := hi; omega
                               subst this; cases hk
    nodup := fun i hi => by have : i = 0 := by have : i < 1 := hi; omega
                            subst this; exact List.nodup_nil
    par := fun i hi p hp => by have : i = 0 := by have : i < 1 := hi; omega
                               subst this; cases hp
    firstK := fun i hi k hk => by have : i = 0 := by have : i < 1 := hi; omega
                                  subst this; cases hk
    sorted := fun i hi => by have : i = 0 := by have : i < 1 := hi; omega
                             subst this; exact List.Pairwise.nil
    lastK := fun i hi k hk => by have : i = 0 := by have : i < 1 := hi; omega
                                 subst this; cases hk
    fl := fun i hi => by have : i = 0 := by have : i < 1 := hi; omega
                         subst this; exact ⟨Nat.le_refl _, Nat.le_refl _⟩
    kindK := fun i hi k hk => by have : i = 0 := by have : i < 1 := hi; omega
                                 subst this; cases hk
    holds := fun i hi hk => by have : i = 0 := by have : i < 1 := hi; omega
                               subst this; exact absurd rfl hk
    opnH := fun i hi => by have : i = 0 := by simpa [St.init, St.line0] using hi
                           subst this; exact ⟨Nat.one_pos, .inl rfl⟩
    path := fun j a b ha hb => by cases hb
    root := ⟨rfl, rfl⟩, met1 := Nat.le_refl _, metL := Nat.le_refl _, leafN := fun i e => by cases e
    opnPos := fun {j i} hi hj => by
      have : ([0] : List Nat)[j]? = some i := hi
      rw [List.getElem?_eq_none (by simp; omega)] at this; cases this }
end Bk
end Go.Proofs.YtehmcahdjldhbaaGreatDoor
end
section
/- Package block in plain Lean: each line is a row of small deeds, by which few bytes are laid. -/
set_option linter.unusedVariables false
set_option linter.unusedSimpArgs false
set_option maxRecDepth 100000
namespace Go.Proofs.YtehmcahdjldhbaaGreatDoor
open Wk
namespace Bk
theorem trim_len (l : Bs) : (Sc.trim l).length ≤ l.length := by
  unfold Sc.trim Lib.trimS Lib.trimLeftS Lib.trimRightS
  have h1 := Sc.len_dropWhile (p := fun b => ([32, 9] : List UInt8).contains b) (l.reverse.dropWhile (fun b => ([32, 9] : List UInt8).contains b)).reverse
  have h2 := Sc.len_dropWhile (p := fun b => ([32, 9] : List UInt8).contains b) l.reverse
  simp only [List.length_reverse] at h1 h2
  exact Nat.le_trans h1 h2
theorem trimR_len (l cs : Bs) : (Sc.trimR l cs).length ≤ l.length := by
  unfold Sc.trimR Lib.trimRightS
  have h2 := Sc.len_dropWhile (p := fun b => cs.contains b) l.reverse
  simp only [List.length_reverse] at h2
  simpa using h2
theorem atx_len (l : Bs) : (Sc.atx l).2.length ≤ l.length := by
  unfold Sc.atx
  split
  · exact Nat.zero_le _
  · dsimp only
    have h1 := trim_len (l.drop (Sc.run 35 l))
    have h2 := trimR_len (Sc.trim (l.drop (Sc.run 35 l))) [35]
    have h3 := trimR_len (Sc.trimR (Sc.trim (l.drop (Sc.run 35 l))) [35]) [32, 9]
    simp only [List.length_drop] at h1
    split <;> omega
theorem trimLeft_len (l : Bs) : (trimLeft l).length ≤ l.length := by unfold trimLeft Lib.trimLeftS; exact Sc.len_dropWhile _
theorem join_one (s : Bs) : (joinEnd [s]).length = s.length + 1 := by simp [joinEnd]
theorem layLeaf_eq (σ : St) (d : Nd) : σ.layLeaf d = { σ.lay d with leaf := some σ.n } := rfl
theorem lay_none (σ : St) (d : Nd) : σ.lay d = { σ.lay d with leaf := none } := by
  unfold St.lay St.touch St.lay1; rfl
namespace Ops
variable {σ : St}
theorem add (σ : St) (h : Good σ) (s : Bs) (P : Nat) (hs : s.length ≤ P) : ∃ b, Ops σ (σ.add s) b ∧ b ≤ P + 1 := by
  unfold St.add
  cases hl : σ.leaf with
  | none => exact ⟨0, .nil σ, Nat.zero_le _⟩
  | some i =>
    have hi := (h.leafN i hl).2
    have o := (Op.line σ i s hi).one
    dsimp only
    split
    · exact ⟨_, o, by omega⟩
    · exact ⟨_, o.snoc (.touch _ i hi), by omega⟩
theorem layLeaf (σ : St) (d : Nd) (hk : d.kids = []) (h4 : d.kind ≠ 4 ∧ d.kind ≠ 1) : Ops σ (σ.layLeaf d) (joinEnd d.lines).length := (Op.lay σ d (some σ.n) hk h4 (.inr rfl)).one
theorem lay (σ : St) (d : Nd) (hk : d.kids = []) (h4 : d.kind ≠ 4 ∧ d.kind ≠ 1) : Ops σ (σ.lay d) (joinEnd d.lines).length := by
  rw [lay_none]; exact (Op.lay σ d none hk h4 (.inl rfl)).one
theorem code (h : Good σ) : ∃ b, Ops σ σ.code b ∧ b ≤ phi σ.s + σ.col + 1 := by
  unfold St.code
  dsimp only
  split
  · exact add σ h _ _ (without_len σ 4)
  · have o := layLeaf σ { kind := 5 } rfl (by decide)
    obtain ⟨b, ob, hb⟩ := add _ (h.ops o) ((σ.layLeaf { kind := 5 }).without 4) _ (without_len _ 4)
    have := o.near
    exact ⟨_, o.trans ob, by show 0 + b ≤ _; omega⟩
theorem head (h : Good σ) (F : Bs → List Ref × Bs) (level : Nat) : Ops σ (σ.head F level) 0 := by
  unfold St.head
  split
  · rename_i hq
    obtain ⟨i, hl, hk, _⟩ := headOk_leaf hq
    rw [hl]
    dsimp only
    have hi := (h.leafN i hl).2
    have hkt : ((σ.touch i).nd i).kind = 7 := by
      show (touchA σ.n σ.nd (some i) σ.line i).kind = 7
      rw [touchA_frame]; exact hk
    exact (((Op.touch σ i hi).one).snoc (.head _ i level hi hkt)).snoc (.leaf _)
  · exact .nil σ
theorem begins (h : Good σ) (F : Bs → List Ref × Bs) (U : Bs → Bs) (w : Nat) : ∃ b, Ops σ (σ.begins F U w σ.t).2 b ∧ b ≤ phi σ.s + σ.col + 1 := by
  unfold St.begins
  have ht := t_len σ
  have hs := s_len σ
  split
  · have := atx_len σ.t
    exact ⟨_, lay σ _ rfl (show (8 : Nat) ≠ 4 ∧ (8 : Nat) ≠ 1 by decide), by show (joinEnd [_]).length ≤ _; rw [join_one]; omega⟩
  · split
    · exact ⟨_, layLeaf σ _ rfl (show (5 : Nat) ≠ 4 ∧ (5 : Nat) ≠ 1 by decide), by show 0 ≤ _; omega⟩
    · split
      · dsimp only
        split
        · exact ⟨_, (layLeaf σ _ rfl (show (6 : Nat) ≠ 4 ∧ (6 : Nat) ≠ 1 by decide)).snoc (.leaf _), by show (joinEnd [_]).length + 0 ≤ _; rw [join_one]; omega⟩
        · exact ⟨_, layLeaf σ _ rfl (show (6 : Nat) ≠ 4 ∧ (6 : Nat) ≠ 1 by decide), by show (joinEnd [_]).length ≤ _; rw [join_one]; omega⟩
      · split
        · exact ⟨0, head h F _, Nat.zero_le _⟩
        · split
          · exact ⟨_, lay σ _ rfl (show (9 : Nat) ≠ 4 ∧ (9 : Nat) ≠ 1 by decide), by show 0 ≤ _; omega⟩
          · exact ⟨0, .nil σ, Nat.zero_le _⟩
theorem note (σ : St) (b : Bool) : Ops σ (σ.note b σ.t).2 0 := by
  unfold St.note
  split
  · exact .nil σ
  · exact ((past σ _ (label_le σ.t)).snoc (.enter _ _ rfl rfl (by intro e; cases e) ⟨(.inr (.inr (.inr (.inr rfl)))), fun e => by cases e⟩)).trans (skipped _ _)
theorem enter_last (σ : St) (d : Nd) : (σ.enter d).last = σ.n ∧ ((σ.enter d).nd σ.n).kind = d.kind := by
  constructor
  · show ((σ.lay d).opn ++ [σ.n]).getD ((σ.lay d).opn.length + 1 - 1) 0 = σ.n
    simp
  · show (touchA ((σ.lay0 d.kind).lay1 d).n ((σ.lay0 d.kind).lay1 d).nd (some σ.n) _ σ.n).kind = _
    rw [touchA_frame]
    have : (σ.lay0 d.kind).n = σ.n := by unfold St.lay0; split <;> rfl
    show (((σ.lay0 d.kind).lay1 d).nd σ.n).kind = _
    unfold St.lay1
    simp [this]
theorem item (h : Good σ) : Ops σ (σ.item σ.w σ.t).2 0 := by
  have hml := marker_le σ.t
  unfold St.item
  dsimp only
  split
  · exact .nil σ
  · split
    · exact .nil σ
    · have hp := (past σ _ hml).trans (skipped _ (σ.itemGap σ.w σ.t (marker σ.t).2.2.1))
      generalize (σ.past (marker σ.t).2.2.1).skipped (σ.itemGap σ.w σ.t (marker σ.t).2.2.1) = τ at *
      split
      · have e1 := enter_last τ { kind := 3, N := (marker σ.t).1, M := (marker σ.t).2.1.toNat }
        refine (hp.snoc (.enter _ _ rfl rfl (fun e => by cases e) ⟨(.inr (.inr (.inl rfl))), fun e => by cases e⟩)).snoc (.enter _ _ rfl rfl (fun _ => ?_) ⟨(.inr (.inr (.inr (.inl rfl)))), fun e => by cases e⟩)
        rw [e1.1, e1.2]
      · rename_i hq
        refine hp.snoc (.enter _ _ rfl rfl (fun _ => ?_) ⟨(.inr (.inr (.inr (.inl rfl)))), fun e => by cases e⟩)
        exact Classical.not_not.1 fun e => hq (.inl e)
theorem starts (F : Bs → List Ref × Bs) (U : Bs → Bs) (notes : Bool) : ∀ (k : Nat) (σ : St), Good σ →
    ∃ b, Ops σ (σ.starts F U notes k).2 b ∧ ((σ.starts F U notes k).1 = true → b ≤ phi σ.s + σ.col + 1) ∧ ((σ.starts F U notes k).1 = false → b = 0)
  | 0, σ, h => ⟨0, .nil σ, fun _ => Nat.zero_le _, fun _ => rfl⟩
  | k + 1, σ, h => by
    have go : ∀ τ, Ops σ τ 0 → (∃ b, Ops τ (τ.starts F U notes k).2 b ∧ ((τ.starts F U notes k).1 = true → b ≤ phi τ.s + τ.col + 1) ∧ ((τ.starts F U notes k).1 = false → b = 0)) →
        ∃ b, Ops σ (τ.starts F U notes k).2 b ∧ ((τ.starts F U notes k).1 = true → b ≤ phi σ.s + σ.col + 1) ∧ ((τ.starts F U notes k).1 = false → b = 0) := by
      rintro τ o ⟨b, ob, h1, h2⟩
      have := o.near
      exact ⟨_, o.trans ob, fun e => by have := h1 e; omega, fun e => by have := h2 e; omega⟩
    have no : ∃ b, Ops σ σ b ∧ (false = true → b ≤ phi σ.s + σ.col + 1) ∧ (false = false → b = 0) := ⟨0, .nil σ, fun e => (by cases e), fun _ => rfl⟩
    rw [starts_step]
    split
    · exact no
    · split
      · split
        · exact no
        · obtain ⟨b, ob, hb⟩ := code h
          exact ⟨b, ob, fun _ => hb, fun e => by cases e⟩
      · split
        · have o := (quoted σ).snoc (.enter _ { kind := 2 } rfl rfl (fun e => by cases e) ⟨(.inr (.inl rfl)), fun e => by cases e⟩)
          exact go _ o (starts F U notes k _ (h.ops o))
        · split
          · obtain ⟨b, ob, hb⟩ := begins h F U σ.w
            exact ⟨b, ob, fun _ => hb, fun e => by cases e⟩
          · split
            · exact go _ (note σ _) (starts F U notes k _ (h.ops (note σ _)))
            · split
              · exact go _ (item h) (starts F U notes k _ (h.ops (item h)))
              · exact no
theorem text (h : Good σ) : ∃ b, Ops σ σ.text b ∧ b ≤ phi σ.s + σ.col + 1 := by
  have hs := s_len σ
  rw [text_eq]
  split
  · split
    · exact add σ h _ _ (without_len σ 4)
    · unfold St.blankEnd
      refine ⟨0 + 0, ?_, Nat.zero_le _⟩
      split
      · exact ((Op.leaf σ).one).snoc (.cut _)
      · exact (Op.cut σ).one
  · unfold St.para
    split
    · exact add σ h _ _ (Nat.le_trans (trimLeft_len _) hs)
    · have o := layLeaf σ { kind := 7 } rfl (by decide)
      obtain ⟨b, ob, hb⟩ := add _ (h.ops o) (trimLeft (σ.layLeaf { kind := 7 }).s) _ (Nat.le_trans (trimLeft_len _) (s_len _))
      have := o.near
      exact ⟨_, o.trans ob, by show 0 + b ≤ _; omega⟩
theorem takes (h : Good σ) : ∃ b, Ops σ σ.takes.2 b ∧ (σ.takes.1 = true → b ≤ phi σ.s + σ.col + 1) ∧ (σ.takes.1 = false → b = 0) := by
  have no : ∃ b, Ops σ σ b ∧ (false = true → b ≤ phi σ.s + σ.col + 1) ∧ (false = false → b = 0) := ⟨0, .nil σ, fun e => (by cases e), fun _ => rfl⟩
  have hs := s_len σ
  unfold St.takes
  split
  · cases hl : σ.leaf with
    | none => exact no
    | some i =>
      have hi := (h.leafN i hl).2
      dsimp only
      split
      · unfold St.fenced
        split
        · exact ⟨0, ((Op.touch σ i hi).one).snoc (.leaf _), fun _ => Nat.zero_le _, fun e => by cases e⟩
        · obtain ⟨b, ob, hb⟩ := add σ h _ _ (without_len σ (σ.nd i).fi)
          exact ⟨b, ob, fun _ => hb, fun e => by cases e⟩
      · split
        · unfold St.html
          cases hk : σ.htmlOk i with
          | true =>
            obtain ⟨b, ob, hb⟩ := add σ h σ.s _ hs
            simp only [if_true]
            split
            · exact ⟨_, ob.snoc (.leaf _), fun _ => hb, fun e => by cases e⟩
            · exact ⟨b, ob, fun _ => hb, fun e => by cases e⟩
          | false => exact ⟨0, (Op.leaf σ).one, fun e => (by cases e), fun _ => rfl⟩
        · exact no
  · exact no
theorem meets : ∀ (k : Nat) (σ : St), Good σ → Ops σ (σ.meets k) 0
  | 0, σ, h => .nil σ
  | k + 1, σ, h => by
    rw [St.meets]
    split
    · rename_i hlt
      have hi : σ.opn.getD σ.met 0 < σ.n := by
        refine (h.opnH _ ?_).1
        rw [List.getD_eq_getElem?_getD, List.getElem?_eq_getElem hlt]
        exact List.getElem_mem hlt
      split
      · have o := (meet σ _ hi).snoc (.met (σ.meet (σ.opn.getD σ.met 0)) (σ.met + 1) (by omega) (by rw [(meet_keeps σ _).2.1]; omega))
        exact o.trans (meets k _ (h.ops o))
      · exact meet σ _ hi
    · exact .nil σ
theorem line0 (h : Good σ) : Ops σ σ.line0 0 :=
  ((Op.met σ 1 (Nat.le_refl _) (Nat.le_trans h.met1 h.metL)).one).snoc (.began _ false)
/-- A line: few bytes are laid. -/
theorem one (h0 : Good σ.line0) (F : Bs → List Ref × Bs) (U : Bs → Bs) (nt : Bool) : ∃ b, Ops σ.line0 (σ.one F U nt) b ∧ b ≤ phi σ.s + σ.col + 1 := by
  have o1 := meets σ.opn.length σ.line0 h0
  have h1 := h0.ops o1
  obtain ⟨b2, o2, t2, f2⟩ := takes h1
  have h2 := h1.ops o2
  have n1 : phi (σ.line0.meets σ.opn.length).s + (σ.line0.meets σ.opn.length).col ≤ phi σ.s + σ.col := o1.near.1
  have n2 := o2.near
  rw [one_eq]
  split
  · rename_i e; have := t2 e; exact ⟨_, o1.trans o2, by omega⟩
  · rename_i e
    have e2 := f2 (by simpa using e)
    obtain ⟨b3, o3, t3, f3⟩ := starts F U nt ((σ.line0.meets σ.opn.length).takes.2.s.length + 1) _ h2
    have n3 := o3.near
    split
    · rename_i e; have := t3 e; exact ⟨_, (o1.trans o2).trans o3, by omega⟩
    · rename_i e
      have e3 := f3 (by simpa using e)
      obtain ⟨b4, o4, h4⟩ := text (h2.ops o3)
      exact ⟨_, ((o1.trans o2).trans o3).trans o4, by omega⟩
theorem oneGood (h0 : Good σ.line0) (F : Bs → List Ref × Bs) (U : Bs → Bs) (nt : Bool) : Good (σ.one F U nt) := by
  obtain ⟨b, o, _⟩ := one h0 F U nt
  exact h0.ops o
end Ops
end Bk
end Go.Proofs.YtehmcahdjldhbaaGreatDoor
end
section
/- Package block: which nodes lie under which; how many definitions there can be. -/
open Go Go.RowKit Go.Proofs.YtehmcahdjldhbaaGreatDoorW.PrintWords
set_option linter.unusedVariables false
set_option linter.unusedSimpArgs false
set_option maxRecDepth 100000
namespace Go.Proofs.YtehmcahdjldhbaaGreatDoor
open Wk
namespace Bk
/-- A node under another. -/
inductive Desc (A : Nat → Nd) : Nat → Nat → Prop
  | kid {i k : Nat} : k ∈ (A i).kids → Desc A i k
  | deep {i k j : Nat} : k ∈ (A i).kids → Desc A k j → Desc A i j
/-- The nodes are a tree: each has one parent, laid ahead of it. -/
structure TreeOk (n : Nat) (A : Nat → Nd) : Prop where
  kid : ∀ i, i < n → ∀ k ∈ (A i).kids, k < n ∧ i < k ∧ (A k).parent = some i
  nodup : ∀ i, i < n → (A i).kids.Nodup
namespace TreeOk
variable {n : Nat} {A : Nat → Nd}
theorem lt (h : TreeOk n A) {i j : Nat} (hd : Desc A i j) : i < n → i < j ∧ j < n := by
  induction hd with
  | kid hk => intro hi; exact ⟨(h.kid _ hi _ hk).2.1, (h.kid _ hi _ hk).1⟩
  | deep hk hd ih =>
    intro hi
    obtain ⟨h1, h2, _⟩ := h.kid _ hi _ hk
    have := ih h1
    omega
theorem up (h : TreeOk n A) {i j : Nat} (hd : Desc A i j) : i < n → (A j).parent = some i ∨ ∃ p, (A j).parent = some p ∧ Desc A i p := by
  induction hd with
  | kid hk => intro hi; exact .inl (h.kid _ hi _ hk).2.2
  | deep hk hd ih =>
    intro hi
    obtain ⟨h1, h2, _⟩ := h.kid _ hi _ hk
    rcases ih h1 with e | ⟨p, e, hp⟩
    · exact .inr ⟨_, e, .kid hk⟩
    · exact .inr ⟨p, e, .deep hk hp⟩
def AncS (A : Nat → Nd) (k j : Nat) : Prop := k = j ∨ Desc A k j
theorem apartK (h : TreeOk n A) {i k1 k2 : Nat} (hi : i < n) (h1 : k1 ∈ (A i).kids) (h2 : k2 ∈ (A i).kids) (hne : k1 ≠ k2) : ∀ j, AncS A k1 j → AncS A k2 j → False := by
  obtain ⟨a1, b1, c1⟩ := h.kid i hi k1 h1
  obtain ⟨a2, b2, c2⟩ := h.kid i hi k2 h2
  intro j
  induction j using Nat.strongRecOn with
  | ind j ih =>
    intro q1 q2
    rcases q1 with rfl | q1
    · rcases q2 with e | q2
      · exact hne e.symm
      · rcases h.up q2 a2 with e | ⟨p, e, hp⟩
        · rw [c1] at e; cases e; omega
        · rw [c1] at e; cases e
          have := (h.lt hp a2).1; omega
    · rcases q2 with rfl | q2
      · rcases h.up q1 a1 with e | ⟨p, e, hp⟩
        · rw [c2] at e; cases e; omega
        · rw [c2] at e; cases e
          have := (h.lt hp a1).1; omega
      · have l1 := (h.lt q1 a1).1
        have l2 := (h.lt q2 a2).1
        rcases h.up q1 a1 with e1 | ⟨p1, e1, hp1⟩ <;> rcases h.up q2 a2 with e2 | ⟨p2, e2, hp2⟩
        · rw [e1] at e2; cases e2; exact hne rfl
        · rw [e1] at e2; cases e2
          exact ih k1 l1 (.inl rfl) (.inr hp2)
        · rw [e1] at e2; cases e2
          exact ih k2 l2 (.inr hp1) (.inl rfl)
        · rw [e1] at e2; cases e2
          have hp := (h.lt hp1 a1).1
          have : p1 < j := by
            rcases h.up q1 a1 with e3 | ⟨p3, e3, hp3⟩
            · rw [e1] at e3; cases e3; exact l1
            · rw [e1] at e3; cases e3
              exact lt_of_par h a1 q1 e1
          exact ih p1 this (.inr hp1) (.inr hp2)
where
  lt_of_par (h : TreeOk n A) {k j p : Nat} (hk : k < n) (hd : Desc A k j) (e : (A j).parent = some p) : p < j := by
    induction hd with
    | kid hm => have := h.kid _ hk _ hm; rw [this.2.2] at e; cases e; exact this.2.1
    | deep hm hd ih => exact ih (h.kid _ hk _ hm).1 e
end TreeOk
open Classical in
/-- The sum of c over the numbers of V below n. -/
noncomputable def wsum (c : Nat → Nat) (V : Nat → Prop) : Nat → Nat
  | 0 => 0
  | n + 1 => wsum c V n + if V n then c n else 0
theorem wsum_mono (c : Nat → Nat) {V V' : Nat → Prop} (h : ∀ j, V j → V' j) : ∀ n, wsum c V n ≤ wsum c V' n
  | 0 => Nat.le_refl _
  | n + 1 => by
    have := wsum_mono c h n
    unfold wsum
    by_cases hv : V n
    · rw [if_pos hv, if_pos (h n hv)]; omega
    · rw [if_neg hv]; omega
theorem wsum_add (c : Nat → Nat) (V : Nat → Prop) (k : Nat) (hk : ¬ V k) : ∀ n, k < n → wsum c V n + c k = wsum c (fun j => V j ∨ j = k) n
  | n + 1, hn => by
    unfold wsum
    by_cases e : k = n
    · subst e
      rw [if_neg hk, if_pos (.inr rfl)]
      have : wsum c V k = wsum c (fun j => V j ∨ j = k) k := wsum_same c V k k (Nat.le_refl _)
      omega
    · have := wsum_add c V k hk n (by omega)
      by_cases hv : V n
      · rw [if_pos hv, if_pos (.inl hv)]; omega
      · rw [if_neg hv, if_neg (by rintro (h | h); exact hv h; exact e h.symm)]; omega
where
  wsum_same (c : Nat → Nat) (V : Nat → Prop) (k : Nat) : ∀ n, n ≤ k → wsum c V n = wsum c (fun j => V j ∨ j = k) n
    | 0, _ => rfl
    | n + 1, h => by
      unfold wsum
      rw [wsum_same c V k n (by omega)]
      by_cases hv : V n
      · rw [if_pos hv, if_pos (.inl hv)]
      · rw [if_neg hv, if_neg (by rintro (h1 | h1); exact hv h1; omega)]
theorem wsum_none (c : Nat → Nat) (hc : ∀ j, c j = 0) (V : Nat → Prop) : ∀ n, wsum c V n = 0
  | 0 => rfl
  | n + 1 => by unfold wsum; rw [wsum_none c hc V n, hc]; split <;> rfl
theorem addRefs_le (l more : List Ref) : (addRefs l more).length ≤ l.length + more.length := by
  induction more generalizing l with
  | nil => exact Nat.le_refl _
  | cons r m ih =>
    rw [addRefs_cons]
    refine Nat.le_trans (ih _) ?_
    split
    · simp
    · simp; omega

/-! ### Blocks as the printed kind -/
mutual
def toS : Tr → S32
  | .mk kind S T N M flag first last kids => ⟨kind, mk S, mk T, N, M, flag, first, last, toSs kids⟩
def toSs : List Tr → List S32
  | [] => []
  | t :: r => toS t :: toSs r
end
theorem toSs_map : ∀ l : List Tr, toSs l = l.map toS
  | [] => rfl
  | t :: r => by rw [toSs, toSs_map r]; rfl
theorem toSs_append (a b : List Tr) : toSs (a ++ b) = toSs a ++ toSs b := by rw [toSs_map, toSs_map, toSs_map, List.map_append]
theorem toSs_length (a : List Tr) : (toSs a).length = a.length := by rw [toSs_map, List.length_map]
def TBk : Nat := 32
theorem R_but {P : Nat → Prop} {w w1 : World} {base : Nat} {ok : Nat → Prop} {v : Value} {xs : List S32} (h : k32.R TBk w base ok v xs) (hb : But2 P w w1) (hP : ∀ k cs, P k → w.heap[k]? = some (.cells cs TBk (0, 0)) → False) : k32.R TBk w1 base ok v xs := by
  refine Kd.R_mono (Kd.R_move (Kd.R_bound h) fun k hk => ?_) (fun _ hk => hk.1)
  obtain ⟨_, _, hlt, q, hq, cs, hc⟩ := hk
  have hq2 : q = TBk := by
    rcases List.mem_cons.1 hq with e | e
    · exact e
    · exact List.mem_singleton.1 e
  subst hq2
  exact hb.keep k hlt fun hp => hP k cs hp hc
end Bk
end Go.Proofs.YtehmcahdjldhbaaGreatDoor
end
