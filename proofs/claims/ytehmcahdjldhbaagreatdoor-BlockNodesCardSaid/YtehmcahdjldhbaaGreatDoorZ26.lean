/- Parts of this session's proof, one behind the other: I3 I4 I5. -/
import Derived.Test.YtehmcahdjldhbaaGreatDoorZ15
section
/- Law 11: what inside says of parsed blocks. -/
open Go Go.RowKit
set_option linter.unusedVariables false
set_option linter.unusedSimpArgs false
set_option maxRecDepth 100000
namespace Go.Proofs.YtehmcahdjldhbaaGreatDoor
open Wk
namespace Bk
def holdsB (k : Nat) : Prop := k = 2 ∨ k = 3 ∨ k = 4 ∨ k = 13
/-- inside, as a law of trees. -/
inductive InsL : Nat → Nat → Bool → List Tr → Prop
  | nil (a hi : Nat) (b : Bool) : InsL a hi b []
  | cons {a hi : Nat} {b : Bool} {kind : Nat} {S T : Bs} {N M : Nat} {flag : Bool} {f l : Nat} {kids r : List Tr} (h1 : a ≤ f) (h2 : f ≤ l) (h3 : l ≤ hi) (h4 : kind = 4 ↔ b = true) (h5 : holdsB kind ∨ kids = []) (hk : InsL f l (decide (kind = 3)) kids) (hr : InsL f hi b r) (hz : r.length < 1000000000000) : InsL a hi b (Tr.mk kind S T N M flag f l kids :: r)
theorem InsL.lower {a a' hi : Nat} {b : Bool} {l : List Tr} (h : InsL a hi b l) (ha : a' ≤ a) : InsL a' hi b l := by
  cases h with
  | nil => exact .nil _ _ _
  | cons h1 h2 h3 h4 h5 hk hr hz => exact .cons (Nat.le_trans ha h1) h2 h3 h4 h5 hk hr hz
theorem InsL.upper {a hi hi' : Nat} {b : Bool} {l : List Tr} (h : InsL a hi b l) (ha : hi ≤ hi') : InsL a hi' b l := by
  induction h with
  | nil => exact .nil _ _ _
  | cons h1 h2 h3 h4 h5 hk hr hz _ ih => exact .cons h1 h2 (Nat.le_trans h3 ha) h4 h5 hk (ih ha) hz
section
variable {F : Bs → List Ref × Bs} {A : Nat → Nd} {n : Nat}
structure Lies (A : Nat → Nd) (n : Nat) : Prop where
  kid : ∀ i, i < n → ∀ k ∈ (A i).kids, k < n
  kidL : ∀ i, i < n → (A i).kids.length ≤ 100000000000
  firstK : ∀ i, i < n → ∀ k ∈ (A i).kids, (A i).first ≤ (A k).first
  sorted : ∀ i, i < n → (A i).kids.Pairwise fun a b => (A a).first ≤ (A b).first
  lastK : ∀ i, i < n → ∀ k ∈ (A i).kids, (A k).last ≤ (A i).last
  fl : ∀ i, i < n → (A i).first ≤ (A i).last
  kindK : ∀ i, i < n → ∀ k ∈ (A i).kids, ((A k).kind = 4 ↔ (A i).kind = 3)
  holds : ∀ i, i < n → ∀ k ∈ (A i).kids, (A k).kids ≠ [] → holdsB (A k).kind
theorem fold_ins (G : Lies A n) (i : Nat) (hi : i < n) (rec : Nat → List Ref → List Tr × List Ref) (hrec : ∀ j defs, j < n → InsL (A j).first (A j).last (decide ((A j).kind = 3)) (rec j defs).1) (hnil : ∀ j defs, (A j).kids = [] → (rec j defs).1 = []) :
    ∀ (ks : List Nat) (a : Nat) (acc : List Tr × List Ref), (∀ j ∈ ks, j ∈ (A i).kids) → ks.Pairwise (fun a b => (A a).first ≤ (A b).first) → (∀ j ∈ ks, a ≤ (A j).first) → ks.length ≤ 100000000000 →
      ∃ ts, (ks.foldl (tell F A rec) acc).1 = acc.1 ++ ts ∧ ts.length ≤ ks.length ∧ InsL a (A i).last (decide ((A i).kind = 3)) ts
  | [], a, acc, _, _, _, _ => ⟨[], by rw [List.append_nil]; rfl, Nat.le_refl _, .nil _ _ _⟩
  | j :: ks, a, acc, hk, hs, ha, hL => by
    rw [List.length_cons] at hL
    have hj := hk j (List.mem_cons_self ..)
    have hs' := List.pairwise_cons.1 hs
    rw [List.foldl_cons]
    by_cases q : (content F A j acc.2).2.2.2 = true
    · obtain ⟨ts, e, hts, I⟩ := fold_ins G i hi rec hrec hnil ks (A j).first (tell F A rec acc j) (fun x hx => hk x (List.mem_cons_of_mem _ hx)) hs'.2 (fun x hx => hs'.1 x hx) (by omega)
      have e2 : (tell F A rec acc j).1 = acc.1 ++ [Tr.mk (A j).kind (content F A j acc.2).1 (A j).T (A j).N (A j).M (content F A j acc.2).2.1 (A j).first (A j).last (rec j (content F A j acc.2).2.2.1).1] := by
        unfold tell; rw [if_pos q]
      refine ⟨_ :: ts, by rw [e, e2, List.append_assoc]; rfl, by rw [List.length_cons, List.length_cons]; omega, .cons (ha j (List.mem_cons_self ..)) (G.fl j (G.kid i hi j hj)) (G.lastK i hi j hj) ?_ ?_ (hrec j _ (G.kid i hi j hj)) I (by omega)⟩
      · rw [decide_eq_true_eq]; exact G.kindK i hi j hj
      · by_cases z : (A j).kids = []
        · exact .inr (hnil j _ z)
        · exact .inl (G.holds i hi j hj z)
    · obtain ⟨ts, e, hts, I⟩ := fold_ins G i hi rec hrec hnil ks a (tell F A rec acc j) (fun x hx => hk x (List.mem_cons_of_mem _ hx)) hs'.2 (fun x hx => ha x (List.mem_cons_of_mem _ hx)) (by omega)
      have e2 : (tell F A rec acc j).1 = acc.1 := by unfold tell; rw [if_neg q]
      exact ⟨ts, by rw [e, e2], by rw [List.length_cons]; omega, I⟩
theorem blocks_ins (G : Lies A n) : ∀ (k i : Nat) (defs : List Ref), i < n → InsL (A i).first (A i).last (decide ((A i).kind = 3)) (blocks F A k i defs).1
  | 0, i, defs, _ => .nil _ _ _
  | k + 1, i, defs, hi => by
    obtain ⟨ts, e, _, I⟩ := fold_ins (F := F) G i hi (blocks F A k) (fun j d hj => blocks_ins G k j d hj) (fun j d hj => by
      cases k with
      | zero => rfl
      | succ k => unfold blocks; rw [hj]; rfl) (A i).kids (A i).first ([], defs) (fun j hj => hj) (G.sorted i hi) (fun j hj => G.firstK i hi j hj) (G.kidL i hi)
    have : (blocks F A (k + 1) i defs).1 = ts := by
      show ((A i).kids.foldl (tell F A (blocks F A k)) ([], defs)).1 = ts
      rw [e]; rfl
    rw [this]; exact I
end
end Bk
end Go.Proofs.YtehmcahdjldhbaaGreatDoor
end
section
/- Law 11: parsed blocks lie inside one another. -/
open Go Go.RowKit
set_option linter.unusedVariables false
set_option linter.unusedSimpArgs false
set_option maxRecDepth 100000
namespace Go.Proofs.YtehmcahdjldhbaaGreatDoor
open Wk
namespace Bk
def NoDoc (σ : St) : Prop := ∀ i, 0 < i → i < σ.n → (σ.nd i).kind ≠ 1
theorem lay_kind (σ : St) (d : Nd) : (σ.lay d).n = σ.n + 1 ∧ ((σ.lay d).nd σ.n).kind = d.kind ∧ ∀ j, j < σ.n → ((σ.lay d).nd j).kind = (σ.nd j).kind := by
  have e : ∀ k, (σ.lay0 k).n = σ.n ∧ (σ.lay0 k).nd = σ.nd := fun k => by unfold St.lay0; split <;> exact ⟨rfl, rfl⟩
  obtain ⟨e1, e2⟩ := e d.kind
  have f : ∀ j, ((σ.lay d).nd j).kind = (((σ.lay0 d.kind).lay1 d).nd j).kind := fun j => by
    rw [lay_eq, touch_nd]
  refine ⟨by show (σ.lay0 d.kind).n + 1 = _; rw [e1], ?_, fun j hj => ?_⟩
  · rw [f]
    unfold St.lay1
    rw [e1]
    simp [upd]
  · rw [f]
    unfold St.lay1
    rw [e1, e2]
    simp only [upd]
    rw [if_neg (by omega)]
    split
    · rename_i h; rw [h]
    · rfl
theorem NoDoc.op {σ τ : St} {b : Nat} (h : NoDoc σ) (o : Op σ τ b) : NoDoc τ := by
  cases o with
  | touch i hi => exact fun j h1 h2 => by rw [touch_nd]; exact h j h1 h2
  | lay d o hk h4 ho =>
    obtain ⟨a, b, c⟩ := lay_kind σ d
    intro j h1 h2
    have h2 : j < (σ.lay d).n := h2
    show ((σ.lay d).nd j).kind ≠ 1
    by_cases q : j = σ.n
    · rw [q, b]; exact h4.2
    · rw [c j (by omega)]; exact h j h1 (by omega)
  | enter d hk _ h4 hh =>
    obtain ⟨a, b, c⟩ := lay_kind σ d
    intro j h1 h2
    have h2 : j < (σ.lay d).n := h2
    show ((σ.lay d).nd j).kind ≠ 1
    by_cases q : j = σ.n
    · rw [q, b]; exact hh.2
    · rw [c j (by omega)]; exact h j h1 (by omega)
  | line i s hi =>
    intro j h1 h2
    have := h j h1 h2
    unfold St.put
    simp only [upd]
    split
    · rename_i e; rw [e] at this; exact this
    · exact this
  | head i N hi hk =>
    intro j h1 h2
    have := h j h1 h2
    unfold St.put
    simp only [upd]
    split
    · exact fun e => by cases e
    · exact this
  | _ => exact h
theorem NoDoc.ops {σ τ : St} {b : Nat} (o : Ops σ τ b) : NoDoc σ → NoDoc τ := by
  induction o with
  | nil => exact id
  | snoc _ o ih => exact fun h => (ih h).op o
end Bk
end Go.Proofs.YtehmcahdjldhbaaGreatDoor
end
section
/- Law 11: parsed blocks lie inside one another: of any lines. -/
open Go Go.RowKit
set_option linter.unusedVariables false
set_option linter.unusedSimpArgs false
set_option maxRecDepth 100000
namespace Go.Proofs.YtehmcahdjldhbaaGreatDoor
open Wk
namespace Bk
theorem NoDoc.one {σ : St} (hg : Good σ.line0) (h : NoDoc σ) (F : Bs → List Ref × Bs) (U : Bs → Bs) (nt : Bool) : NoDoc (σ.one F U nt) ∧ (σ.one F U nt).line = σ.line := by
  obtain ⟨b, o, _⟩ := Ops.one hg F U nt
  exact ⟨NoDoc.ops o h, o.near.2⟩
theorem run_doc {P : Nat} (hP : P ≤ 1000000) (F : Bs → List Ref × Bs) (U : Bs → Bs) (nt : Bool) : ∀ (l : List Bs) (T C L k : Nat) (σ : St), Ran T C L k σ → (∀ s ∈ l, phi s ≤ P) → NoDoc σ →
    NoDoc (St.run F U nt l k σ) ∧ (l ≠ [] → (St.run F U nt l k σ).line = k + l.length - 1)
  | [], T, C, L, k, σ, h, _, hd => ⟨by simpa [St.run] using hd, fun e => absurd rfl e⟩
  | s :: r, T, C, L, k, σ, h, hs, hd => by
    have h1 := h.one s F U nt (hs s (List.mem_cons_self ..)) hP
    have h0 := h.at' s (by have := hs s (List.mem_cons_self ..); omega)
    obtain ⟨d1, e1⟩ := NoDoc.one (σ := σ.at' s k) h0.good hd F U nt
    obtain ⟨d2, e2⟩ := run_doc hP F U nt r _ _ _ _ _ h1 (fun x hx => hs x (List.mem_cons_of_mem _ hx)) d1
    rw [run_cons]
    refine ⟨d2, fun _ => ?_⟩
    rw [List.length_cons]
    by_cases hr : r = []
    · subst hr
      show ((σ.at' s k).one F U nt).line = _
      rw [e1]; rfl
    · rw [e2 hr]
      have : 0 < r.length := List.length_pos_iff.2 hr
      omega
theorem parse_ins (F : Bs → List Ref × Bs) (U : Bs → Bs) (nt : Bool) (l : List Bs) (hs : ∀ s ∈ l, phi s ≤ 1000) (hl : l.length ≤ 200) : InsL 0 (l.length - 1) false (parse F U nt l).1 := by
  have h := Ran.run (P := 1000) (by omega) F U nt l 0 1 0 0 St.init Ran.init hs
  obtain ⟨d, e⟩ := run_doc (P := 1000) (by omega) F U nt l 0 1 0 0 St.init Ran.init hs (fun i h1 h2 => by have : i < 1 := h2; omega)
  by_cases h0 : l = []
  · subst h0; exact .nil _ _ _
  · have e := e h0
    unfold parse
    dsimp only
    generalize St.run F U nt l 0 St.init = σ at *
    have g := h.good
    have f := h.fit
    have G : Lies σ.nd σ.n :=
      { kid := fun i hi k hk => (g.kid i hi k hk).1
        kidL := fun i hi => by have := f.kidL i hi; have h2 : (σ.nd i).kids.length ≤ 1 + l.length * 2000010 := this; omega
        firstK := g.firstK
        sorted := g.sorted
        lastK := g.lastK
        fl := fun i hi => (g.fl i hi).1
        kindK := g.kindK
        holds := fun i hi k hk hn => by
          have hk' := (g.kid i hi k hk)
          have h1 := g.holds k hk'.1 hn
          have h2 := d k (by omega) hk'.1
          have h1 : Holds (σ.nd k).kind := h1
          unfold Holds at h1
          unfold holdsB
          omega }
    have hn0 : 0 < σ.n := f.opnN 0 (List.mem_of_getElem? f.root.1)
    have I := blocks_ins (F := F) G σ.n 0 [] hn0
    have k0 : (σ.nd 0).kind = 1 := f.root.2
    rw [k0] at I
    have hl0 : (σ.nd 0).last ≤ σ.line := (g.fl 0 hn0).2
    exact (I.lower (Nat.zero_le _)).upper (by omega)
end Bk
end Go.Proofs.YtehmcahdjldhbaaGreatDoor
end
