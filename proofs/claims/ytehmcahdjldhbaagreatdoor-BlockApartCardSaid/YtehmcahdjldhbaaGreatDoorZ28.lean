/- Parts of this session's proof, one behind the other: F1 F2 F6. -/
import Derived.Test.YtehmcahdjldhbaaGreatDoorZ27
import Derived.Test.YtehmcahdjldhbaaGreatDoorZ22
section
/- Package block in plain Lean: flat states (no container but the document), and what lines of letters, fences, and lines between fences make of them. -/
set_option linter.unusedVariables false
set_option linter.unusedSimpArgs false
set_option maxRecDepth 100000
namespace Go.Proofs.YtehmcahdjldhbaaGreatDoor
open Wk
namespace Bk
structure Flat (σ : St) (L : List Nd) : Prop where
  opn : σ.opn = [0]
  n : σ.n = L.length + 1
  root : (σ.nd 0).kind = 1 ∧ (σ.nd 0).parent = none ∧ (σ.nd 0).kids = (List.range L.length).map (· + 1)
  nd : ∀ j d, L[j]? = some d → σ.nd (j + 1) = d
  par : ∀ d ∈ L, d.parent = some 0 ∧ d.kids = []
theorem Flat.init : Flat St.init [] := ⟨rfl, rfl, ⟨rfl, rfl, rfl⟩, fun j d h => by simp at h, fun d h => by cases h⟩
theorem Flat.same {σ τ : St} {L : List Nd} (h : Flat σ L) (e1 : τ.opn = σ.opn) (e2 : τ.n = σ.n) (e3 : τ.nd = σ.nd) : Flat τ L :=
  ⟨e1.trans h.opn, e2.trans h.n, by rw [e3]; exact h.root, by rw [e3]; exact h.nd, h.par⟩
theorem getLast_app (L : List Nd) (d : Nd) : (L ++ [d])[L.length]? = some d := by simp
theorem get_app {L : List Nd} {d e x : Nd} {j : Nat} (h : (L ++ [e])[j]? = some x) : (j < L.length ∧ (L ++ [d])[j]? = some x ∧ L[j]? = some x) ∨ (j = L.length ∧ x = e) := by
  by_cases hj : j < L.length
  · left
    rw [List.getElem?_append_left hj] at h
    exact ⟨hj, by rw [List.getElem?_append_left hj]; exact h, h⟩
  · right
    have hl := (List.getElem?_eq_some_iff.1 h).1
    simp only [List.length_append, List.length_singleton] at hl
    have : j = L.length := by omega
    subst this
    rw [getLast_app] at h
    exact ⟨rfl, (Option.some.inj h).symm⟩
/-- The last node, changed. -/
theorem Flat.upd {σ : St} {L : List Nd} {d : Nd} (h : Flat σ (L ++ [d])) (f : Nd → Nd) (hf : (f d).parent = some 0 ∧ (f d).kids = []) : Flat (σ.put (L.length + 1) f) (L ++ [f d]) := by
  have e0 : Bk.upd σ.nd (L.length + 1) f 0 = σ.nd 0 := by unfold Bk.upd; rw [if_neg (by omega)]
  refine ⟨h.opn, by rw [show (σ.put (L.length + 1) f).n = σ.n from rfl, h.n]; simp, ?_, ?_, ?_⟩
  · show (Bk.upd σ.nd (L.length + 1) f 0).kind = 1 ∧ (Bk.upd σ.nd (L.length + 1) f 0).parent = none ∧ (Bk.upd σ.nd (L.length + 1) f 0).kids = _
    rw [e0]
    have := h.root
    simpa using this
  · intro j x hx
    show Bk.upd σ.nd (L.length + 1) f (j + 1) = x
    unfold Bk.upd
    rcases get_app (d := d) hx with ⟨hj, hy, _⟩ | ⟨rfl, rfl⟩
    · rw [if_neg (by omega)]; exact h.nd j x hy
    · rw [if_pos rfl, h.nd _ d (getLast_app L d)]
  · intro x hx
    rcases List.mem_append.1 hx with hx | hx
    · exact h.par x (List.mem_append_left _ hx)
    · rw [List.mem_singleton.1 hx]; exact hf
theorem touch_flat {σ : St} {L : List Nd} {d : Nd} (h : Flat σ (L ++ [d])) : (σ.touch (L.length + 1)) = { σ with nd := Bk.upd (Bk.upd σ.nd (L.length + 1) fun x => { x with last := σ.line }) 0 fun x => { x with last := σ.line } } := by
  have hn : σ.n = L.length + 2 := by rw [h.n]; simp
  have e1 : (σ.nd (L.length + 1)).parent = some 0 := by rw [h.nd _ d (getLast_app L d)]; exact (h.par d (by simp)).1
  have e0 : Bk.upd σ.nd (L.length + 1) (fun x => { x with last := σ.line }) 0 = σ.nd 0 := by unfold Bk.upd; rw [if_neg (by omega)]
  unfold St.touch
  rw [hn]
  simp only [touchA, e1, e0, h.root.2.1, touchA_none]
theorem Flat.touch {σ : St} {L : List Nd} {d : Nd} (h : Flat σ (L ++ [d])) : Flat (σ.touch (L.length + 1)) (L ++ [{ d with last := σ.line }]) := by
  rw [touch_flat h]
  have g := h.upd (fun x => { x with last := σ.line }) (h.par d (by simp))
  refine ⟨h.opn, g.n, ?_, ?_, g.par⟩
  · have := g.root
    refine ⟨?_, ?_, ?_⟩
    · exact this.1
    · exact this.2.1
    · exact this.2.2
  · intro j x hx
    have := g.nd j x hx
    refine Eq.trans ?_ this
    show Bk.upd (Bk.upd σ.nd (L.length + 1) fun x => { x with last := σ.line }) 0 (fun x => { x with last := σ.line }) (j + 1) = Bk.upd σ.nd (L.length + 1) (fun x => { x with last := σ.line }) (j + 1)
    exact if_neg (by omega)
theorem last_flat {σ : St} {L : List Nd} (h : Flat σ L) (hm : σ.met = 1) : σ.last = 0 := by unfold St.last; rw [h.opn, hm]; rfl
theorem lay_flat {σ : St} {L : List Nd} (h : Flat σ L) (hm : σ.met = 1) (d : Nd) : σ.lay d = (σ.lay1 d).touch σ.n := by
  unfold St.lay St.lay0
  rw [last_flat h hm, h.root.1, if_neg (fun x => by have := x.1; omega)]
theorem Flat.lay1 {σ : St} {L : List Nd} (h : Flat σ L) (hm : σ.met = 1) (d : Nd) (hk : d.kids = []) : Flat (σ.lay1 d) (L ++ [{ d with parent := some 0, first := σ.line }]) := by
  have hl := last_flat h hm
  refine ⟨?_, ?_, ?_, ?_, ?_⟩
  · show σ.opn.take σ.met = [0]; rw [h.opn, hm]; rfl
  · show σ.n + 1 = _; rw [h.n]; simp
  · show (if (0 : Nat) = σ.n then ({ d with parent := some σ.last, first := σ.line } : Nd) else if 0 = σ.last then { σ.nd 0 with kids := (σ.nd 0).kids ++ [σ.n] } else σ.nd 0).kind = 1 ∧ (if (0 : Nat) = σ.n then ({ d with parent := some σ.last, first := σ.line } : Nd) else if 0 = σ.last then { σ.nd 0 with kids := (σ.nd 0).kids ++ [σ.n] } else σ.nd 0).parent = none ∧ (if (0 : Nat) = σ.n then ({ d with parent := some σ.last, first := σ.line } : Nd) else if 0 = σ.last then { σ.nd 0 with kids := (σ.nd 0).kids ++ [σ.n] } else σ.nd 0).kids = _
    rw [if_neg (by rw [h.n]; omega), if_pos hl.symm]
    refine ⟨h.root.1, h.root.2.1, ?_⟩
    show (σ.nd 0).kids ++ [σ.n] = _
    rw [h.root.2.2, h.n, List.length_append, List.length_singleton, List.range_succ, List.map_append]
    rfl
  · intro j x hx
    show (if j + 1 = σ.n then ({ d with parent := some σ.last, first := σ.line } : Nd) else if j + 1 = σ.last then { σ.nd (j + 1) with kids := (σ.nd (j + 1)).kids ++ [σ.n] } else σ.nd (j + 1)) = x
    rcases get_app (d := d) hx with ⟨hj, _, hy⟩ | ⟨rfl, rfl⟩
    · rw [if_neg (by rw [h.n]; omega), if_neg (by rw [hl]; omega)]; exact h.nd j x hy
    · rw [if_pos h.n.symm, hl]
  · intro x hx
    rcases List.mem_append.1 hx with hx | hx
    · exact h.par x hx
    · rw [List.mem_singleton.1 hx]; exact ⟨rfl, hk⟩
theorem Flat.lay {σ : St} {L : List Nd} (h : Flat σ L) (hm : σ.met = 1) (d : Nd) (hk : d.kids = []) : Flat (σ.lay d) (L ++ [{ d with parent := some 0, first := σ.line, last := σ.line }]) := by
  rw [lay_flat h hm, h.n]
  exact (h.lay1 hm d hk).touch
theorem Flat.layLeaf {σ : St} {L : List Nd} (h : Flat σ L) (hm : σ.met = 1) (d : Nd) (hk : d.kids = []) : Flat (σ.layLeaf d) (L ++ [{ d with parent := some 0, first := σ.line, last := σ.line }]) ∧ (σ.layLeaf d).leaf = some (L.length + 1) :=
  ⟨(h.lay hm d hk).same rfl rfl rfl, congrArg some h.n⟩
theorem Flat.add {σ : St} {L : List Nd} {d : Nd} (h : Flat σ (L ++ [d])) (hl : σ.leaf = some (L.length + 1)) (s : Bs) :
    Flat (σ.add s) (L ++ [{ d with lines := d.lines ++ [s], last := if Sc.blanks s then d.last else σ.line }]) ∧ (σ.add s).leaf = some (L.length + 1) := by
  have g := h.upd (fun x => { x with lines := x.lines ++ [s] }) (h.par d (by simp))
  unfold St.add
  rw [hl]
  dsimp only
  cases hb : Sc.blanks s with
  | true => exact ⟨g, hl⟩
  | false => exact ⟨g.touch, hl⟩
/-! ### One line -/
theorem Flat.at' {σ : St} {L : List Nd} (h : Flat σ L) (s : Bs) (k : Nat) : Flat (σ.at' s k).line0 L := h.same rfl rfl rfl
section
variable (F : Bs → List Ref × Bs) (U : Bs → Bs) (nt : Bool)
theorem one_flat {σ : St} {L : List Nd} (h : Flat σ L) (s : Bs) (k : Nat) : (σ.at' s k).one F U nt = (σ.at' s k).line0.after F U nt := by
  rw [one_after]
  have : (σ.at' s k).opn = [0] := h.opn
  rw [this]
  show ((σ.at' s k).line0.meets 1).after F U nt = _
  rw [St.meets, if_neg]
  show ¬ 1 < σ.opn.length
  rw [h.opn]; decide
theorem all_flat {σ : St} {L : List Nd} (h : Flat σ L) (hm : σ.met = 1) : σ.all = true := by unfold St.all; rw [h.opn, hm]; rfl
end
/-- Small letters, some. -/
def LowT (s : Bs) : Prop := s ≠ [] ∧ ∀ b ∈ s, 97 ≤ b.toNat ∧ b.toNat ≤ 122
theorem LowT.cons {s : Bs} (h : LowT s) : ∃ b t, s = b :: t ∧ 97 ≤ b.toNat ∧ b.toNat ≤ 122 := by
  cases s with
  | nil => exact absurd rfl h.1
  | cons b t => exact ⟨b, t, rfl, h.2 b (List.mem_cons_self ..)⟩
theorem ne_of_nat {a b : UInt8} (h : a.toNat ≠ b.toNat) : a ≠ b := fun e => h (e ▸ rfl)
/-- A text that begins with a small letter begins nothing. -/
structure Nought (s : Bs) : Prop where
  blanks : Sc.blanks s = false
  w : ∀ c, indW s c = 0
  k : indK s = 0
  quote : Lib.hasPrefix s [62] = false
  atx : (Sc.atx s).1 = 0
  fence : (Sc.fence s).2.1 = 0
  html : Sc.htmlStart s = 0
  setext : Sc.setext s = 0
  rule : Sc.rule s = false
  label : (label s).2 = 0
  marker : (marker s).2.2.1 = 0
  trim : trimLeft s = s
theorem pre_one (b c : UInt8) (t : Bs) : Lib.hasPrefix (b :: t) [c] = (b == c) := Tx.hasPrefix_one (b :: t) c
theorem low_nought (b : UInt8) (t : Bs) (h1 : 97 ≤ b.toNat) (h2 : b.toNat ≤ 122) : Nought (b :: t) := by
  have ne : ∀ n : UInt8, n.toNat < 97 → b ≠ n := fun n hn => ne_of_nat (by omega)
  have ne2 : ∀ n : UInt8, 122 < n.toNat → b ≠ n := fun n hn => ne_of_nat (by omega)
  have n9 := ne 9 (by decide)
  have n32 := ne 32 (by decide)
  have n62 := ne 62 (by decide)
  have n35 := ne 35 (by decide)
  have n96 := ne 96 (by decide)
  have n126 := ne2 126 (by decide)
  have n60 := ne 60 (by decide)
  have n61 := ne 61 (by decide)
  have n45 := ne 45 (by decide)
  have n42 := ne 42 (by decide)
  have n43 := ne 43 (by decide)
  have n95 := ne 95 (by decide)
  have n91 := ne 91 (by decide)
  have n10 := ne 10 (by decide)
  have n11 := ne 11 (by decide)
  have n12 := ne 12 (by decide)
  have n13 := ne 13 (by decide)
  have hbl : Sc.blank b = false := by unfold Sc.blank; simp [n9, n32]
  have hdg : Sc.digit b = false := by unfold Sc.digit; simp; omega
  have r35 : Sc.run 35 (b :: t) = 0 := by rw [Sc.run, if_neg n35]
  have r61 : Sc.run 61 (b :: t) = 0 := by rw [Sc.run, if_neg n61]
  have r45 : Sc.run 45 (b :: t) = 0 := by rw [Sc.run, if_neg n45]
  have bu : Sc.bullet (b :: t) = 0 := by simp [Sc.bullet, n45, n43, n42]
  refine ⟨?_, ?_, ?_, ?_, ?_, ?_, ?_, ?_, ?_, ?_, ?_, ?_⟩
  · simp [Sc.blanks, hbl]
  · intro c; simp [indW, n9, n32]
  · simp [indK, n9, n32]
  · rw [pre_one]; simpa using n62
  · unfold Sc.atx; rw [r35, if_pos (Or.inl (by decide))]
  · simp [Sc.fence, n96, n126]
  · unfold Sc.htmlStart; rw [if_pos (by rw [pre_one]; simpa using n60)]
  · unfold Sc.setext; rw [r61, r45]; rfl
  · simp [Sc.rule, n42, n45, n95]
  · unfold Bk.label
    split
    · rename_i e; injection e with e _; exact absurd e n91
    · rfl
  · unfold Bk.marker
    rw [bu, if_neg (by decide)]
    simp [Sc.ordered, Sc.orderedAt, List.takeWhile_cons, hdg]
  · simp [trimLeft, Lib.trimLeftS, List.dropWhile_cons, white, n32, n9, n10, n11, n12, n13]
theorem LowT.nought {s : Bs} (h : LowT s) : Nought s := by
  obtain ⟨b, t, rfl, h1, h2⟩ := h.cons
  exact low_nought b t h1 h2
section
variable (F : Bs → List Ref × Bs) (U : Bs → Bs) (nt : Bool)
theorem starts_nought {σ : St} (h : Nought σ.s) (k : Nat) : σ.starts F U nt (k + 1) = (false, σ) := by
  have hw : σ.w = 0 := h.w _
  have ht : σ.t = σ.s := by unfold St.t; rw [h.k]; rfl
  have hb : σ.begins F U σ.w σ.t = (false, σ) := by
    have hh : σ.headOk F 0 = false := rfl
    unfold St.begins
    rw [ht, h.atx, h.fence, h.html, h.setext, hh, h.rule]
    simp
  have hn : σ.note nt σ.t = (false, σ) := by
    unfold St.note; rw [ht, h.label, if_pos (Or.inl rfl)]
  have hi : σ.item σ.w σ.t = (false, σ) := by
    unfold St.item; dsimp only; rw [ht, if_pos h.marker]
  rw [starts_step, hb, hn, hi, hw]
  have h1 : σ.blank = false := h.blanks
  have h2 : σ.quotes = false := by unfold St.quotes; rw [ht, h.quote]; simp
  rw [h1, h2]
  simp
/-- The first line of a paragraph. -/
theorem para_first {σ : St} {L : List Nd} (h : Flat σ L) (hl : σ.leaf = none) {s : Bs} (hs : Nought s) (k : Nat) :
    Flat ((σ.at' s k).one F U nt) (L ++ [{ kind := 7, parent := some 0, first := k, last := k, lines := [s] }]) ∧ ((σ.at' s k).one F U nt).leaf = some (L.length + 1) := by
  have h0 := h.at' s k
  rw [one_flat F U nt h]
  have hl0 : (σ.at' s k).line0.leaf = none := hl
  unfold St.after
  rw [Sim.takes_none _ hl0]
  dsimp only
  rw [if_neg Bool.false_ne_true, starts_nought F U nt (σ := (σ.at' s k).line0) hs]
  dsimp only
  rw [if_neg Bool.false_ne_true]
  unfold St.text
  have hb : (σ.at' s k).line0.blank = false := hs.blanks
  have hg : (σ.at' s k).line0.goes = false := by unfold St.goes; rw [hl0]; rfl
  rw [hb, if_neg Bool.false_ne_true, hg, if_neg Bool.false_ne_true]
  dsimp only
  have g := h0.layLeaf rfl { kind := 7 } rfl
  have g2 := g.1.add g.2 (trimLeft s)
  rw [hs.trim, hs.blanks] at g2
  have e : ((σ.at' s k).line0.layLeaf { kind := 7 }).s = s := (lay_cur _ _).1
  rw [e, hs.trim]
  have el : ((σ.at' s k).line0.layLeaf { kind := 7 }).line = k := (lay_cur _ _).2.2
  have g3 : (Flat (((σ.at' s k).line0.layLeaf { kind := 7 }).add s) (L ++ [{ kind := 7, parent := some 0, first := (σ.at' s k).line0.line, last := ((σ.at' s k).line0.layLeaf { kind := 7 }).line, lines := [] ++ [s] }])) ∧ _ := g2
  rw [el] at g3
  exact g3
/-- A further line of a paragraph. -/
theorem para_next {σ : St} {L : List Nd} {d : Nd} (h : Flat σ (L ++ [d])) (hl : σ.leaf = some (L.length + 1)) (hk : d.kind = 7) (hf : d.fn = 0) {s : Bs} (hs : Nought s) (k : Nat) :
    Flat ((σ.at' s k).one F U nt) (L ++ [{ d with lines := d.lines ++ [s], last := k }]) ∧ ((σ.at' s k).one F U nt).leaf = some (L.length + 1) := by
  have h0 := h.at' s k
  rw [one_flat F U nt h]
  have hl0 : (σ.at' s k).line0.leaf = some (L.length + 1) := hl
  have hd : (σ.at' s k).line0.nd (L.length + 1) = d := h0.nd _ d (getLast_app L d)
  have ht : (σ.at' s k).line0.takes = (false, (σ.at' s k).line0) := by
    unfold St.takes
    rw [all_flat h0 rfl, if_pos rfl, hl0]
    dsimp only
    rw [hd, hf, hk, if_neg (by decide), if_neg (by decide)]
  unfold St.after
  rw [ht]
  dsimp only
  rw [if_neg Bool.false_ne_true, starts_nought F U nt (σ := (σ.at' s k).line0) hs]
  dsimp only
  rw [if_neg Bool.false_ne_true]
  unfold St.text
  have hb : (σ.at' s k).line0.blank = false := hs.blanks
  have hg : (σ.at' s k).line0.goes = true := by
    unfold St.goes St.leafKind; rw [hl0]; dsimp only; rw [hd, hk]; rfl
  rw [hb, if_neg Bool.false_ne_true, hg, if_pos rfl]
  dsimp only
  have g2 := h0.add hl0 (trimLeft s)
  rw [hs.trim, hs.blanks] at g2
  rw [show (σ.at' s k).line0.s = s from rfl, hs.trim]
  exact g2
/-- An empty line behind a paragraph. -/
theorem para_end {σ : St} {L : List Nd} {d : Nd} (h : Flat σ (L ++ [d])) (hl : σ.leaf = some (L.length + 1)) (hk : d.kind = 7) (hf : d.fn = 0) (k : Nat) :
    Flat ((σ.at' [] k).one F U nt) (L ++ [d]) ∧ ((σ.at' [] k).one F U nt).leaf = none := by
  have h0 := h.at' [] k
  rw [one_flat F U nt h]
  have hl0 : (σ.at' [] k).line0.leaf = some (L.length + 1) := hl
  have hd : (σ.at' [] k).line0.nd (L.length + 1) = d := h0.nd _ d (getLast_app L d)
  have ht : (σ.at' [] k).line0.takes = (false, (σ.at' [] k).line0) := by
    unfold St.takes
    rw [all_flat h0 rfl, if_pos rfl, hl0]
    dsimp only
    rw [hd, hf, hk, if_neg (by decide), if_neg (by decide)]
  have hb : (σ.at' [] k).line0.blank = true := rfl
  unfold St.after
  rw [ht]
  dsimp only
  rw [if_neg Bool.false_ne_true, starts_step, hb, if_pos rfl]
  dsimp only
  rw [if_neg Bool.false_ne_true]
  unfold St.text
  have hg : (σ.at' [] k).line0.goes = true := by
    unfold St.goes St.leafKind; rw [hl0]; dsimp only; rw [hd, hk]; rfl
  have hp : (σ.at' [] k).line0.plain = false := by
    unfold St.plain St.leafKind; rw [hl0]; dsimp only; rw [hd, hk]; simp
  rw [hb, if_pos rfl, hp, if_neg Bool.false_ne_true, hg]
  refine ⟨h0.same ?_ rfl rfl, ?_⟩
  · show (σ.at' [] k).line0.opn.take 1 = (σ.at' [] k).line0.opn
    rw [h0.opn]; rfl
  · show (if (!(σ.at' [] k).line0.all || true) = true then none else _) = none
    simp
end
end Bk
end Go.Proofs.YtehmcahdjldhbaaGreatDoor
end
section
/- Package block in plain Lean: whole runs over lines of letters, and over lines between two fences. -/
set_option linter.unusedVariables false
set_option linter.unusedSimpArgs false
set_option maxRecDepth 100000
namespace Go.Proofs.YtehmcahdjldhbaaGreatDoor
open Wk
namespace Bk
theorem run_append (F : Bs → List Ref × Bs) (U : Bs → Bs) (nt : Bool) : ∀ (a b : List Bs) (k : Nat) (σ : St), St.run F U nt (a ++ b) k σ = St.run F U nt b (k + a.length) (St.run F U nt a k σ)
  | [], b, k, σ => rfl
  | s :: a, b, k, σ => by
    rw [List.cons_append, run_cons, run_cons, run_append F U nt a b (k + 1), List.length_cons, show k + 1 + a.length = k + (a.length + 1) by omega]
section
variable (F : Bs → List Ref × Bs) (U : Bs → Bs) (nt : Bool)
theorem para_lines : ∀ (l : List Bs) (σ : St) (L : List Nd) (d : Nd) (k : Nat), Flat σ (L ++ [d]) → σ.leaf = some (L.length + 1) → d.kind = 7 → d.fn = 0 → (∀ s ∈ l, Nought s) →
    Flat (St.run F U nt l k σ) (L ++ [{ d with lines := d.lines ++ l, last := if l = [] then d.last else k + l.length - 1 }]) ∧ (St.run F U nt l k σ).leaf = some (L.length + 1)
  | [], σ, L, d, k, h, hl, _, _, _ => ⟨by simpa [St.run] using h, hl⟩
  | s :: l, σ, L, d, k, h, hl, hk, hf, hs => by
    rw [run_cons]
    obtain ⟨g1, g2⟩ := para_next F U nt h hl hk hf (hs s (List.mem_cons_self ..)) k
    have := para_lines l _ L _ (k + 1) g1 g2 hk hf fun x hx => hs x (List.mem_cons_of_mem _ hx)
    refine ⟨?_, this.2⟩
    have e : (if l = [] then k else k + 1 + l.length - 1) = k + (s :: l).length - 1 := by
      split
      · rename_i e; subst e; simp
      · simp only [List.length_cons]; omega
    have g := this.1
    dsimp only at g
    rw [e, List.append_assoc, List.singleton_append] at g
    rw [if_neg (List.cons_ne_nil s l)]
    exact g
def pNd (ls : List Bs) (f l : Nat) : Nd := { kind := 7, parent := some 0, first := f, last := l, lines := ls }
/-- A paragraph's lines. -/
theorem para_run {σ : St} {L : List Nd} (h : Flat σ L) (hl : σ.leaf = none) (l : List Bs) (h0 : l ≠ []) (hs : ∀ s ∈ l, Nought s) (k : Nat) :
    Flat (St.run F U nt l k σ) (L ++ [pNd l k (k + l.length - 1)]) ∧ (St.run F U nt l k σ).leaf = some (L.length + 1) := by
  cases l with
  | nil => exact absurd rfl h0
  | cons s l =>
    rw [run_cons]
    obtain ⟨g1, g2⟩ := para_first F U nt h hl (hs s (List.mem_cons_self ..)) k
    have := para_lines F U nt l _ L _ (k + 1) g1 g2 rfl rfl fun x hx => hs x (List.mem_cons_of_mem _ hx)
    refine ⟨?_, this.2⟩
    have e : (if l = [] then k else k + 1 + l.length - 1) = k + (s :: l).length - 1 := by
      split
      · rename_i e; subst e; simp
      · simp only [List.length_cons]; omega
    have g := this.1
    dsimp only at g
    rw [e] at g
    exact g
/-- Lines of letters, an empty one, lines of letters. -/
theorem plain_run (a b : List Bs) (ha : a ≠ []) (hb : b ≠ []) (h1 : ∀ s ∈ a, Nought s) (h2 : ∀ s ∈ b, Nought s) :
    Flat (St.run F U nt (a ++ [] :: b) 0 St.init) [pNd a 0 (a.length - 1), pNd b (a.length + 1) (a.length + b.length)] := by
  rw [run_append, run_cons, Nat.zero_add]
  obtain ⟨g1, g2⟩ := para_run F U nt Flat.init rfl a ha h1 0
  rw [Nat.zero_add] at g1
  obtain ⟨g3, g4⟩ := para_end F U nt (L := []) g1 g2 rfl rfl a.length
  obtain ⟨g5, _⟩ := para_run F U nt g3 g4 b hb h2 (a.length + 1)
  have : 0 < b.length := List.length_pos_iff.2 hb
  rw [show a.length + 1 + b.length - 1 = a.length + b.length by omega] at g5
  exact g5
/-- Two nodes, told. -/
theorem blocks_two {σ : St} {d1 d2 : Nd} (h : Flat σ [d1, d2]) (S1 S2 : Bs) (h1 : content F σ.nd 1 [] = (S1, d1.flag, [], true)) (h2 : content F σ.nd 2 [] = (S2, d2.flag, [], true)) :
    blocks F σ.nd σ.n 0 [] = ([Tr.mk d1.kind S1 d1.T d1.N d1.M d1.flag d1.first d1.last [], Tr.mk d2.kind S2 d2.T d2.N d2.M d2.flag d2.first d2.last []], []) := by
  have e1 := h.nd 0 d1 rfl
  have e2 := h.nd 1 d2 rfl
  have k1 := (h.par d1 (by simp)).2
  have k2 := (h.par d2 (by simp)).2
  rw [h.n]
  show blocks F σ.nd (2 + 1) 0 [] = _
  rw [blocks, h.root.2.2]
  have kr : (List.range [d1, d2].length).map (· + 1) = [1, 2] := rfl
  have b1 : ∀ D, blocks F σ.nd 2 1 D = ([], D) := fun D => by rw [blocks, e1, k1]; rfl
  have b2 : ∀ D, blocks F σ.nd 2 2 D = ([], D) := fun D => by rw [blocks, e2, k2]; rfl
  rw [kr]
  simp only [List.foldl_cons, List.foldl_nil, tell, h1, h2, b1, b2, e1, e2, if_true, List.nil_append, List.singleton_append]
theorem content_7 {A : Nat → Nd} {i : Nat} {d : Nd} (e : A i = d) (hk : d.kind = 7) {S : Bs} (hF : F (body d.lines) = ([], S)) (hS : S ≠ []) : content F A i [] = (S, d.flag, [], true) := by
  unfold content
  rw [e]
  dsimp only
  rw [hk, if_neg (by decide), if_neg (by decide), if_neg (by decide), if_pos (Or.inl rfl), hF]
  have : S.isEmpty = false := by cases S with | nil => exact absurd rfl hS | cons _ _ => rfl
  rw [this]
  rfl
theorem content_5 {A : Nat → Nd} {i : Nat} {d : Nd} (e : A i = d) (hk : d.kind = 5) (hf : d.fn ≠ 0) : content F A i [] = (joinEnd d.lines, d.flag, [], true) := by
  unfold content
  rw [e]
  dsimp only
  rw [hk, if_neg (by decide), if_neg (by decide), if_pos rfl, if_neg hf]
/-! ### Fences -/
def fNd (info : Bs) (ls : List Bs) (l : Nat) : Nd := { kind := 5, T := info, fc := 126, fn := 9, parent := some 0, first := 0, last := l, lines := ls }
def tildes : Bs := [126, 126, 126, 126, 126, 126, 126, 126, 126]
theorem run_tildes (r : Bs) (h : r.head? ≠ some 126) : Sc.run 126 (tildes ++ r) = 9 := by
  have h0 : Sc.run 126 r = 0 := by
    cases r with
    | nil => rfl
    | cons b t => rw [Sc.run, if_neg (by simpa using h)]
  simp [tildes, Sc.run, h0]
theorem trim_none (l : Bs) (h : ∀ b ∈ l, Sc.blank b = false) : Sc.trim l = l := by
  have e : ∀ m : Bs, (∀ b ∈ m, Sc.blank b = false) → m.dropWhile (fun x => ([32, 9] : List UInt8).contains x) = m := fun m hm => by
    cases m with
    | nil => rfl
    | cons b t =>
      have := hm b (List.mem_cons_self ..)
      rw [← Sc.blank_set] at this
      rw [List.dropWhile_cons, this]; rfl
  unfold Sc.trim Lib.trimS Lib.trimLeftS Lib.trimRightS
  rw [e l.reverse (fun b hb => h b (List.mem_reverse.1 hb)), List.reverse_reverse, e l h]
theorem fence_open (info : Bs) (hi : ∀ b ∈ info, 97 ≤ b.toNat ∧ b.toNat ≤ 122) (hU : U info = info) : Flat ((St.init.at' (tildes ++ info) 0).one F U nt) [fNd info [] 0] ∧ ((St.init.at' (tildes ++ info) 0).one F U nt).leaf = some 1 := by
  have hr : Sc.run 126 (tildes ++ info) = 9 := run_tildes info (by
    cases info with
    | nil => simp
    | cons b t =>
      have := (hi b (List.mem_cons_self ..)).2
      simp only [List.head?_cons, ne_eq, Option.some.injEq]
      exact ne_of_nat (by have e : (126 : UInt8).toNat = 126 := rfl; omega))
  have hb : ∀ b ∈ info, Sc.blank b = false := fun b hb => by
    have := hi b hb
    have n9 : b ≠ 9 := ne_of_nat (by have e : (9 : UInt8).toNat = 9 := rfl; omega)
    have n32 : b ≠ 32 := ne_of_nat (by have e : (32 : UInt8).toNat = 32 := rfl; omega)
    unfold Sc.blank; simp [n9, n32]
  have hfe : Sc.fence (tildes ++ info) = (126, 9, info) := by
    have hd : (tildes ++ info).drop 9 = info := rfl
    have e : tildes ++ info = 126 :: (126 :: 126 :: 126 :: 126 :: 126 :: 126 :: 126 :: 126 :: info) := rfl
    unfold Sc.fence
    rw [e]
    dsimp only
    rw [← e, hr, hd, if_neg (by decide), if_neg (by
      rintro (x | x)
      · omega
      · exact absurd x.1 (by decide)), trim_none info hb]
  have h0 := Flat.init.at' (tildes ++ info) 0
  rw [one_flat F U nt Flat.init]
  have hl0 : (St.init.at' (tildes ++ info) 0).line0.leaf = none := rfl
  unfold St.after
  rw [Sim.takes_none _ hl0]
  dsimp only
  rw [if_neg Bool.false_ne_true, starts_step]
  have c1 : (St.init.at' (tildes ++ info) 0).line0.blank = false := rfl
  have c2 : (St.init.at' (tildes ++ info) 0).line0.w = 0 := rfl
  have c3 : (St.init.at' (tildes ++ info) 0).line0.quotes = false := rfl
  have c4 : (St.init.at' (tildes ++ info) 0).line0.t = tildes ++ info := rfl
  have c5 : (Sc.atx (tildes ++ info)).1 = 0 := rfl
  have c6 : (St.init.at' (tildes ++ info) 0).line0.begins F U 0 (tildes ++ info) = (true, (St.init.at' (tildes ++ info) 0).line0.layLeaf { kind := 5, T := info, fc := 126, fn := 9, fi := 0 }) := by
    unfold St.begins
    rw [c5, if_neg (by decide), hfe]
    dsimp only
    rw [if_pos (by decide), hU]
  rw [c1, c2, c3, c4, c6]
  simp only [Bool.false_eq_true, if_false, if_true, show ¬ (4 : Nat) ≤ 0 from by decide]
  have g := h0.layLeaf rfl { kind := 5, T := info, fc := 126, fn := 9, fi := 0 } rfl
  exact ⟨g.1, g.2⟩
/-- A line within fences. -/
theorem fence_line {σ : St} {info : Bs} {ls : List Bs} {l0 : Nat} (h : Flat σ [fNd info ls l0]) (hl : σ.leaf = some 1) {s : Bs} (hs : Sc.closes (s.drop (indK s)) 126 9 = false) (k : Nat) :
    ∃ l1, Flat ((σ.at' s k).one F U nt) [fNd info (ls ++ [s]) l1] ∧ ((σ.at' s k).one F U nt).leaf = some 1 := by
  have h0 := h.at' s k
  rw [one_flat F U nt h]
  have hl0 : (σ.at' s k).line0.leaf = some 1 := hl
  have hd : (σ.at' s k).line0.nd 1 = fNd info ls l0 := h0.nd 0 _ rfl
  have ht : (σ.at' s k).line0.takes = (true, (σ.at' s k).line0.add s) := by
    unfold St.takes
    rw [all_flat h0 rfl, if_pos rfl, hl0]
    dsimp only
    rw [hd, if_pos (show 0 < (fNd info ls l0).fn from (by decide : 0 < 9))]
    unfold St.fenced
    rw [hd, if_neg (fun x => by have := x.2.symm.trans hs; cases this)]
    show (true, (σ.at' s k).line0.add (skip s 0 0).1) = _
    rw [skip_zero]
  unfold St.after
  rw [ht]
  dsimp only
  rw [if_pos rfl]
  have g := Flat.add (L := []) h0 hl0 s
  exact ⟨_, g.1, g.2⟩
theorem fence_lines : ∀ (l : List Bs) (σ : St) (info : Bs) (ls : List Bs) (l0 k : Nat), Flat σ [fNd info ls l0] → σ.leaf = some 1 → (∀ s ∈ l, Sc.closes (s.drop (indK s)) 126 9 = false) →
    ∃ l1, Flat (St.run F U nt l k σ) [fNd info (ls ++ l) l1] ∧ (St.run F U nt l k σ).leaf = some 1
  | [], σ, info, ls, l0, k, h, hl, _ => ⟨l0, by rw [List.append_nil]; exact h, hl⟩
  | s :: l, σ, info, ls, l0, k, h, hl, hs => by
    obtain ⟨l1, g1, g2⟩ := fence_line F U nt h hl (hs s (List.mem_cons_self ..)) k
    obtain ⟨l2, g3, g4⟩ := fence_lines l _ info _ l1 (k + 1) g1 g2 fun x hx => hs x (List.mem_cons_of_mem _ hx)
    refine ⟨l2, ?_, g4⟩
    rw [List.append_assoc, List.singleton_append] at g3
    exact g3
theorem fence_close {σ : St} {info : Bs} {ls : List Bs} {l0 : Nat} (h : Flat σ [fNd info ls l0]) (hl : σ.leaf = some 1) (k : Nat) :
    Flat ((σ.at' tildes k).one F U nt) [fNd info ls k] ∧ ((σ.at' tildes k).one F U nt).leaf = none := by
  have h0 := h.at' tildes k
  rw [one_flat F U nt h]
  have hl0 : (σ.at' tildes k).line0.leaf = some 1 := hl
  have hd : (σ.at' tildes k).line0.nd 1 = fNd info ls l0 := h0.nd 0 _ rfl
  have hw : (σ.at' tildes k).line0.w = 0 := rfl
  have htt : (σ.at' tildes k).line0.t = tildes := rfl
  have ht : (σ.at' tildes k).line0.takes = (true, ((σ.at' tildes k).line0.touch 1).close) := by
    unfold St.takes
    rw [all_flat h0 rfl, if_pos rfl, hl0]
    dsimp only
    rw [hd, if_pos (show 0 < (fNd info ls l0).fn from (by decide : 0 < 9))]
    unfold St.fenced
    rw [hd, hw, htt, if_pos (show 0 < 4 ∧ Sc.closes tildes (fNd info ls l0).fc (fNd info ls l0).fn = true from ⟨by decide, (by decide : Sc.closes tildes 126 ((9 : Nat) : Int) = true)⟩)]
  unfold St.after
  rw [ht]
  dsimp only
  rw [if_pos rfl]
  exact ⟨(Flat.touch (L := []) h0).same rfl rfl rfl, rfl⟩
theorem fences_run (info : Bs) (l : List Bs) (hi : ∀ b ∈ info, 97 ≤ b.toNat ∧ b.toNat ≤ 122) (hU : U info = info) (hs : ∀ s ∈ l, Sc.closes (s.drop (indK s)) 126 9 = false) :
    Flat (St.run F U nt ((tildes ++ info) :: (l ++ [tildes, [120]])) 0 St.init) [fNd info l (l.length + 1), pNd [[120]] (l.length + 2) (l.length + 2)] := by
  rw [run_cons, run_append, run_cons, Nat.zero_add]
  obtain ⟨g1, g2⟩ := fence_open F U nt info hi hU
  obtain ⟨l1, g3, g4⟩ := fence_lines F U nt l _ info [] 0 1 g1 g2 hs
  rw [List.nil_append] at g3
  obtain ⟨g5, g6⟩ := fence_close F U nt g3 g4 (1 + l.length)
  have g7 := (para_run F U nt g5 g6 [[120]] (by simp) (fun s hs => by rw [List.mem_singleton.1 hs]; exact low_nought 120 [] (by decide) (by decide)) (1 + l.length + 1)).1
  rw [show 1 + l.length = l.length + 1 by omega] at g7 ⊢
  exact g7
end
/-! ### What the texts are -/
theorem run_le_count (c : UInt8) : ∀ l : Bs, Sc.run c l ≤ l.count c
  | [] => Nat.le_refl _
  | b :: t => by
    have ih := run_le_count c t
    rw [Sc.run]
    split
    · rename_i e; subst e; rw [List.count_cons_self]; omega
    · exact Nat.zero_le _
theorem closes_few (s : Bs) (h : s.count 126 < 9) : Sc.closes (s.drop (indK s)) 126 9 = false := by
  have h1 := run_le_count 126 (s.drop (indK s))
  have h2 : (s.drop (indK s)).count 126 ≤ s.count 126 := (List.drop_sublist _ _).count_le _
  unfold Sc.closes
  rw [decide_eq_false (by omega)]
  rfl
theorem unesc_low (s : Bs) (h : ∀ b ∈ s, 97 ≤ b.toNat ∧ b.toNat ≤ 122) : Tx.unescF s = s := by
  unfold Tx.unescF Tx.unesc
  have : ∀ (n : Nat) (s : Bs), s.length ≤ n → (∀ b ∈ s, 97 ≤ b.toNat ∧ b.toNat ≤ 122) → Tx.unescN Tx.readF n s = s := by
    intro n
    induction n with
    | zero => intro s hl _; cases s with | nil => rfl | cons b t => simp at hl
    | succ n ih =>
      intro s hl hs
      cases s with
      | nil => exact Tx.unescN_nil _ _
      | cons b t =>
        have hb := hs b (List.mem_cons_self ..)
        have n92 : b ≠ 92 := ne_of_nat (by have e : (92 : UInt8).toNat = 92 := rfl; omega)
        have n38 : b ≠ 38 := ne_of_nat (by have e : (38 : UInt8).toNat = 38 := rfl; omega)
        have hp : Tx.piece Tx.readF (b :: t) = ([b], 1) := by rw [Tx.piece, if_neg (fun x => n92 x.1), if_neg (fun x => n38 x.1)]
        rw [Tx.unescN, if_neg (List.cons_ne_nil b t), hp]
        show [b] ++ Tx.unescN Tx.readF n t = _
        rw [ih t (by simp at hl; omega) fun x hx => hs x (List.mem_cons_of_mem _ hx)]
        rfl
  exact this s.length s (Nat.le_refl _) h
theorem FF_other (b : UInt8) (t : Bs) (h : b ≠ 91) : Tx.FF (b :: t) = ([], b :: t) := by
  unfold Tx.FF Tx.allR
  show Tx.allN Tx.unescF (t.length + 1) (b :: t) = _
  have hl : Tx.lab (b :: t) = ([], 0) := by
    unfold Tx.lab
    split
    · rename_i e; injection e with e _; exact absurd e h
    · rfl
  have ht : Tx.take Tx.unescF (b :: t) = (Tx.ref0, 0) := by
    unfold Tx.take
    rw [hl]
    show (if (0 : Nat) = 0 ∨ b ≠ 58 ∨ Tx.rgapB t = false then _ else _) = _
    rw [if_pos (Or.inl rfl)]
  rw [Tx.allN, ht, if_pos rfl]
theorem joinNl_cons (s : Bs) (l : List Bs) (h : l ≠ []) : joinNl (s :: l) = s ++ 10 :: joinNl l := by
  cases l with
  | nil => exact absurd rfl h
  | cons t r => simp [joinNl, List.intercalate, List.intersperse]
theorem joinNl_one (s : Bs) : joinNl [s] = s := by simp [joinNl, List.intercalate]
theorem joinNl_flat : ∀ l : List Bs, l ≠ [] → 10 :: joinNl l = l.flatMap (10 :: ·)
  | [], h => absurd rfl h
  | [s], _ => by rw [joinNl_one]; simp
  | s :: t :: r, _ => by
    rw [joinNl_cons s (t :: r) (List.cons_ne_nil _ _), joinNl_flat (t :: r) (List.cons_ne_nil _ _)]
    simp
theorem trimRight_last (l : Bs) (h : l ≠ []) (hl : 97 ≤ (l.getLast h).toNat) : trimRight l = l := by
  have hne : white.contains (l.getLast h) = false := by
    have ne : ∀ n : UInt8, n.toNat < 97 → l.getLast h ≠ n := fun n hn => ne_of_nat (by omega)
    simp [white, ne 32 (by decide), ne 9 (by decide), ne 10 (by decide), ne 11 (by decide), ne 12 (by decide), ne 13 (by decide)]
  unfold trimRight Lib.trimRightS
  have e := List.dropLast_concat_getLast h
  rw [← e, List.reverse_append]
  simp only [List.reverse_cons, List.reverse_nil, List.nil_append, List.singleton_append]
  rw [List.dropWhile_cons, hne]
  simp
theorem last_low : ∀ (l : List Bs), l ≠ [] → (∀ s ∈ l, LowT s) → ∃ h : joinNl l ≠ [], 97 ≤ ((joinNl l).getLast h).toNat
  | [], h, _ => absurd rfl h
  | [s], _, hs => by
    have := hs s (List.mem_cons_self ..)
    rw [joinNl_one]
    exact ⟨this.1, (this.2 _ (List.getLast_mem this.1)).1⟩
  | s :: t :: r, _, hs => by
    obtain ⟨h, hl⟩ := last_low (t :: r) (List.cons_ne_nil _ _) fun x hx => hs x (List.mem_cons_of_mem _ hx)
    rw [joinNl_cons s (t :: r) (List.cons_ne_nil _ _)]
    refine ⟨by simp, ?_⟩
    have e : (s ++ 10 :: joinNl (t :: r)).getLast (by simp) = (joinNl (t :: r)).getLast h := by
      rw [List.getLast_append_of_ne_nil (by simp) (by simp), List.getLast_cons h]
    rw [e]; exact hl
theorem body_low (l : List Bs) (h : l ≠ []) (hs : ∀ s ∈ l, LowT s) : body l = joinNl l ∧ Tx.FF (body l) = ([], joinNl l) ∧ joinNl l ≠ [] := by
  obtain ⟨h1, h2⟩ := last_low l h hs
  have e : body l = joinNl l := trimRight_last _ h1 h2
  refine ⟨e, ?_, h1⟩
  rw [e]
  cases l with
  | nil => exact absurd rfl h
  | cons s r =>
    obtain ⟨b, t, rfl, hb1, hb2⟩ := (hs s (List.mem_cons_self ..)).cons
    have n91 : b ≠ 91 := ne_of_nat (by have e : (91 : UInt8).toNat = 91 := rfl; omega)
    cases r with
    | nil => rw [joinNl_one]; exact FF_other b t n91
    | cons x r => rw [joinNl_cons _ _ (List.cons_ne_nil _ _), List.cons_append]; exact FF_other b _ n91
/-- What lines of letters with an empty one between them are. -/
theorem parse_plain (nt : Bool) (a b : List Bs) (ha : a ≠ []) (hb : b ≠ []) (h1 : ∀ s ∈ a, LowT s) (h2 : ∀ s ∈ b, LowT s) :
    parse Tx.FF Tx.unescF nt (a ++ [] :: b) = ([Tr.mk 7 (joinNl a) [] 0 0 false 0 (a.length - 1) [], Tr.mk 7 (joinNl b) [] 0 0 false (a.length + 1) (a.length + b.length) []], []) := by
  have g := plain_run Tx.FF Tx.unescF nt a b ha hb (fun s hs => (h1 s hs).nought) (fun s hs => (h2 s hs).nought)
  have ba := body_low a ha h1
  have bb := body_low b hb h2
  exact blocks_two Tx.FF g _ _ (content_7 Tx.FF (g.nd 0 _ rfl) rfl ba.2.1 ba.2.2) (content_7 Tx.FF (g.nd 1 _ rfl) rfl bb.2.1 bb.2.2)
/-- What lines between fences, and a line behind them, are. -/
theorem parse_fences (nt : Bool) (info : Bs) (l : List Bs) (hi : ∀ b ∈ info, 97 ≤ b.toNat ∧ b.toNat ≤ 122) (hs : ∀ s ∈ l, s.count 126 < 9) :
    parse Tx.FF Tx.unescF nt ((tildes ++ info) :: (l ++ [tildes, [120]])) = ([Tr.mk 5 (joinEnd l) info 0 0 false 0 (l.length + 1) [], Tr.mk 7 [120] [] 0 0 false (l.length + 2) (l.length + 2) []], []) := by
  have g := fences_run Tx.FF Tx.unescF nt info l hi (unesc_low info hi) (fun s h => closes_few s (hs s h))
  exact blocks_two Tx.FF g _ _ (content_5 Tx.FF (g.nd 0 _ rfl) rfl (show (9 : Nat) ≠ 0 by decide)) (content_7 Tx.FF (g.nd 1 _ rfl) rfl (show Tx.FF (body [[120]]) = ([], [120]) from FF_other 120 [] (by decide)) (by simp))
/-! ### Rules and headings -/
def ruleLine (i : Nat) : Bs := if i % 3 = 0 then [42, 42, 42] else if i % 3 = 1 then [35, 35, 32, 97] else [95, 32, 95, 32, 95]
def ruleLines (k : Nat) : List Bs := (List.range k).map ruleLine
def trK : Tr → Nat × Nat × Nat
  | .mk k _ _ _ _ _ f l _ => (k, f, l)
def okRules (k : Nat) (nt : Bool) : Bool :=
  let r := parse Tx.FF Tx.unescF nt (ruleLines k)
  r.2.isEmpty && r.1.map trK == (List.range k).map fun i => (if i % 3 = 1 then 8 else 9, i, i)
end Bk
end Go.Proofs.YtehmcahdjldhbaaGreatDoor
end
section
/- Package block in plain Lean: so many lines of rules and headings, by calculation. -/
set_option linter.unusedVariables false
set_option linter.unusedSimpArgs false
set_option maxRecDepth 100000
namespace Go.Proofs.YtehmcahdjldhbaaGreatDoor
namespace Bk
theorem rules_ok : ∀ k, k < 32 → ∀ nt : Bool, okRules k nt = true := by decide +kernel
theorem parse_rules (k : Nat) (hk : k < 32) (nt : Bool) : (parse Tx.FF Tx.unescF nt (ruleLines k)).2 = [] ∧ (parse Tx.FF Tx.unescF nt (ruleLines k)).1.map trK = (List.range k).map fun i => (if i % 3 = 1 then 8 else 9, i, i) := by
  have := rules_ok k hk nt
  unfold okRules at this
  simpa using this
end Bk
end Go.Proofs.YtehmcahdjldhbaaGreatDoor
end
