/- Parts of this session's proof, one behind the other: F3. -/
import Derived.Test.YtehmcahdjldhbaaGreatDoorZ28
section
/- Package block in plain Lean: what deeds leave of a node; behind a rule and an empty line all is as it is alone. -/
set_option linter.unusedVariables false
set_option linter.unusedSimpArgs false
set_option maxRecDepth 100000
namespace Go.Proofs.YtehmcahdjldhbaaGreatDoor
open Wk
namespace Bk
theorem touchA_or : ∀ (k : Nat) (A : Nat → Nd) (o : Option Nat) (l j : Nat), (touchA k A o l j).last = (A j).last ∨ (touchA k A o l j).last = l
  | 0, _, _, _, _ => .inl rfl
  | _ + 1, _, none, _, _ => .inl rfl
  | k + 1, A, some i, l, j => by
    rw [touchA]
    rcases touchA_or k (upd A i fun d => { d with last := l }) (A i).parent l j with h | h
    · rw [h]
      unfold upd
      split
      · exact .inr rfl
      · exact .inl rfl
    · exact .inr h
/-- What is left of a node. -/
structure Kept (σ τ : St) (i : Nat) : Prop where
  n : σ.n ≤ τ.n
  kind : (σ.nd i).kind ≠ 7 → (τ.nd i).kind = (σ.nd i).kind
  M : (τ.nd i).M = (σ.nd i).M
  first : (τ.nd i).first = (σ.nd i).first
  need : (τ.nd i).need = (σ.nd i).need
  last : (τ.nd i).last = (σ.nd i).last ∨ (τ.nd i).last = σ.line
  line : τ.line = σ.line
  kids : (σ.nd i).kids ≠ [] → (τ.nd i).kids ≠ []
theorem Kept.refl (σ : St) (i : Nat) : Kept σ σ i := ⟨Nat.le_refl _, fun _ => rfl, rfl, rfl, rfl, .inl rfl, rfl, id⟩
theorem Kept.trans {σ τ υ : St} {i : Nat} (h : Kept σ τ i) (g : Kept τ υ i) : Kept σ υ i :=
  ⟨Nat.le_trans h.n g.n, fun x => (g.kind (by rw [h.kind x]; exact x)).trans (h.kind x), g.M.trans h.M, g.first.trans h.first, g.need.trans h.need, by
    rcases g.last with e | e
    · rw [e]; exact h.last
    · rw [e, h.line]; exact .inr rfl, g.line.trans h.line, fun x => g.kids (h.kids x)⟩
theorem Kept.same {σ τ : St} {i : Nat} (e1 : τ.n = σ.n) (e2 : τ.nd = σ.nd) (e3 : τ.line = σ.line) : Kept σ τ i :=
  ⟨by omega, fun _ => by rw [e2], by rw [e2], by rw [e2], by rw [e2], .inl (by rw [e2]), e3, fun x => by rw [e2]; exact x⟩
theorem kept_touch (σ : St) (j i : Nat) : Kept σ (σ.touch j) i := by
  have e := touch_nd σ j i
  refine ⟨Nat.le_refl _, fun _ => by rw [e], by rw [e], by rw [e], by rw [e], touchA_or _ _ _ _ _, rfl, fun x => by rw [e]; exact x⟩
theorem kept_lay (σ : St) (d : Nd) (i : Nat) (hi : i < σ.n) : Kept σ (σ.lay d) i := by
  have h3 : (σ.lay0 d.kind).n = σ.n := by unfold St.lay0; split <;> rfl
  have h4 : (σ.lay0 d.kind).line = σ.line := by unfold St.lay0; split <;> rfl
  have h5 : (σ.lay0 d.kind).nd = σ.nd := by unfold St.lay0; split <;> rfl
  have k1 : Kept σ (σ.lay0 d.kind) i := .same h3 h5 h4
  have k2 : Kept (σ.lay0 d.kind) ((σ.lay0 d.kind).lay1 d) i := by
    have e : ((σ.lay0 d.kind).lay1 d).nd i = if i = (σ.lay0 d.kind).last then { (σ.lay0 d.kind).nd i with kids := ((σ.lay0 d.kind).nd i).kids ++ [(σ.lay0 d.kind).n] } else (σ.lay0 d.kind).nd i := by
      show (if i = (σ.lay0 d.kind).n then _ else _) = _
      rw [h3, if_neg (by omega)]
    by_cases c : i = (σ.lay0 d.kind).last
    · rw [if_pos c] at e
      exact ⟨Nat.le_succ _, fun _ => by rw [e], by rw [e], by rw [e], by rw [e], .inl (by rw [e]), rfl, fun _ => by rw [e]; simp⟩
    · rw [if_neg c] at e
      exact ⟨Nat.le_succ _, fun _ => by rw [e], by rw [e], by rw [e], by rw [e], .inl (by rw [e]), rfl, fun x => by rw [e]; exact x⟩
  exact (k1.trans k2).trans (kept_touch _ σ.n i)
theorem kept_upd (σ : St) (j : Nat) (f : Nd → Nd) (i : Nat) (hk : (σ.nd j).kind ≠ 7 → (f (σ.nd j)).kind = (σ.nd j).kind) (hM : (f (σ.nd j)).M = (σ.nd j).M) (hf : (f (σ.nd j)).first = (σ.nd j).first) (hn : (f (σ.nd j)).need = (σ.nd j).need)
    (hl : (f (σ.nd j)).last = (σ.nd j).last) (hkk : (f (σ.nd j)).kids = (σ.nd j).kids) : Kept σ (σ.put j f) i := by
  have e : (σ.put j f).nd i = if i = j then f (σ.nd j) else σ.nd i := by
    show upd σ.nd j f i = _
    rfl
  by_cases c : i = j
  · subst c
    rw [if_pos rfl] at e
    exact ⟨Nat.le_refl _, fun x => by rw [e]; exact hk x, by rw [e, hM], by rw [e, hf], by rw [e, hn], .inl (by rw [e, hl]), rfl, fun x => by rw [e, hkk]; exact x⟩
  · rw [if_neg c] at e
    exact ⟨Nat.le_refl _, fun x => by rw [e], by rw [e], by rw [e], by rw [e], .inl (by rw [e]), rfl, fun x => by rw [e]; exact x⟩
theorem Op.kept {σ τ : St} {b : Nat} (o : Op σ τ b) (i : Nat) (hi : i < σ.n) : Kept σ τ i := by
  cases o with
  | touch j h => exact kept_touch σ j i
  | lay d o hk h4 ho => exact (kept_lay σ d i hi).trans (.same rfl rfl rfl)
  | enter d hk hl h4 hh => exact (kept_lay σ d i hi).trans (.same rfl rfl rfl)
  | line j s h => exact kept_upd σ j _ i (fun _ => rfl) rfl rfl rfl rfl rfl
  | head j N h hk => exact kept_upd σ j _ i (fun x => absurd hk x) rfl rfl rfl rfl rfl
  | _ => exact .same rfl rfl rfl
theorem Ops.kept {σ τ : St} {b : Nat} (o : Ops σ τ b) (i : Nat) (hi : i < σ.n) : Kept σ τ i := by
  induction o with
  | nil => exact .refl _ _
  | snoc _ o ih => exact ih.trans (o.kept i (Nat.lt_of_lt_of_le hi ih.n))
section
variable (F : Bs → List Ref × Bs) (U : Bs → Bs) (nt : Bool)
theorem after_ops {σ : St} (h : Good σ) : ∃ b, Ops σ (σ.after F U nt) b := by
  obtain ⟨b2, o2, _⟩ := Ops.takes h
  have h2 := h.ops o2
  unfold St.after
  split
  · exact ⟨_, o2⟩
  · obtain ⟨b3, o3, _⟩ := Ops.starts F U nt (σ.takes.2.s.length + 1) _ h2
    split
    · exact ⟨_, o2.trans o3⟩
    · obtain ⟨b4, o4, _⟩ := Ops.text (h2.ops o3)
      exact ⟨_, (o2.trans o3).trans o4⟩
theorem one_kept {σ : St} (h : Good σ.line0) (i : Nat) (hi : i < σ.n) : Kept σ (σ.one F U nt) i := by
  obtain ⟨b, o, _⟩ := Ops.one h F U nt
  exact (Kept.same (σ := σ) (τ := σ.line0) rfl rfl rfl).trans (o.kept i hi)
theorem meets_began : ∀ (k : Nat) (σ : St), (σ.meets k).began = σ.began
  | 0, _ => rfl
  | k + 1, σ => by
    rw [St.meets]
    split
    · split
      · rw [meets_began k]; exact (meet_keeps σ _).2.2.2.2.1
      · exact (meet_keeps σ _).2.2.2.2.1
    · rfl
/-! ### Behind a rule -/
def Alone (σ τ : St) : Prop := Sim 0 1 2 [] [1] (fun _ => []) σ.line0 { τ with met := 1, began := false } ∧ (τ.nd 1).kind = 9 ∧ 1 < τ.n
theorem alone_step {σ τ : St} (h : Alone σ τ) (s : Bs) (k : Nat) (hk : σ.line ≤ k) : Alone ((σ.at' s k).one F U nt) ((τ.at' s (k + 2)).one F U nt) ∧ ((σ.at' s k).one F U nt).line = k := by
  obtain ⟨h, h9, hn⟩ := h
  have a := Sim.atLine h s k 0 hk (.inl rfl)
  have a' : Sim 0 1 2 [] [1] (fun _ => []) (σ.at' s k).line0 (τ.at' s (k + 2)).line0 := a
  have hl : τ.opn.length = σ.opn.length := by have := congrArg List.length h.opn; exact (show τ.opn.length = σ.line0.opn.length by simpa using this)
  have m := Sim.meets σ.opn.length _ _ a'
  have f := Sim.after F U nt m (.inr (by rw [meets_began, meets_began]; rfl))
  have e1 : (σ.at' s k).one F U nt = ((σ.at' s k).line0.meets σ.opn.length).after F U nt := one_after F U nt _
  have e2 : (τ.at' s (k + 2)).one F U nt = ((τ.at' s (k + 2)).line0.meets σ.opn.length).after F U nt := by rw [← hl]; exact one_after F U nt _
  have kp := one_kept F U nt (σ := τ.at' s (k + 2)) a'.gt 1 hn
  have kl := one_kept F U nt (σ := σ.at' s k) a'.gs 0 a'.npos
  refine ⟨⟨?_, ?_, ?_⟩, kl.line⟩
  · rw [e1, e2]; exact f.next
  · rw [kp.kind (by show (τ.nd 1).kind ≠ 7; rw [h9]; decide)]; exact h9
  · exact Nat.lt_of_lt_of_le hn kp.n
theorem alone_run : ∀ (l : List Bs) (σ τ : St) (k : Nat), Alone σ τ → σ.line ≤ k → Alone (St.run F U nt l k σ) (St.run F U nt l (k + 2) τ)
  | [], _, _, _, h, _ => h
  | s :: l, σ, τ, k, h, hk => by
    obtain ⟨g, gl⟩ := alone_step F U nt h s k hk
    rw [run_cons, run_cons, show k + 2 + 1 = (k + 1) + 2 by omega]
    exact alone_run l _ _ (k + 1) g (by omega)
theorem run_line (l : List Bs) (k : Nat) (σ : St) (x y : Nat) (z : Bs) : (St.run F U nt l k { σ with line := x, s := z, col := y }).nd = (St.run F U nt l k σ).nd ∧ (St.run F U nt l k { σ with line := x, s := z, col := y }).n = (St.run F U nt l k σ).n := by
  cases l with
  | nil => exact ⟨rfl, rfl⟩
  | cons s l => exact ⟨rfl, rfl⟩
end
section
variable (F : Bs → List Ref × Bs) (U : Bs → Bs) (nt : Bool)
theorem rule_first : Flat (St.run F U nt [[42, 42, 42], []] 0 St.init) [{ kind := 9, parent := some 0 }] ∧ (St.run F U nt [[42, 42, 42], []] 0 St.init).leaf = none ∧ (St.run F U nt [[42, 42, 42], []] 0 St.init).line = 1 ∧ Good (St.run F U nt [[42, 42, 42], []] 0 St.init).line0 := by
  have r0 := Ran.run (P := 1000) (by decide) F U nt [[42, 42, 42], []] 0 1 0 0 St.init Ran.init (by decide)
  have hg := r0.good
  have h0 := Flat.init.at' [42, 42, 42] 0
  have e1 : (St.init.at' [42, 42, 42] 0).one F U nt = (St.init.at' [42, 42, 42] 0).line0.lay { kind := 9 } := by
    rw [one_flat F U nt Flat.init]
    have hl0 : (St.init.at' [42, 42, 42] 0).line0.leaf = none := rfl
    unfold St.after
    rw [Sim.takes_none _ hl0]
    dsimp only
    rw [if_neg Bool.false_ne_true, starts_step]
    have c1 : (St.init.at' [42, 42, 42] 0).line0.blank = false := rfl
    have c2 : (St.init.at' [42, 42, 42] 0).line0.w = 0 := rfl
    have c3 : (St.init.at' [42, 42, 42] 0).line0.quotes = false := rfl
    have c4 : (St.init.at' [42, 42, 42] 0).line0.t = [42, 42, 42] := rfl
    have c5 : (St.init.at' [42, 42, 42] 0).line0.begins F U 0 [42, 42, 42] = (true, (St.init.at' [42, 42, 42] 0).line0.lay { kind := 9 }) := by
      unfold St.begins
      rw [show (Sc.atx [42, 42, 42]).1 = 0 from rfl, show (Sc.fence [42, 42, 42]).2.1 = 0 from rfl, show Sc.htmlStart [42, 42, 42] = 0 from rfl, show Sc.setext [42, 42, 42] = 0 from rfl, show Sc.rule [42, 42, 42] = true from rfl]
      rfl
    rw [c1, c2, c3, c4, c5]
    simp
  have g1 := h0.lay rfl { kind := 9 } rfl
  rw [← e1] at g1
  have l1 : ((St.init.at' [42, 42, 42] 0).one F U nt).leaf = none := by rw [e1]; rfl
  have m1 : ((St.init.at' [42, 42, 42] 0).one F U nt).met = 1 := by rw [e1]; rfl
  have g2 := Flat.at' g1 [] 1
  have e2 : (((St.init.at' [42, 42, 42] 0).one F U nt).at' [] 1).one F U nt = { (((St.init.at' [42, 42, 42] 0).one F U nt).at' [] 1).line0 with opn := [0] } := by
    rw [one_flat F U nt g1]
    have hl0 : (((St.init.at' [42, 42, 42] 0).one F U nt).at' [] 1).line0.leaf = none := l1
    generalize hx : (((St.init.at' [42, 42, 42] 0).one F U nt).at' [] 1).line0 = x at *
    have hb : x.blank = true := by rw [← hx]; rfl
    have hm : x.met = 1 := by rw [← hx]; rfl
    unfold St.after
    rw [Sim.takes_none _ hl0]
    dsimp only
    rw [if_neg Bool.false_ne_true, starts_step, hb, if_pos rfl]
    dsimp only
    rw [if_neg Bool.false_ne_true]
    unfold St.text
    have hp : x.plain = false := by unfold St.plain; rw [hl0]; simp
    rw [hb, if_pos rfl, hp, if_neg Bool.false_ne_true, hl0, g2.opn, hm]
    simp only [ite_self]
    rfl
  have er : St.run F U nt [[42, 42, 42], []] 0 St.init = (((St.init.at' [42, 42, 42] 0).one F U nt).at' [] 1).one F U nt := rfl
  rw [er] at hg ⊢
  rw [e2] at hg ⊢
  exact ⟨g2.same g2.opn.symm rfl rfl, l1, rfl, hg⟩
theorem parse_apart (l : List Bs) : ∃ S T N M fl f la, parse F U nt ([42, 42, 42] :: [] :: l) = (Tr.mk 9 S T N M fl f la [] :: trSs 2 (parse F U nt l).1, (parse F U nt l).2) := by
  obtain ⟨g, gl, gi, gg⟩ := rule_first F U nt
  have er : St.run F U nt ([42, 42, 42] :: [] :: l) 0 St.init = St.run F U nt l 2 (St.run F U nt [[42, 42, 42], []] 0 St.init) := run_append F U nt [[42, 42, 42], []] l 0 St.init
  generalize St.run F U nt [[42, 42, 42], []] 0 St.init = τ at *
  have e1 := g.nd 0 _ rfl
  have hS : Alone St.init { τ with line := 2, s := [], col := 0 } :=
    ⟨{ rc := by decide
       gs := Good.init
       gt := gg.same rfl rfl rfl rfl (by show τ.line ≤ 2; rw [gi]; decide) (fun j => ⟨rfl, rfl, rfl, rfl⟩) (fun j => .inl rfl)
       nd := fun j h1 h2 => by have : j < 1 := h2; omega
       kids0 := g.root.2.2
       kind0 := by show (τ.nd 0).kind ≠ 3; rw [g.root.1]; decide
       low := fun j hj => by omega
       n := g.n
       opn := g.opn
       met := rfl
       leaf := gl
       line := rfl
       s := rfl
       col := .inl rfl }, by show (τ.nd 1).kind = 9; rw [e1], by show 1 < τ.n; rw [g.n]; decide⟩
  obtain ⟨h, k9, hn⟩ := alone_run F U nt l _ _ 0 hS (Nat.le_refl 0)
  obtain ⟨r1, r2⟩ := run_line F U nt l 2 τ 2 0 []
  have hk : ((St.run F U nt l 2 { τ with line := 2, s := [], col := 0 }).nd 1).kids = [] := by
    by_cases c : ((St.run F U nt l 2 { τ with line := 2, s := [], col := 0 }).nd 1).kids = []
    · exact c
    · have := h.gt.holds 1 hn c
      have k9' : ((St.run F U nt l 2 { τ with line := 2, s := [], col := 0 }).nd 1).kind = 9 := k9
      unfold Holds at this
      have k9'' := this
      simp only [k9'] at k9''
      omega
  have hnn := h.n
  have hgs := h.gs
  have hR := h.root_mv F (St.run F U nt l 0 St.init).n
  unfold parse
  dsimp only
  rw [er, ← r1, ← r2]
  have hn2 : (St.run F U nt l (0 + 2) { τ with line := 2, s := [], col := 0 }).n = (St.run F U nt l 0 St.init).n + 1 := hnn
  have hR2 := fun X hX => hR X [] [] hX
  have fu := blocks_fuel F hgs 0 [] h.npos 1 (St.run F U nt l 0 St.init).n (Nat.le_refl _)
  have fu' : blocks F (St.run F U nt l 0 St.init).nd ((St.run F U nt l 0 St.init).n + 1) 0 [] = blocks F (St.run F U nt l 0 St.init).nd (St.run F U nt l 0 St.init).n 0 [] := fu
  generalize St.run F U nt l (0 + 2) { τ with line := 2, s := [], col := 0 } = T at *
  have hb : ∀ m, blocks F T.nd m 1 [] = ([], []) := fun m => by
    cases m with
    | zero => rfl
    | succ m => rw [blocks, hk]; rfl
  have hc : content F T.nd 1 [] = ((T.nd 1).S, (T.nd 1).flag, [], true) := by
    unfold content; dsimp only; rw [k9]; simp
  have hR3 := hR2 [Tr.mk 9 (T.nd 1).S (T.nd 1).T (T.nd 1).N (T.nd 1).M (T.nd 1).flag (T.nd 1).first (T.nd 1).last []] (by
    show tell F T.nd (blocks F T.nd _) ([], []) 1 = _
    unfold tell
    dsimp only
    rw [hc, hb, k9]
    rfl)
  refine ⟨(T.nd 1).S, (T.nd 1).T, (T.nd 1).N, (T.nd 1).M, (T.nd 1).flag, (T.nd 1).first, (T.nd 1).last, ?_⟩
  rw [hn2]
  refine hR3.trans ?_
  show ([Tr.mk 9 _ _ _ _ _ _ _ []] ++ trSs 2 (blocks F (St.run F U nt l 0 St.init).nd ((St.run F U nt l 0 St.init).n + 1) 0 []).1, (blocks F (St.run F U nt l 0 St.init).nd ((St.run F U nt l 0 St.init).n + 1) 0 []).2) = _
  rw [fu']
  rfl
end
end Bk
end Go.Proofs.YtehmcahdjldhbaaGreatDoor
end
