/- Parts of this session's proof, one behind the other: F4 LU F5 LI. -/
import Derived.Test.YtehmcahdjldhbaaGreatDoorV03
import Derived.Deep.AppendLies
section
set_option linter.unusedVariables false
set_option linter.unusedSimpArgs false
set_option maxRecDepth 100000
namespace Go.Proofs.YtehmcahdjldhbaaGreatDoor
open Wk
namespace Bk
namespace Sim
variable {r c dl : Nat} {pre pk : List Nat} {K : Nat → List Nat} {σ τ : St}
end Sim
section
variable (F : Bs → List Ref × Bs) (U : Bs → Bs) (nt : Bool)
theorem cnt_le (s : Bs) : cnt s ≤ s.length := by unfold cnt; exact List.length_filter_le _ _
theorem after_in {σ τ : St} (hl : σ.leaf = none) (hl2 : τ.leaf = none) (m : Nat) (hm : τ.s.length < m) (h : σ.starts F U nt (σ.s.length + 1) = τ.starts F U nt m) : σ.after F U nt = τ.after F U nt := by
  have hs : ∀ k, τ.s.length < k → τ.starts F U nt k = τ.starts F U nt (τ.s.length + 1) := by
    intro k hk
    induction k with
    | zero => omega
    | succ k ih =>
      by_cases e : k = τ.s.length
      · rw [e]
      · rw [starts_more F U nt k τ (by have := cnt_le τ.s; omega)]; exact ih (by omega)
  unfold St.after
  rw [Sim.takes_none _ hl, Sim.takes_none _ hl2]
  dsimp only
  rw [if_neg Bool.false_ne_true, if_neg Bool.false_ne_true, h, hs m hm]
end
end Bk
end Go.Proofs.YtehmcahdjldhbaaGreatDoor
end
section
open Go Go.RowKit Go.Proofs.YtehmcahdjldhbaaGreatDoorW.PrintWords
set_option linter.unusedVariables false
set_option linter.unusedSimpArgs false
set_option maxRecDepth 100000
namespace Go.Proofs.YtehmcahdjldhbaaGreatDoor
open Wk
namespace Tx
open Bk (strV TS LinesAt NilOk ParsePost parse toSs toBs toS k32 k63 TBk Tr RefRow hasTab)
theorem rowB {w : World} {A : Option Addr} {n : Nat} {xs : List Bk.S32} (h : Kd.C k32 w A n xs) (i : Nat) (h1 : i < n) (x : Bk.S32) (hx : xs[i]? = some x) : ∃ ad A8 c8, A = some ad ∧ w.cell? (ad.add (i * 9)) = some (.int .i64 x.f0) ∧ w.cell? ⟨(ad.add (i * 9)).block, (ad.add (i * 9)).off + 4, none⟩ = some (.int .i64 x.f4) ∧
    w.cell? ⟨(ad.add (i * 9)).block, (ad.add (i * 9)).off + 6, none⟩ = some (.int .i64 x.f6) ∧ w.cell? ⟨(ad.add (i * 9)).block, (ad.add (i * 9)).off + 7, none⟩ = some (.int .i64 x.f7) ∧ w.cell? ⟨(ad.add (i * 9)).block, (ad.add (i * 9)).off + 8, none⟩ = some (.slice A8 x.f8.length c8) ∧ x.f8.length ≤ c8 ∧ Kd.C k32 w A8 x.f8.length x.f8 := by
  obtain ⟨ad, A8, c8, e, a0, _, _, _, a4, _, a6, a7, a8, l8, C⟩ := Bk.at_T32 h i (by omega) (by omega)
  have er : Bk.rd_T32 xs (i : Int) = x := by
    unfold Bk.rd_T32
    rw [Int.toNat_natCast, List.getD_eq_getElem?_getD, hx]; rfl
  rw [er] at l8 C
  rw [er, Int.toNat_natCast] at a0 a4 a6 a7 a8
  exact ⟨ad, A8, c8, e, a0, a4, a6, a7, a8, l8, C⟩
theorem RefRow.below {w w1 : World} {B : Nat} {v : Value} {l : List Bk.Ref} (h : RefRow w B v l) (hb : Below w.heap.size w w1) : RefRow w1 B v l := ⟨Bk.own_below h.1 hb, h.2⟩
theorem heap_alloc_at (w : World) (o : Obj) : (w.alloc o).heap[w.heap.size]? = some o := by show (w.heap.push _)[w.heap.size]? = _; simp
end Tx
end Go.Proofs.YtehmcahdjldhbaaGreatDoor
end
section
set_option linter.unusedVariables false
set_option linter.unusedSimpArgs false
set_option maxRecDepth 100000
namespace Go.Proofs.YtehmcahdjldhbaaGreatDoor
open Wk
namespace Bk
section
variable (F : Bs → List Ref × Bs) (U : Bs → Bs) (nt : Bool)
theorem ops_kids {σ τ : St} {b : Nat} (o : Ops σ τ b) (h0 : 0 < σ.n) (h : (σ.nd 0).kids ≠ []) : (τ.nd 0).kids ≠ [] := (o.kept 0 h0).kids h
theorem flat_kids {σ : St} {L : List Nd} (h : Flat σ L) (h0 : L ≠ []) : (σ.nd 0).kids ≠ [] := by
  rw [h.root.2.2]
  cases L with
  | nil => exact absurd rfl h0
  | cons a t => simp [List.range_succ_eq_map]
theorem app_ne (L : List Nd) (d : Nd) : L ++ [d] ≠ [] := by simp
theorem first_kids {σ : St} (hf : Flat σ []) (hg : Good σ) (hm : σ.met = 1) (hl : σ.leaf = none) (hb : σ.blank = false) : ((σ.after F U nt).nd 0).kids ≠ [] := by
  have hgo : σ.goes = false := by unfold St.goes; rw [hl]; rfl
  have enterK : ∀ (τ : St) (d : Nd), Flat τ [] → τ.met = 1 → d.kids = [] → ((τ.enter d).nd 0).kids ≠ [] ∧ 0 < (τ.enter d).n := fun τ d ht hm hk => by
    have g := ht.lay hm d hk
    exact ⟨show ((τ.lay d).nd 0).kids ≠ [] from flat_kids g (app_ne _ _), by show 0 < (τ.lay d).n; rw [g.n]; omega⟩
  have fin : ∀ (m : Nat) (τ : St), Good τ → 0 < τ.n → (τ.nd 0).kids ≠ [] → ((if (τ.starts F U nt m).1 then (τ.starts F U nt m).2 else (τ.starts F U nt m).2.text).nd 0).kids ≠ [] := fun m τ g hn hk => by
    obtain ⟨b3, o3, _⟩ := Ops.starts F U nt m τ g
    split
    · exact ops_kids o3 hn hk
    · obtain ⟨b4, o4, _⟩ := Ops.text (g.ops o3)
      exact ops_kids (o3.trans o4) hn hk
  unfold St.after
  rw [Sim.takes_none _ hl]
  dsimp only
  rw [if_neg Bool.false_ne_true, starts_step, hb, if_neg Bool.false_ne_true]
  split
  · rw [hgo, if_neg Bool.false_ne_true]
    dsimp only
    rw [if_pos rfl]
    unfold St.code
    have hp : σ.plain = false := by unfold St.plain; rw [hl]; simp
    rw [hp, if_neg Bool.false_ne_true]
    have g := hf.layLeaf hm { kind := 5 } rfl
    have g2 := g.1.add g.2 ((σ.layLeaf { kind := 5 }).without 4)
    exact flat_kids g2.1 (app_ne _ _)
  · split
    · have hq : Flat σ.quoted [] ∧ σ.quoted.met = 1 ∧ Good σ.quoted := by
        refine ⟨?_, ?_, hg.ops (Ops.quoted σ)⟩
        · unfold St.quoted; split <;> exact hf.same rfl rfl rfl
        · unfold St.quoted; split <;> exact hm
      have e := enterK σ.quoted { kind := 2 } hq.1 hq.2.1 rfl
      exact fin _ _ (hq.2.2.op (.enter _ { kind := 2 } rfl rfl (fun x => by cases x) ⟨.inr (.inl rfl), by decide⟩)) e.2 e.1
    · split
      · rename_i hbeg
        dsimp only
        rw [if_pos rfl]
        have hh : ∀ lv, σ.headOk F lv = false := fun lv => by
          unfold St.headOk
          split
          · rfl
          · rw [hgo]; simp
        unfold St.begins at hbeg ⊢
        split at hbeg
        · rename_i c; rw [if_pos c]
          exact flat_kids (hf.lay hm _ rfl) (app_ne _ _)
        · rename_i c; rw [if_neg c]
          split at hbeg
          · rename_i c; rw [if_pos c]
            exact flat_kids (hf.layLeaf hm _ rfl).1 (app_ne _ _)
          · rename_i c; rw [if_neg c]
            split at hbeg
            · rename_i c; rw [if_pos c]
              dsimp only
              split
              · exact flat_kids (Flat.same (hf.layLeaf hm { kind := 6, N := Sc.htmlStart σ.t, lines := [σ.s] } rfl).1 rfl rfl rfl) (app_ne _ _)
              · exact flat_kids (hf.layLeaf hm _ rfl).1 (app_ne _ _)
            · rename_i c; rw [if_neg c]
              rw [hh, if_neg Bool.false_ne_true] at hbeg ⊢
              split at hbeg
              · rename_i c; rw [if_pos c]
                exact flat_kids (hf.lay hm _ rfl) (app_ne _ _)
              · cases hbeg
      · split
        · rename_i hno
          have og := Ops.note σ nt
          refine fin _ _ (hg.ops og) (Nat.lt_of_lt_of_le (by rw [hf.n]; omega) (og.kept 0 (by rw [hf.n]; omega)).n) ?_
          unfold St.note at hno ⊢
          split at hno
          · cases hno
          · rename_i c
            rw [if_neg c]
            dsimp only
            have e := enterK (σ.past (label σ.t).2) { kind := 13, S := (label σ.t).1 } (hf.same rfl rfl rfl) hm rfl
            exact e.1
        · split
          · rename_i hit
            have og := Ops.item hg
            refine fin _ _ (hg.ops og) (Nat.lt_of_lt_of_le (by rw [hf.n]; omega) (og.kept 0 (by rw [hf.n]; omega)).n) ?_
            unfold St.item at hit ⊢
            dsimp only at hit ⊢
            split at hit
            · cases hit
            · rename_i c
              rw [if_neg c]
              split at hit
              · cases hit
              · rename_i c2
                rw [if_neg c2]
                generalize hx : (σ.past (marker σ.t).2.2.1).skipped (σ.itemGap σ.w σ.t (marker σ.t).2.2.1) = x
                have fx : Flat x [] := by rw [← hx]; exact hf.same rfl rfl rfl
                have mx : x.met = 1 := by rw [← hx]; exact hm
                have hne : (x.nd x.last).kind ≠ 3 := by rw [last_flat fx mx, fx.root.1]; decide
                rw [if_pos (Or.inl hne)]
                have e := enterK x { kind := 3, N := (marker σ.t).1, M := (marker σ.t).2.1.toNat } fx mx rfl
                generalize hy : x.enter { kind := 3, N := (marker σ.t).1, M := (marker σ.t).2.1.toNat } = y at *
                have k := kept_lay y { kind := 4, need := σ.w + (marker σ.t).2.2.1 + σ.itemGap σ.w σ.t (marker σ.t).2.2.1 } 0 e.2
                exact k.kids e.1
          · dsimp only
            rw [if_neg Bool.false_ne_true]
            rename_i hno hit
            unfold St.text
            rw [hb, if_neg Bool.false_ne_true, hgo, if_neg Bool.false_ne_true]
            dsimp only
            have g := hf.layLeaf hm { kind := 7 } rfl
            exact flat_kids (g.1.add g.2 _).1 (app_ne _ _)
def i1 (s : Bs) : St := ({ (St.init.at' s 0).line0 with col := 2 } : St).enter { kind := 3, N := 0, M := 43 }
def i2 (s : Bs) : St := (i1 s).enter { kind := 4, need := 2 }
theorem i1_good (s : Bs) : Good (i1 s) := by
  have g : Good ({ (St.init.at' s 0).line0 with col := 2 } : St) := Good.init.same rfl rfl rfl rfl (Nat.le_refl _) (fun j => ⟨rfl, rfl, rfl, rfl⟩) (fun j => .inl rfl)
  exact g.op (.enter _ { kind := 3, N := 0, M := 43 } rfl rfl (fun x => by cases x) ⟨.inr (.inr (.inl rfl)), by decide⟩)
theorem i2_good (s : Bs) : Good (i2 s) :=
  (i1_good s).op (.enter _ { kind := 4, need := 2 } rfl rfl (fun _ => by
    unfold i1
    rw [(Ops.enter_last _ _).1]; exact (Ops.enter_last _ _).2) ⟨.inr (.inr (.inr (.inl rfl))), by decide⟩)
set_option maxHeartbeats 4000000 in
theorem i2_sim (s : Bs) (hs : 9 ∉ s) : Sim 2 2 0 [0, 1] [] (fun j => [j + 1]) (St.init.at' s 0).line0 (i2 s) :=
  { rc := by decide
    gs := Good.init.same rfl rfl rfl rfl (Nat.le_refl _) (fun j => ⟨rfl, rfl, rfl, rfl⟩) (fun j => .inl rfl)
    gt := i2_good s
    nd := fun j h1 h2 => by have : j < 1 := h2; omega
    kids0 := rfl
    kind0 := by show (4 : Nat) ≠ 3; decide
    low := fun j hj => by
      have : j = 0 ∨ j = 1 := by omega
      rcases this with e | e <;> subst e <;> rfl
    n := rfl
    opn := rfl
    met := rfl
    leaf := rfl
    line := rfl
    s := rfl
    col := .inr hs }
def InI (σ τ : St) : Prop := Sim 2 2 0 [0, 1] [] (fun j => [j + 1]) σ.line0 { τ with met := 3, began := false } ∧ (τ.nd 1).kind = 3 ∧ (τ.nd 1).M = 43 ∧ (τ.nd 2).kind = 4 ∧ (τ.nd 2).need = 2 ∧ 2 < τ.n ∧ (σ.nd 0).kids ≠ []
set_option maxHeartbeats 8000000 in
theorem i2_facts (s : Bs) : ((i2 s).nd 1).kind = 3 ∧ ((i2 s).nd 1).M = 43 ∧ ((i2 s).nd 2).kind = 4 ∧ ((i2 s).nd 2).need = 2 ∧ (i2 s).n = 3 ∧ (i2 s).s = s ∧ (i2 s).leaf = none := ⟨rfl, rfl, rfl, rfl, rfl, rfl, rfl⟩
set_option maxHeartbeats 8000000 in
theorem i_first (b : UInt8) (t : Bs) (hs : 9 ∉ b :: t) (hb : b ≠ 32) : InI ((St.init.at' (b :: t) 0).one F U nt) ((St.init.at' (43 :: 32 :: b :: t) 0).one F U nt) ∧ ((St.init.at' (b :: t) 0).one F U nt).line = 0 := by
  have S := i2_sim (b :: t) hs
  obtain ⟨x1, x2, x3, x4, x5, x6, x7⟩ := i2_facts (b :: t)
  have n9 : b ≠ 9 := fun e => hs (e ▸ List.mem_cons_self ..)
  have hbk : Sc.blank b = false := by unfold Sc.blank; simp [n9, hb]
  have e1 : (St.init.at' (b :: t) 0).one F U nt = (St.init.at' (b :: t) 0).line0.after F U nt := one_flat F U nt Flat.init _ 0
  have e2 : (St.init.at' (43 :: 32 :: b :: t) 0).one F U nt = (i2 (b :: t)).after F U nt := by
    rw [one_flat F U nt Flat.init]
    refine after_in F U nt rfl x7 (t.length + 3) (by rw [x6]; simp) ?_
    rw [starts_step]
    have c1 : (St.init.at' (43 :: 32 :: b :: t) 0).line0.blank = false := rfl
    have c2 : (St.init.at' (43 :: 32 :: b :: t) 0).line0.w = 0 := rfl
    have c3 : (St.init.at' (43 :: 32 :: b :: t) 0).line0.quotes = false := rfl
    have c4 : (St.init.at' (43 :: 32 :: b :: t) 0).line0.t = 43 :: 32 :: b :: t := rfl
    have c5 : (St.init.at' (43 :: 32 :: b :: t) 0).line0.begins F U 0 (43 :: 32 :: b :: t) = (false, (St.init.at' (43 :: 32 :: b :: t) 0).line0) := by
      unfold St.begins
      rw [show (Sc.atx (43 :: 32 :: b :: t)).1 = 0 from rfl, show (Sc.fence (43 :: 32 :: b :: t)).2.1 = 0 from rfl, show Sc.htmlStart (43 :: 32 :: b :: t) = 0 from rfl, show Sc.setext (43 :: 32 :: b :: t) = 0 from rfl, show Sc.rule (43 :: 32 :: b :: t) = false from rfl]
      rfl
    have c6 : (St.init.at' (43 :: 32 :: b :: t) 0).line0.note nt (43 :: 32 :: b :: t) = (false, (St.init.at' (43 :: 32 :: b :: t) 0).line0) := by
      unfold St.note
      rw [show label (43 :: 32 :: b :: t) = ([], 0) from rfl, if_pos (Or.inl rfl)]
    have c7 : (St.init.at' (43 :: 32 :: b :: t) 0).line0.item 0 (43 :: 32 :: b :: t) = (true, i2 (b :: t)) := by
      have mk : marker (43 :: 32 :: b :: t) = (0, 43, 1, false) := rfl
      have gp : (St.init.at' (43 :: 32 :: b :: t) 0).line0.itemGap 0 (43 :: 32 :: b :: t) 1 = 1 := by
        have w1 : indW (32 :: b :: t) 1 = 1 := by simp [indW, n9, hb]
        have w2 : Sc.blanks (32 :: b :: t) = false := by simp [Sc.blanks, hbk]
        unfold St.itemGap
        show (if Sc.blanks (32 :: b :: t) = true ∨ 5 ≤ indW (32 :: b :: t) 1 then 1 else indW (32 :: b :: t) 1) = 1
        rw [w1, w2, if_neg (by simp)]
      have sk : skip (32 :: b :: t) 1 1 = (b :: t, 2) := by rw [skip, if_neg (by decide), if_pos rfl]; exact skip_zero _ 2
      have ps : ((St.init.at' (43 :: 32 :: b :: t) 0).line0.past 1).skipped 1 = ({ (St.init.at' (b :: t) 0).line0 with col := 2 } : St) := by
        show ({ (St.init.at' (b :: t) 0).line0 with s := (skip (32 :: b :: t) 1 1).1, col := (skip (32 :: b :: t) 1 1).2 } : St) = _
        rw [sk]
        rfl
      unfold St.item
      rw [mk]
      dsimp only
      rw [if_neg (by decide), if_neg (by
        rintro ⟨_, x, _⟩
        cases x), gp, ps]
      rfl
    rw [c1, c2, c3, c4, c5, c6]
    dsimp only
    rw [c7]
    simp only [Bool.false_eq_true, if_false]
    rw [if_neg (by decide)]
    rfl
  have f := Sim.after F U nt S (.inl rfl)
  obtain ⟨b1, o⟩ := after_ops F U nt S.gt
  have kp1 := o.kept 1 (by rw [x5]; decide)
  have kp2 := o.kept 2 (by rw [x5]; decide)
  obtain ⟨b', o'⟩ := after_ops F U nt S.gs
  have hk := first_kids F U nt (σ := (St.init.at' (b :: t) 0).line0) (Flat.init.at' _ 0) S.gs rfl rfl (show Sc.blanks (b :: t) = false by simp [Sc.blanks, hbk])
  rw [e1, e2]
  refine ⟨⟨f.next, ?_, ?_, ?_, ?_, Nat.lt_of_lt_of_le (by rw [x5]; decide) kp1.n, hk⟩, o'.near.2⟩
  · rw [kp1.kind (by rw [x1]; decide)]; exact x1
  · rw [kp1.M]; exact x2
  · rw [kp2.kind (by rw [x3]; decide)]; exact x3
  · rw [kp2.need]; exact x4
theorem i_step {σ τ : St} (h : InI σ τ) (s : Bs) (hs : 9 ∉ s) (k : Nat) (hk : σ.line ≤ k) : InI ((σ.at' s k).one F U nt) ((τ.at' (32 :: 32 :: s) k).one F U nt) ∧ ((σ.at' s k).one F U nt).line = k := by
  obtain ⟨h, h1, h1M, h2, h2n, hn, hkids⟩ := h
  have a := Sim.atLine h s k 2 hk (.inr hs)
  generalize hτ : ({ τ with met := 2 + 1, began := false, s := s, col := 2, line := k + 0 } : St) = τ1
  have a2 : Sim 2 2 0 [0, 1] [] (fun j => [j + 1]) (σ.at' s k).line0 τ1 := by rw [← hτ]; exact a
  have hopn : τ.opn = 0 :: 1 :: σ.opn.map (mv 2 2) := h.opn
  have hl : τ.opn.length = σ.opn.length + 1 + 1 := by rw [hopn]; simp
  have hpos : 0 < σ.opn.length := Nat.lt_of_lt_of_le (show 0 < σ.line0.met from Nat.one_pos) h.gs.metL
  have hg1 : τ.opn.getD 1 0 = 1 := by rw [hopn]; rfl
  have hg2 : τ.opn.getD 2 0 = 2 := by
    have e' : σ.opn[0]? = some 0 := h.gs.root.1
    rw [List.getD_eq_getElem?_getD, hopn, List.getElem?_cons_succ, List.getElem?_cons_succ, List.getElem?_map, e']
    rfl
  have hkk : (τ.nd 2).kids = (σ.nd 0).kids.map (mv 2 2) := h.kids0
  have hkk0 : (τ.nd 2).kids.isEmpty = false := by
    rw [hkk]
    cases e : (σ.nd 0).kids with
    | nil => exact absurd e hkids
    | cons x y => rfl
  have hm : (τ.at' (32 :: 32 :: s) k).line0.meets τ.opn.length = τ1.meets σ.opn.length := by
    rw [hl, St.meets, if_pos (by show 1 < τ.opn.length; omega)]
    have eo : (τ.at' (32 :: 32 :: s) k).line0.opn.getD (τ.at' (32 :: 32 :: s) k).line0.met 0 = 1 := hg1
    have k1 : ((τ.at' (32 :: 32 :: s) k).line0.nd 1).kind = 3 := h1
    have m1 : (τ.at' (32 :: 32 :: s) k).line0.meetOk 1 = true := by
      unfold St.meetOk; rw [k1]; rfl
    have m2 : (τ.at' (32 :: 32 :: s) k).line0.meet 1 = (τ.at' (32 :: 32 :: s) k).line0 := by
      unfold St.meet; rw [k1]; rfl
    rw [eo, m1, if_pos rfl, m2]
    rw [St.meets, if_pos (by show 2 < τ.opn.length; omega)]
    have eo2 : ({ (τ.at' (32 :: 32 :: s) k).line0 with met := (τ.at' (32 :: 32 :: s) k).line0.met + 1 } : St).opn.getD ({ (τ.at' (32 :: 32 :: s) k).line0 with met := (τ.at' (32 :: 32 :: s) k).line0.met + 1 } : St).met 0 = 2 := hg2
    rw [eo2]
    generalize hx : ({ (τ.at' (32 :: 32 :: s) k).line0 with met := (τ.at' (32 :: 32 :: s) k).line0.met + 1 } : St) = x
    have k2 : (x.nd 2).kind = 4 := by rw [← hx]; exact h2
    have kn : (x.nd 2).need = 2 := by rw [← hx]; exact h2n
    have kk : (x.nd 2).kids.isEmpty = false := by rw [← hx]; exact hkk0
    have xw : x.w = 1 + (1 + indW s 2) := by rw [← hx]; rfl
    have xd : x.deepOk 2 = true := by unfold St.deepOk; rw [xw, decide_eq_true (by omega)]; rfl
    have m3 : x.meetOk 2 = true := by
      unfold St.meetOk; rw [k2, kk, kn, xd]; simp
    have m4 : x.meet 2 = x.skipped 2 := by
      unfold St.meet St.deep; rw [k2, kk, kn, xd, xw, show min (1 + (1 + indW s 2)) 2 = 2 by omega]; simp
    rw [m3, if_pos rfl, m4, ← hτ, ← hx]
    have sk : skip (32 :: 32 :: s) 0 2 = (s, 2) := by
      rw [skip, if_neg (by decide), if_pos rfl, skip, if_neg (by decide), if_pos rfl]; exact skip_zero s 2
    show St.meets σ.opn.length ({ (τ.at' s k).line0 with s := (skip (32 :: 32 :: s) 0 2).1, col := (skip (32 :: 32 :: s) 0 2).2, met := 3 } : St) = _
    rw [sk]
    rfl
  have m := Sim.meets σ.opn.length _ _ a2
  have bg1 : τ1.began = false := by rw [← hτ]
  have f := Sim.after F U nt m (.inr (by rw [meets_began, meets_began, bg1]; rfl))
  have e1 : (σ.at' s k).one F U nt = ((σ.at' s k).line0.meets σ.opn.length).after F U nt := one_after F U nt _
  have e2 : (τ.at' (32 :: 32 :: s) k).one F U nt = (τ1.meets σ.opn.length).after F U nt := by rw [← hm]; exact one_after F U nt _
  have n1 : τ1.n = τ.n := by rw [← hτ]
  have t1 : τ1.nd = τ.nd := by rw [← hτ]
  obtain ⟨b1, o1⟩ : ∃ b, Ops τ1 ((τ1.meets σ.opn.length).after F U nt) b := by
    have o := Ops.meets σ.opn.length τ1 a2.gt
    obtain ⟨b, o2⟩ := after_ops F U nt m.gt
    exact ⟨_, o.trans o2⟩
  have kp1 := o1.kept 1 (by rw [n1]; omega)
  have kp2 := o1.kept 2 (by rw [n1]; exact hn)
  have kl := one_kept F U nt (σ := σ.at' s k) a2.gs 0 a2.npos
  rw [e2]
  refine ⟨⟨by rw [e1]; exact f.next, ?_, ?_, ?_, ?_, Nat.lt_of_lt_of_le (by rw [n1]; exact hn) kp1.n, kl.kids hkids⟩, kl.line⟩
  · rw [kp1.kind (by rw [t1, h1]; decide), t1]; exact h1
  · rw [kp1.M, t1]; exact h1M
  · rw [kp2.kind (by rw [t1, h2]; decide), t1]; exact h2
  · rw [kp2.need, t1]; exact h2n
theorem i_run : ∀ (l : List Bs) (σ τ : St) (k : Nat), InI σ τ → σ.line ≤ k → (∀ s ∈ l, 9 ∉ s) → InI (St.run F U nt l k σ) (St.run F U nt (l.map fun s => 32 :: 32 :: s) k τ)
  | [], _, _, _, h, _, _ => h
  | s :: l, σ, τ, k, h, hk, hs => by
    obtain ⟨g, gl⟩ := i_step F U nt h s (hs s (List.mem_cons_self ..)) k hk
    rw [run_cons, List.map_cons, run_cons]
    exact i_run l _ _ (k + 1) g (by omega) fun x hx => hs x (List.mem_cons_of_mem _ hx)
theorem parse_items (b : UInt8) (t : Bs) (r : List Bs) (hb : b ≠ 32) (hs : ∀ s ∈ (b :: t) :: r, 9 ∉ s) : ∃ S T N fl f la S' T' N' M' fl' f' la', parse F U nt ((43 :: 32 :: b :: t) :: r.map fun s => 32 :: 32 :: s) =
    ([Tr.mk 3 S T N 43 fl f la [Tr.mk 4 S' T' N' M' fl' f' la' (parse F U nt ((b :: t) :: r)).1]], (parse F U nt ((b :: t) :: r)).2) := by
  obtain ⟨g, gl⟩ := i_first F U nt b t (hs _ (List.mem_cons_self ..)) hb
  obtain ⟨h, h1, h1M, h2, h2n, hn, hkids⟩ := i_run F U nt r _ _ 1 g (by omega) fun x hx => hs x (List.mem_cons_of_mem _ hx)
  have eσ : St.run F U nt ((b :: t) :: r) 0 St.init = St.run F U nt r 1 ((St.init.at' (b :: t) 0).one F U nt) := rfl
  have eτ : St.run F U nt ((43 :: 32 :: b :: t) :: r.map fun s => 32 :: 32 :: s) 0 St.init = St.run F U nt (r.map fun s => 32 :: 32 :: s) 1 ((St.init.at' (43 :: 32 :: b :: t) 0).one F U nt) := rfl
  unfold parse
  dsimp only
  rw [eσ, eτ]
  generalize St.run F U nt r 1 ((St.init.at' (b :: t) 0).one F U nt) = σ at *
  generalize St.run F U nt (r.map fun s => 32 :: 32 :: s) 1 ((St.init.at' (43 :: 32 :: b :: t) 0).one F U nt) = τ at *
  have hnn : τ.n = σ.n + 1 + 1 := h.n
  have hk0 : (τ.nd 0).kids = [1] := h.low 0 (by decide)
  have hk1 : (τ.nd 1).kids = [2] := h.low 1 (by decide)
  have hp : 0 < σ.n := h.npos
  obtain ⟨m, hm⟩ : ∃ m, σ.n = m + 1 := ⟨σ.n - 1, by omega⟩
  have hR := h.root_mv F m [] [] [] rfl
  have hR' : blocks F τ.nd (m + 1) 2 [] = ([] ++ trSs 0 (blocks F σ.nd (m + 1) 0 []).1, (blocks F σ.nd (m + 1) 0 []).2) := hR
  rw [trSs_zero, List.nil_append] at hR'
  have hc1 : content F τ.nd 1 [] = ((τ.nd 1).S, tight τ.nd 1, [], true) := by
    unfold content; dsimp only; rw [if_pos h1]
  have hc2 : content F τ.nd 2 [] = ((τ.nd 2).S, (τ.nd 2).flag, [], true) := by
    unfold content; dsimp only; rw [h2]; simp
  have hB : blocks F τ.nd (m + 1 + 1) 1 [] = ([Tr.mk 4 (τ.nd 2).S (τ.nd 2).T (τ.nd 2).N (τ.nd 2).M (τ.nd 2).flag (τ.nd 2).first (τ.nd 2).last (blocks F σ.nd (m + 1) 0 []).1], (blocks F σ.nd (m + 1) 0 []).2) := by
    rw [blocks, hk1]
    show tell F τ.nd (blocks F τ.nd (m + 1)) ([], []) 2 = _
    unfold tell
    dsimp only
    rw [hc2, hR', h2]
    rfl
  refine ⟨(τ.nd 1).S, (τ.nd 1).T, (τ.nd 1).N, tight τ.nd 1, (τ.nd 1).first, (τ.nd 1).last, (τ.nd 2).S, (τ.nd 2).T, (τ.nd 2).N, (τ.nd 2).M, (τ.nd 2).flag, (τ.nd 2).first, (τ.nd 2).last, ?_⟩
  rw [hnn, blocks, hk0, hm]
  show tell F τ.nd (blocks F τ.nd (m + 1 + 1)) ([], []) 1 = _
  unfold tell
  dsimp only
  rw [hc1, hB, h1, h1M]
  rfl
end
end Bk
end Go.Proofs.YtehmcahdjldhbaaGreatDoor
end
section
open Go Go.RowKit Go.Proofs.YtehmcahdjldhbaaGreatDoorW.PrintWords
set_option linter.unusedVariables false
set_option linter.unusedSimpArgs false
set_option maxRecDepth 100000
namespace Go.Proofs.YtehmcahdjldhbaaGreatDoor
open Wk
namespace Tx
open Bk (strV TS LinesAt NilOk ParsePost parse toSs toBs toS k32 k63 TBk Tr RefRow hasTab)
theorem toSs_one (t : Tr) : toSs [t] = [toS t] := by rw [toSs, toSs]
theorem toS_mk (kind : Nat) (S T : Bs) (N M : Nat) (flag : Bool) (f l : Nat) (kids : List Tr) : toS (.mk kind S T N M flag f l kids) = ⟨kind, mk S, mk T, N, M, flag, f, l, toSs kids⟩ := by rw [toS]
def itemLines : List Bs → List Bs
  | [] => []
  | s :: r => (43 :: 32 :: s) :: r.map fun s => 32 :: 32 :: s
def itemLine (j : Nat) (s : Bs) : Bs := if j = 0 then 43 :: 32 :: s else 32 :: 32 :: s
theorem itemLines_len (l : List Bs) : (itemLines l).length = l.length := by
  cases l with
  | nil => rfl
  | cons s r => simp [itemLines]
theorem itemLines_at (l : List Bs) (j : Nat) (s : Bs) (h : l[j]? = some s) : (itemLines l)[j]? = some (itemLine j s) := by
  cases l with
  | nil => simp at h
  | cons a r =>
    cases j with
    | zero => simp at h; subst h; rfl
    | succ j =>
      rw [List.getElem?_cons_succ] at h
      show ((43 :: 32 :: a) :: r.map fun s => 32 :: 32 :: s)[j + 1]? = _
      rw [List.getElem?_cons_succ, List.getElem?_map, h]
      unfold itemLine
      rw [if_neg (by omega)]; rfl
theorem itemLines_take (l : List Bs) (j : Nat) (s : Bs) (h : l[j]? = some s) : ((itemLines l).map strV).take (j + 1) = ((itemLines l).map strV).take j ++ [strV (itemLine j s)] := by
  have h1 := itemLines_at l j s h
  obtain ⟨h2, h3⟩ := List.getElem?_eq_some_iff.1 h1
  rw [List.take_succ_eq_append_getElem (by simpa using h2), List.getElem_map, h3]
set_option maxHeartbeats 16000000 in
theorem items_row (v : Value) (l : List Bs) (mask : Int) (w : World) (hE : Env w) (hv : LinesAt w v l) (hn : NilOk v) (h3 : -9223372036854775808 ≤ mask) (h4 : mask ≤ 9223372036854775807) :
    Calls Tryz.prog 5 #[v, .int .i64 mask] w fun e w' => e = .returned (.bool true) ∧ Below w.heap.size w w' := by
  obtain ⟨A, c, rfl⟩ := hv.form
  have AW := awake_any w hE
  have FE := fun w1 (hb : Below w.heap.size w w1) => few_any w1 _ l (hv.below hb)
  cases hf : few l with
  | false =>
    rw [hf] at FE
    go_enter Tryz.func5, Tryz.ntmps5
    go_wp2_with (first
      | (go_at_call 11; (with_reducible refine AW.mono ?_); rintro e w1 ⟨rfl, b1⟩)
      | (go_at_call 12; (with_reducible refine (FE _ b1).mono ?_); rintro e w2 ⟨rfl, b2⟩; have b3 := b1.trans (b2.mono b1.size)))
    go_ret
    exact ⟨rfl, b3⟩
  | true =>
    rw [hf] at FE
    have hf2 : l.length ≤ 40 ∧ ∀ s ∈ l, s.length ≤ 80 := by
      unfold few at hf
      simpa using hf
    by_cases h0 : l = []
    · have z0 : ((l.length : Int) == 0) = true := by rw [h0]; rfl
      clear h0
      go_enter Tryz.func5, Tryz.ntmps5
      go_wp2_with (first
        | (go_at_call 11; (with_reducible refine AW.mono ?_); rintro e w1 ⟨rfl, b1⟩)
        | (go_at_call 12; (with_reducible refine (FE _ b1).mono ?_); rintro e w2 ⟨rfl, b2⟩; have b3 := b1.trans (b2.mono b1.size)))
      go_ret
      exact ⟨rfl, b3⟩
    · have z0 : ((l.length : Int) == 0) = false := by simpa using h0
      have hcap : l.length ≤ c := by
        rcases hv with ⟨e, _⟩ | ⟨g, o, cap, e, h1, _⟩
        · exact absurd e h0
        · cases e; exact h1
      have TE := fun w1 (hb : Below w.heap.size w w1) => Bk.tabs_any w1 A c l (hv.below hb) hcap (by omega) (fun s hs => by have := hf2.2 s hs; omega)
      obtain ⟨g, o, rfl, hAt⟩ : ∃ g o, A = some ⟨g, o, none⟩ ∧ ∀ i s, l[i]? = some s → ∀ w1, Below w.heap.size w w1 → w1.cell? ⟨g, o + i, none⟩ = some (strV s) := by
        rcases hv with ⟨e, _⟩ | ⟨g, o, cap, e, h1, h2⟩
        · exact absurd e h0
        · cases e
          exact ⟨g, o, rfl, fun i s hs w1 h => (h.cell (World.block_lt_of_cell? _ _ (h2 i s hs))).trans (h2 i s hs)⟩
      obtain ⟨s0, r0, hl0⟩ := List.exists_cons_of_ne_nil h0
      replace hl0 := Lib.hid hl0
      have hc0 : ∀ w1, Below w.heap.size w w1 → w1.cell? ⟨g, o, none⟩ = some (.string (mk s0)) := fun w1 h => hAt 0 s0 (by rw [hl0.out]; rfl) w1 h
      have hS0 : Hid ((mk s0).data.toList = s0) := Lib.hid rfl
      have hS0z : (mk s0).size ≤ 80 := by
        rw [mk_size]; exact hf2.2 s0 (by rw [hl0.out]; exact List.mem_cons_self ..)
      generalize mk s0 = S0 at *
      have hp0 : 0 < l.length := List.length_pos_iff.2 h0
      cases ht : hasTab l with
      | true =>
        rw [ht] at TE
        go_enter Tryz.func5, Tryz.ntmps5
        go_wp2_with (first
          | (go_at_call 11; (with_reducible refine AW.mono ?_); rintro e w1 ⟨rfl, b1⟩)
          | (go_at_call 12; (with_reducible refine (FE _ b1).mono ?_); rintro e w2 ⟨rfl, b2⟩; have b3 := b1.trans (b2.mono b1.size))
          | (go_at_call 15; (with_reducible refine (TE _ b3).mono ?_); rintro e w3 ⟨rfl, b4⟩; have b5 := b3.trans (b4.mono b3.size); have c0 := hc0 _ b5))
        go_ret
        exact ⟨rfl, b5⟩
      | false =>
       rw [ht] at TE
       by_cases hE0 : S0.size = 0
       · have e0 : S0.toList = [] := by
           rw [toList_data]
           exact List.eq_nil_of_length_eq_zero (by rw [Array.length_toList]; exact hE0)
         have e0' : S0.toList.isEmpty = true := by rw [e0]; rfl
         go_enter Tryz.func5, Tryz.ntmps5
         go_wp2_with (first
          | (go_at_call 11; (with_reducible refine AW.mono ?_); rintro e w1 ⟨rfl, b1⟩)
          | (go_at_call 12; (with_reducible refine (FE _ b1).mono ?_); rintro e w2 ⟨rfl, b2⟩; have b3 := b1.trans (b2.mono b1.size))
          | (go_at_call 15; (with_reducible refine (TE _ b3).mono ?_); rintro e w3 ⟨rfl, b4⟩; have b5 := b3.trans (b4.mono b3.size); have c0 := hc0 _ b5))
         go_ret
         exact ⟨rfl, b5⟩
       · have hpS : 0 < S0.size := by omega
         have e0 : ¬ S0.toList = [] := by
           rw [toList_data]
           intro x
           have : S0.data.toList.length = 0 := by rw [x]; rfl
           rw [Array.length_toList] at this
           exact hE0 this
         have e0' : S0.toList.isEmpty = false := by
           cases e : S0.toList with
           | nil => exact absurd e e0
           | cons _ _ => rfl
         by_cases h32 : S0[0] = 32
         · have d32 : ((S0[0].toNat : Int) == 32) = true := by rw [h32]; rfl
           clear h32
           go_enter Tryz.func5, Tryz.ntmps5
           go_wp2_with (first
          | (go_at_call 11; (with_reducible refine AW.mono ?_); rintro e w1 ⟨rfl, b1⟩)
          | (go_at_call 12; (with_reducible refine (FE _ b1).mono ?_); rintro e w2 ⟨rfl, b2⟩; have b3 := b1.trans (b2.mono b1.size))
          | (go_at_call 15; (with_reducible refine (TE _ b3).mono ?_); rintro e w3 ⟨rfl, b4⟩; have b5 := b3.trans (b4.mono b3.size); have c0 := hc0 _ b5))
           go_ret
           exact ⟨rfl, b5⟩
         · have d32 : ((S0[0].toNat : Int) == 32) = false := by
             have h := beq_uu S0[0] 32
             have e : (((32 : UInt8).toNat : Nat) : Int) = 32 := rfl
             rw [e] at h
             rw [h]; simpa using h32
           have hnt : ∀ s ∈ l, 9 ∉ s := fun s hs h9 => by
             have : hasTab l = true := List.any_eq_true.2 ⟨s, hs, decide_eq_true h9⟩
             rw [ht] at this; cases this
           obtain ⟨b, t, hbt⟩ : ∃ b t, s0 = b :: t := List.exists_cons_of_ne_nil (fun x => by
             have := hS0.out
             rw [x] at this
             exact e0 (by rw [toList_data]; exact this))
           have hb32 : b ≠ 32 := fun x => h32 (by
             have e1 : S0.data.toList[0]? = some S0[0] := by
               rw [List.getElem?_eq_getElem (by rw [Array.length_toList]; exact hpS)]; rfl
             rw [hS0.out, hbt] at e1
             have := Option.some.inj e1
             rw [← this]; exact x)
           have hil : itemLines l = (43 :: 32 :: b :: t) :: r0.map fun s => 32 :: 32 :: s := by rw [hl0.out, hbt]; rfl
           have hs1 : ∀ s ∈ l, s.length ≤ 200 := fun s h => by have := hf2.2 s h; omega
           have hs2 : ∀ s ∈ itemLines l, s.length ≤ 200 := fun s h => by
             rw [hl0.out] at h
             rcases List.mem_cons.1 h with rfl | h
             · have := hf2.2 s0 (by rw [hl0.out]; exact List.mem_cons_self ..)
               simp; omega
             · obtain ⟨t', h', rfl⟩ := List.mem_map.1 h
               have := hf2.2 t' (by rw [hl0.out]; exact List.mem_cons_of_mem _ h')
               simp; omega
           have PA := fun w1 (hb : Below w.heap.size w w1) => parse_at w1 (hE.below hb) l _ (hv.below hb) mask (by omega) hs1
           have PB := fun w1 (hb : Below w.heap.size w w1) v' (hl : LinesAt w1 v' (itemLines l)) => parse_at w1 (hE.below hb) _ v' hl mask (by rw [itemLines_len]; omega) hs2
           obtain ⟨pS, pT, pN, pf, pF, pL, qS, qT, qN, qM, qf, qF, qL, hp⟩ := Bk.parse_items FF unescF (Bk.notesOf mask) b t r0 hb32 (by rw [← hbt, ← hl0.out]; exact hnt)
           rw [← hil, ← hbt, ← hl0.out] at hp
           have q1 := small_parse (Bk.notesOf mask) l hs1 (by omega)
           unfold ParsePost at PA PB
           unfold FF at hp PA PB q1
           rw [hp] at PB
           generalize (parse (allR unescF) unescF (Bk.notesOf mask) l).1 = X at *
           generalize (parse (allR unescF) unescF (Bk.notesOf mask) l).2 = Y at *
           have hl40 : l.length ≤ 40 := hf2.1
           have h80 := Lib.hid hf2.2
           have hpos : 0 < l.length := List.length_pos_iff.2 h0
           replace q1 := Lib.hid q1
           clear hf2 hf hs1 hs2 hv hn hp hnt ht h0 hE hb32 hil hbt h32 hE0
           obtain ⟨i0, hi0, hz0, hz1, hz2⟩ := info_parts Bk.Tryz.infoST
           go_enter Tryz.func5, Tryz.ntmps5
           go_wp2_with (first
             | (go_at_call 11; (with_reducible refine AW.mono ?_); rintro e w1 ⟨rfl, b1⟩)
             | (go_at_call 12; (with_reducible refine (FE _ b1).mono ?_); rintro e w2 ⟨rfl, b2⟩; have b3 := b1.trans (b2.mono b1.size))
             | (go_at_call 15; (with_reducible refine (TE _ b3).mono ?_); rintro e w3 ⟨rfl, b4⟩; have b5 := b3.trans (b4.mono b3.size); have c0 := hc0 _ b5))
           clear AW FE TE b1 b2 b3 b4 c0 hc0 hS0 hS0z d32
           go_loopw [6, 7] (fun lv kv wr => ∃ j : Nat, kv = .int .i64 j ∧ j ≤ l.length ∧ wr.ownsRow w.heap.size TS 1 lv j (((itemLines l).map strV).take j) ∧ Below w.heap.size w wr) (fun _ kv _ => l.length - (intOf kv).toNat)
           case atStart => exact ⟨0, rfl, Nat.zero_le _, World.ownsRow_nil _ _ _ _, b5⟩
           case round =>
             obtain ⟨j, rfl, hj, hown, hb⟩ := hrel
             by_cases hlt : j < l.length
             · have hI2 : l[j]? = some l[j] := List.getElem?_eq_getElem hlt
               have c1 := hAt j _ hI2 _ hb
               have hz := h80.out _ (List.getElem_mem hlt)
               have htk := Lib.hid (itemLines_take l j _ hI2)
               clear hI2 hAt
               generalize l[j] = s at *
               have hsz : (mk s).size ≤ 80 := by rw [mk_size]; exact hz
               have hbs := hb.size
               by_cases hj0 : j = 0
               · have hst : Hid (strV (itemLine j s) = .string ((⟨#[43, 32]⟩ : ByteArray) ++ mk s)) := Lib.hid (by
                   rw [hj0]
                   unfold strV itemLine
                   rw [if_pos rfl]
                   congr 1)
                 have c1' : wr.cell? ⟨g, o, none⟩ = some (strV s) := by rw [hj0] at c1; exact c1
                 have zj : ((j : Int) == 0) = true := by rw [hj0]; rfl
                 clear hj0
                 unfold strV at c1 c1'
                 generalize mk s = S at *
                 go_wp2_with (at_builtin; refine wpList_append_lies _ rfl (.tmp 47) (.tmp 53) 22 rfl w.heap.size 9 i0 (.string ⟨#[]⟩) 1 16 Tryz.underlying22 hi0 hz0 hz1 hz2 rfl (by decide) _ j (((itemLines l).map strV).take j) rfl ?own ⟨wr.heap.size, 0, none⟩ 1 1 [.string ((⟨#[43, 32]⟩ : ByteArray) ++ S)] rfl rfl ?news ?one ?pos ?mx ?byt ?base _ rfl ?go)
                 case own => exact hown.alloc _
                 case news => exact World.news_of_block (heap_alloc_at wr _)
                 case one => intro u hu; simp at hu; subst hu; rfl
                 case pos => decide
                 case mx => simp [maxLen]; omega
                 case byt => omega
                 case base => simp; omega
                 case go =>
                 intro g3 cap3 w3' hown3 hgr hat hlt3
                 go_wp2
                 go_roundw
                 case rel => exact ⟨j + 1, by go_num, by omega, by rw [htk.out, hst.out]; exact hown3, (hb.alloc hbs _).grown hgr (by simp; omega) (fun k hk => (hown.lt k hk).1)⟩
                 case measure => simp [intOf]; omega
               · have hst : Hid (strV (itemLine j s) = .string ((⟨#[32, 32]⟩ : ByteArray) ++ mk s)) := Lib.hid (by
                   unfold strV itemLine
                   rw [if_neg hj0]
                   congr 1)
                 have zj : ((j : Int) == 0) = false := by simpa using hj0
                 unfold strV at c1
                 generalize mk s = S at *
                 go_wp2_with (at_builtin; refine wpList_append_lies _ rfl (.tmp 55) (.tmp 61) 22 rfl w.heap.size 9 i0 (.string ⟨#[]⟩) 1 16 Tryz.underlying22 hi0 hz0 hz1 hz2 rfl (by decide) _ j (((itemLines l).map strV).take j) rfl ?own ⟨wr.heap.size, 0, none⟩ 1 1 [.string ((⟨#[32, 32]⟩ : ByteArray) ++ S)] rfl rfl ?news ?one ?pos ?mx ?byt ?base _ rfl ?go)
                 case own => exact hown.alloc _
                 case news => exact World.news_of_block (heap_alloc_at wr _)
                 case one => intro u hu; simp at hu; subst hu; rfl
                 case pos => decide
                 case mx => simp [maxLen]; omega
                 case byt => omega
                 case base => simp; omega
                 case go =>
                 intro g3 cap3 w3' hown3 hgr hat hlt3
                 go_wp2
                 go_roundw
                 case rel => exact ⟨j + 1, by go_num, by omega, by rw [htk.out, hst.out]; exact hown3, (hb.alloc hbs _).grown hgr (by simp; omega) (fun k hk => (hown.lt k hk).1)⟩
                 case measure => simp [intOf]; omega
             · have hjl : j = l.length := by omega
               subst hjl
               rw [List.take_of_length_le (by rw [List.length_map, itemLines_len]; exact Nat.le_refl _)] at hown
               have hL : ∀ w1, Below wr.heap.size wr w1 → LinesAt w1 _ (itemLines l) := fun w1 h => (Bk.LinesAt0.of_own (B := w.heap.size) (by
                 rw [itemLines_len]; exact Bk.own_below hown h)).gen
               replace hL := Lib.hid hL
               clear hAt h80 hlt
               have T1 : ∀ w6 A' c', (toSs X).length ≤ c' → Hid (Kd.C k32 w6 A' (toSs X).length (toSs X)) → Calls Tryz.prog 17 #[.slice A' (toSs X).length c'] w6 fun e w' => ∃ A' c', e = .returned (.slice A' (toBs 0 X).length c') ∧ Hid (Kd.C k63 w' A' (toBs 0 X).length (toBs 0 X)) ∧ Below w6.heap.size w6 w' := fun w6 A' c' h1 h2 =>
                 (theirs_any X q1.out w6 A' c' h2.out h1).mono fun e w' ⟨A', c', x1, x2, x3, x4⟩ => ⟨A', c', x1, Lib.hid x3, x4⟩
               have T2 : ∀ w6 A' c' A'' c'', Hid (Kd.C k63 w6 A' (toBs 0 X).length (toBs 0 X)) → Hid (Kd.C k63 w6 A'' (toBs 0 X).length (toBs 0 X)) → Calls Tryz.prog 16 #[.slice A' (toBs 0 X).length c', .slice A'' (toBs 0 X).length c''] w6 fun e w' => e = .returned (.bool true) ∧ Below w6.heap.size w6 w' := fun w6 A' c' A'' c'' h1 h2 => same_any _ w6 A' A'' c' c'' h1.out h2.out
               have T3 : ∀ w6 B B' A' c' A'' c'', Hid (RefRow w6 B (.slice A' Y.length c') Y) → Hid (RefRow w6 B' (.slice A'' Y.length c'') Y) → Y.length ≤ c' → Y.length ≤ c'' → Calls Tryz.prog 18 #[.slice A' Y.length c', .slice A'' Y.length c''] w6 fun e w' => e = .returned (.bool true) ∧ Below w6.heap.size w6 w' := fun w6 B B' A' c' A'' c'' h1 h2 h3 h4 => Bk.refs_same w6 B B' A' A'' c' c'' Y h1.out h2.out h3 h4
               have hx : toSs [Tr.mk 3 pS pT pN 43 pf pF pL [Tr.mk 4 qS qT qN qM qf qF qL X]] = [(⟨3, mk pS, mk pT, pN, 43, pf, pF, pL, [⟨4, mk qS, mk qT, qN, qM, qf, qF, qL, toSs X⟩]⟩ : Bk.S32)] := by
                 rw [toSs_one, toS_mk, toSs_one, toS_mk]; rfl
               have M1 : ∀ w1, Below w.heap.size w w1 → Calls Tryz.prog 13 #[.slice (some ⟨g, o, none⟩) l.length c, .int .i64 mask] w1 fun e w' => ∃ A1 c1 Ar cr, e = .returned (.tuple #[.slice A1 (toSs X).length c1, .slice Ar Y.length cr]) ∧ (toSs X).length ≤ c1 ∧ Y.length ≤ cr ∧ Hid (Kd.C k32 w' A1 (toSs X).length (toSs X)) ∧ Hid (RefRow w' w1.heap.size (.slice Ar Y.length cr) Y) ∧ Below w1.heap.size w1 w' := fun w1 h => (PA w1 h).mono fun e w' ⟨v1, v2, e1, R1, S1, b⟩ => by
                 obtain ⟨A1, c1, rfl, hc1, C1⟩ := Kd.R_reads R1
                 obtain ⟨Ar, cr, rfl, hcr⟩ := Bk.own_form S1.1
                 exact ⟨A1, c1, Ar, cr, e1, hc1, hcr, Lib.hid C1, Lib.hid S1, b⟩
               have M2 : ∀ w1 v', Below w.heap.size w w1 → LinesAt w1 v' (itemLines l) → Calls Tryz.prog 13 #[v', .int .i64 mask] w1 fun e w' => ∃ ad c3 ad' c8' A8 c8 Ar cr, e = .returned (.tuple #[.slice (some ad) 1 c3, .slice Ar Y.length cr]) ∧ 1 ≤ c3 ∧ Y.length ≤ cr ∧ w'.cell? ad = some (.int .i64 3) ∧ w'.cell? ⟨ad.block, ad.off + 4, none⟩ = some (.int .i64 43) ∧ w'.cell? ⟨ad.block, ad.off + 8, none⟩ = some (.slice (some ad') 1 c8') ∧ w'.cell? ⟨ad'.block, ad'.off + 8, none⟩ = some (.slice A8 (toSs X).length c8) ∧ (toSs X).length ≤ c8 ∧ Hid (Kd.C k32 w' A8 (toSs X).length (toSs X)) ∧ Hid (RefRow w' w1.heap.size (.slice Ar Y.length cr) Y) ∧ Below w1.heap.size w1 w' := fun w1 v' h hl => (PB w1 h v' hl).mono fun e w' ⟨v1, v2, e1, R1, S1, b⟩ => by
                 obtain ⟨A3, c3, rfl, hc3, C3⟩ := Kd.R_reads R1
                 obtain ⟨Ar, cr, rfl, hcr⟩ := Bk.own_form S1.1
                 rw [hx] at hc3 e1 C3
                 obtain ⟨ad, A8, c8, rfl, a0, a4, a6, a7, a8, l8, C8⟩ := rowB C3 0 Nat.one_pos _ (List.getElem?_cons_zero)
                 obtain ⟨ad', B8, d8, rfl, _, _, _, _, b8, m8, D8⟩ := rowB C8 0 Nat.one_pos _ (List.getElem?_cons_zero)
                 exact ⟨ad, c3, ad', c8, B8, d8, Ar, cr, e1, hc3, hcr, a0, a4, a8, b8, m8, Lib.hid D8, Lib.hid S1, b⟩
               clear PA PB hx
               clear q1 hpos
               go_wp2_with (first
                 | (go_at_call 13; (with_reducible refine (M1 _ hb).mono ?_); rintro e w5 ⟨A1, c1, Ar, cr, rfl, hc1, hcr, C1, S1, b6⟩; have b7 := hb.trans (b6.mono hb.size); replace hL := hL.out _ b6)
                 | (go_at_call 13; (with_reducible refine (M2 _ _ b7 hL).mono ?_); rintro e w6 ⟨ad, c3, ad', c8', A8, c8, As, cs, rfl, hc3, hcs, a0, a4, a8, a9, l8, C8, S2, b8⟩; have b9 := b7.trans (b8.mono b7.size); replace C1 := Lib.hid (Kd.C_below C1.out b8); replace S1 := Lib.hid (RefRow.below S1.out b8))
                 | (go_at_call 17; (with_reducible refine (T1 _ _ _ l8 C8).mono ?_); rintro e w7 ⟨A7, c7, rfl, D7, b10⟩; have b11 := b9.trans (b10.mono b9.size); replace C1 := Lib.hid (Kd.C_below C1.out b10); replace S1 := Lib.hid (RefRow.below S1.out b10); replace S2 := Lib.hid (RefRow.below S2.out b10); clear C8)
                 | (go_at_call 17; (with_reducible refine (T1 _ _ _ hc1 C1).mono ?_); rintro e w8 ⟨A9, c9, rfl, D9, b12⟩; have b13 := b11.trans (b12.mono b11.size); replace D7 := Lib.hid (Kd.C_below D7.out b12); replace S1 := Lib.hid (RefRow.below S1.out b12); replace S2 := Lib.hid (RefRow.below S2.out b12))
                 | (go_at_call 16; (with_reducible refine (T2 _ _ _ _ _ D7 D9).mono ?_); rintro e w9 ⟨rfl, b14⟩; have b15 := b13.trans (b14.mono b13.size); replace S1 := Lib.hid (RefRow.below S1.out b14); replace S2 := Lib.hid (RefRow.below S2.out b14))
                 | (go_at_call 18; (with_reducible refine (T3 _ _ _ _ _ _ _ S1 S2 hcr hcs).mono ?_); rintro e w10 ⟨rfl, b16⟩; have b17 := b15.trans (b16.mono b15.size)))
               go_ret
               exact ⟨rfl, b17⟩
end Tx
end Go.Proofs.YtehmcahdjldhbaaGreatDoor
end
