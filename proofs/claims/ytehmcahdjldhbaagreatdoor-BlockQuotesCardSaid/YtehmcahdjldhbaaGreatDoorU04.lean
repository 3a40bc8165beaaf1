/- Parts of this session's proof, one behind the other: F4 LU. -/
import Derived.Test.YtehmcahdjldhbaaGreatDoorU03
import Derived.Deep.AppendLies
section
set_option linter.unusedVariables false
set_option linter.unusedSimpArgs false
set_option maxRecDepth 100000
namespace Go.Proofs.YtehmcahdjldhbaaGreatDoor
open Wk
namespace Bk
namespace Sim
variable {r c dl : Nat} {pre pk : List Nat} {K : Nat → List Nat} {σ τ : St}
theorem touchR (h : Sim r c dl pre pk K σ τ) (j : Nat) (hj : j ≤ r) : Sim r c dl pre pk K σ (τ.touch j) := by
  have hjn : j < τ.n := Nat.lt_of_le_of_lt hj h.rN
  have hl := touchA_last τ.n τ.nd j τ.line (fun x p hx hp => h.gt.par x (by omega) p hp) hjn
  refine { h with gt := h.gt.touch j hjn, nd := fun i h1 h2 => ?_, kids0 := ?_, kind0 := ?_, low := fun i hi => ?_ }
  · have hu : ¬ Up τ.nd j (i + c) := fun u => by
      have := u.le fun x p hx hp => h.gt.par x (by omega) p hp
      have := h.rc
      omega
    have e := touch_nd τ j (i + c)
    have e2 : ((τ.touch j).nd (i + c)).last = (τ.nd (i + c)).last := (hl (i + c)).2 hu
    rw [e, e2]
    exact h.nd i h1 h2
  · rw [touch_nd]; exact h.kids0
  · rw [touch_nd]; exact h.kind0
  · rw [touch_nd]; exact h.low i hi
end Sim
section
variable (F : Bs → List Ref × Bs) (U : Bs → Bs) (nt : Bool)
theorem cnt_le (s : Bs) : cnt s ≤ s.length := by unfold cnt; exact List.length_filter_le _ _
theorem after_in {σ τ : St} (hl : σ.leaf = none) (hl2 : τ.leaf = none) (m : Nat) (hm : τ.s.length < m) (h : σ.starts F U nt (σ.s.length + 1) = τ.starts F U nt m) : σ.after F U nt = τ.after F U nt := by
  have hs : ∀ k, τ.s.length < k → τ.starts F U nt k = τ.starts F U nt (τ.s.length + 1) := by
    intro k hk
    induction k with
    | zero => omega
    | succ k ih =>
      by_cases e : k = τ.s.length
      · rw [e]
      · rw [starts_more F U nt k τ (by have := cnt_le τ.s; omega)]; exact ih (by omega)
  unfold St.after
  rw [Sim.takes_none _ hl, Sim.takes_none _ hl2]
  dsimp only
  rw [if_neg Bool.false_ne_true, if_neg Bool.false_ne_true, h, hs m hm]
theorem quoted_line (σ : St) (s : Bs) (k : Nat) : ((σ.at' (62 :: 32 :: s) k).line0).quotes = true ∧ ((σ.at' (62 :: 32 :: s) k).line0).quoted = { (σ.at' s k).line0 with col := 2 } := by
  have q : ((σ.at' (62 :: 32 :: s) k).line0).quotes = true := rfl
  refine ⟨q, ?_⟩
  unfold St.quoted
  rw [q, if_pos rfl]
  show ({ (σ.at' s k).line0 with s := (skip (32 :: s) 1 1).1, col := (skip (32 :: s) 1 1).2 } : St) = _
  have : skip (32 :: s) 1 1 = (s, 2) := by rw [skip, if_neg (by decide), if_pos rfl]; exact skip_zero s 2
  rw [this]
  rfl
def InQ (σ τ : St) : Prop := Sim 1 1 0 [0] [] (fun _ => [1]) σ.line0 { τ with met := 2, began := false } ∧ (τ.nd 1).kind = 2 ∧ (τ.nd 1).first = 0 ∧ (τ.nd 1).last = τ.line ∧ 1 < τ.n
def q1 (s : Bs) : St := ({ (St.init.at' s 0).line0 with col := 2 } : St).enter { kind := 2 }
theorem q1_sim (s : Bs) (hs : 9 ∉ s) : Sim 1 1 0 [0] [] (fun _ => [1]) (St.init.at' s 0).line0 (q1 s) :=
  { rc := by decide
    gs := Good.init.same rfl rfl rfl rfl (Nat.le_refl _) (fun j => ⟨rfl, rfl, rfl, rfl⟩) (fun j => .inl rfl)
    gt := by
      have g : Good ({ (St.init.at' s 0).line0 with col := 2 } : St) := Good.init.same rfl rfl rfl rfl (Nat.le_refl _) (fun j => ⟨rfl, rfl, rfl, rfl⟩) (fun j => .inl rfl)
      exact g.op (.enter _ { kind := 2 } rfl rfl (fun x => by cases x) ⟨.inr (.inl rfl), by decide⟩)
    nd := fun j h1 h2 => by have : j < 1 := h2; omega
    kids0 := rfl
    kind0 := by show (2 : Nat) ≠ 3; decide
    low := fun j hj => by have : j = 0 := by omega
                          subst this; rfl
    n := rfl
    opn := rfl
    met := rfl
    leaf := rfl
    line := rfl
    s := rfl
    col := .inr hs }
theorem q_first (s : Bs) (hs : 9 ∉ s) : InQ ((St.init.at' s 0).one F U nt) ((St.init.at' (62 :: 32 :: s) 0).one F U nt) ∧ ((St.init.at' s 0).one F U nt).line = 0 := by
  have S := q1_sim s hs
  have e1 : (St.init.at' s 0).one F U nt = (St.init.at' s 0).line0.after F U nt := one_flat F U nt Flat.init s 0
  have e2 : (St.init.at' (62 :: 32 :: s) 0).one F U nt = (q1 s).after F U nt := by
    rw [one_flat F U nt Flat.init]
    obtain ⟨a, b⟩ := quoted_line St.init s 0
    refine after_in F U nt rfl rfl (s.length + 2) (show s.length < s.length + 2 by omega) ?_
    rw [starts_step, b, a]
    have c1 : (St.init.at' (62 :: 32 :: s) 0).line0.blank = false := rfl
    have c2 : (St.init.at' (62 :: 32 :: s) 0).line0.w = 0 := rfl
    rw [c1, c2, if_neg Bool.false_ne_true, if_neg (by decide), if_pos rfl]
    rfl
  have f := Sim.after F U nt S (.inl rfl)
  obtain ⟨b, o⟩ := after_ops F U nt S.gt
  have kp := o.kept 1 (show 1 < 2 by decide)
  obtain ⟨b', o'⟩ := after_ops F U nt S.gs
  rw [e1, e2]
  refine ⟨⟨f.next, ?_, ?_, ?_, Nat.lt_of_lt_of_le (show 1 < 2 by decide) kp.n⟩, o'.near.2⟩
  · exact kp.kind (show (2 : Nat) ≠ 7 by decide)
  · exact kp.first
  · rcases kp.last with e | e
    · rw [e, kp.line]; rfl
    · rw [e, kp.line]
theorem q_step {σ τ : St} (h : InQ σ τ) (s : Bs) (hs : 9 ∉ s) (k : Nat) (hk : σ.line ≤ k) : InQ ((σ.at' s k).one F U nt) ((τ.at' (62 :: 32 :: s) k).one F U nt) ∧ ((σ.at' s k).one F U nt).line = k := by
  obtain ⟨h, h2, hf, hla, hn⟩ := h
  have a := Sim.atLine h s k 2 hk (.inr hs)
  have a1 := a.touchR 1 (Nat.le_refl _)
  generalize hτ : ({ τ with met := 1 + 1, began := false, s := s, col := 2, line := k + 0 } : St).touch 1 = τ1
  have a2 : Sim 1 1 0 [0] [] (fun _ => [1]) (σ.at' s k).line0 τ1 := by rw [← hτ]; exact a1
  have hopn : τ.opn = 0 :: σ.opn.map (mv 1 1) := h.opn
  have hl : τ.opn.length = σ.opn.length + 1 := by rw [hopn]; simp
  have hpos : 0 < σ.opn.length := by have := h.gs.met1; have := h.gs.metL; exact Nat.lt_of_lt_of_le (show 0 < σ.line0.met from Nat.one_pos) h.gs.metL
  have hg1 : τ.opn.getD 1 0 = 1 := by
    have e := h.gs.root.1
    have e' : σ.opn[0]? = some 0 := e
    rw [List.getD_eq_getElem?_getD, hopn, List.getElem?_cons_succ, List.getElem?_map, e']
    rfl
  have hm : (τ.at' (62 :: 32 :: s) k).line0.meets τ.opn.length = τ1.meets σ.opn.length := by
    rw [hl, St.meets, if_pos (by show 1 < τ.opn.length; omega)]
    have eo : (τ.at' (62 :: 32 :: s) k).line0.opn.getD (τ.at' (62 :: 32 :: s) k).line0.met 0 = 1 := hg1
    have k2 : ((τ.at' (62 :: 32 :: s) k).line0.nd 1).kind = 2 := h2
    obtain ⟨qa, qb⟩ := quoted_line τ s k
    rw [eo]
    unfold St.meetOk St.meet
    rw [if_pos k2, if_pos k2, qa, if_pos rfl, if_pos rfl, qb, ← hτ]
    rfl
  have m := Sim.meets σ.opn.length _ _ a2
  have bg1 : τ1.began = false := by rw [← hτ]; rfl
  have f := Sim.after F U nt m (.inr (by rw [meets_began, meets_began, bg1]; rfl))
  have e1 : (σ.at' s k).one F U nt = ((σ.at' s k).line0.meets σ.opn.length).after F U nt := one_after F U nt _
  have e2 : (τ.at' (62 :: 32 :: s) k).one F U nt = (τ1.meets σ.opn.length).after F U nt := by rw [← hm]; exact one_after F U nt _
  have n1 : τ1.n = τ.n := by rw [← hτ]; rfl
  have l1 : τ1.line = k := by rw [← hτ]; rfl
  have t1 : (τ1.nd 1).kind = 2 ∧ (τ1.nd 1).first = 0 ∧ (τ1.nd 1).last = k := by
    have hll := touchA_last τ.n τ.nd 1 k (fun x p hx hp => h.gt.par x (show x < τ.n from Nat.lt_of_le_of_lt hx hn) p hp) hn
    have e := touch_nd ({ τ with met := 1 + 1, began := false, s := s, col := 2, line := k + 0 } : St) 1 1
    rw [hτ] at e
    refine ⟨by rw [e]; exact h2, by rw [e]; exact hf, ?_⟩
    rw [← hτ]
    exact (hll 1).1 (.refl _)
  obtain ⟨b1, o1⟩ : ∃ b, Ops τ1 ((τ1.meets σ.opn.length).after F U nt) b := by
    have o := Ops.meets σ.opn.length τ1 a2.gt
    obtain ⟨b, o2⟩ := after_ops F U nt m.gt
    exact ⟨_, o.trans o2⟩
  have kp := o1.kept 1 (by rw [n1]; exact hn)
  have kl := one_kept F U nt (σ := σ.at' s k) a2.gs 0 a2.npos
  rw [e2]
  refine ⟨⟨by rw [e1]; exact f.next, ?_, ?_, ?_, Nat.lt_of_lt_of_le (by rw [n1]; exact hn) kp.n⟩, kl.line⟩
  · rw [kp.kind (by rw [t1.1]; decide)]; exact t1.1
  · rw [kp.first]; exact t1.2.1
  · rcases kp.last with e | e
    · rw [e, kp.line, t1.2.2, l1]
    · rw [e, kp.line]
theorem q_run : ∀ (l : List Bs) (σ τ : St) (k : Nat), InQ σ τ → σ.line ≤ k → (∀ s ∈ l, 9 ∉ s) → InQ (St.run F U nt l k σ) (St.run F U nt (l.map fun s => 62 :: 32 :: s) k τ) ∧ (l ≠ [] → (St.run F U nt l k σ).line + 1 = k + l.length)
  | [], _, _, _, h, _, _ => ⟨h, fun x => absurd rfl x⟩
  | s :: l, σ, τ, k, h, hk, hs => by
    obtain ⟨g, gl⟩ := q_step F U nt h s (hs s (List.mem_cons_self ..)) k hk
    rw [run_cons, List.map_cons, run_cons]
    obtain ⟨h1, h2⟩ := q_run l _ _ (k + 1) g (by omega) fun x hx => hs x (List.mem_cons_of_mem _ hx)
    refine ⟨h1, fun _ => ?_⟩
    cases l with
    | nil => show ((σ.at' s k).one F U nt).line + 1 = _; rw [gl]; rfl
    | cons t l => rw [h2 (List.cons_ne_nil _ _)]; simp only [List.length_cons]; omega
theorem parse_quotes (l : List Bs) (h0 : l ≠ []) (hs : ∀ s ∈ l, 9 ∉ s) : ∃ S T N M fl, parse F U nt (l.map fun s => 62 :: 32 :: s) = ([Tr.mk 2 S T N M fl 0 (l.length - 1) (parse F U nt l).1], (parse F U nt l).2) := by
  obtain ⟨s, r, rfl⟩ := List.exists_cons_of_ne_nil h0
  obtain ⟨g, gl⟩ := q_first F U nt s (hs s (List.mem_cons_self ..))
  obtain ⟨⟨h, h2, hf, hla, hn⟩, hln⟩ := q_run F U nt r _ _ 1 g (by omega) fun x hx => hs x (List.mem_cons_of_mem _ hx)
  have eσ : St.run F U nt (s :: r) 0 St.init = St.run F U nt r 1 ((St.init.at' s 0).one F U nt) := rfl
  have eτ : St.run F U nt ((s :: r).map fun s => 62 :: 32 :: s) 0 St.init = St.run F U nt (r.map fun s => 62 :: 32 :: s) 1 ((St.init.at' (62 :: 32 :: s) 0).one F U nt) := rfl
  have hlast : (St.run F U nt r 1 ((St.init.at' s 0).one F U nt)).line = (s :: r).length - 1 := by
    cases r with
    | nil => exact gl
    | cons t r => have := hln (List.cons_ne_nil _ _); simp only [List.length_cons] at this ⊢; omega
  unfold parse
  dsimp only
  rw [eσ, eτ]
  generalize St.run F U nt r 1 ((St.init.at' s 0).one F U nt) = σ at *
  generalize St.run F U nt (r.map fun s => 62 :: 32 :: s) 1 ((St.init.at' (62 :: 32 :: s) 0).one F U nt) = τ at *
  have hnn : τ.n = σ.n + 1 := h.n
  have hl0 : τ.line = σ.line := h.line
  have hk0 : (τ.nd 0).kids = [1] := h.low 0 (by decide)
  have hp : 0 < σ.n := h.npos
  obtain ⟨m, hm⟩ : ∃ m, σ.n = m + 1 := ⟨σ.n - 1, by omega⟩
  have hR := h.root_mv F m [] [] [] rfl
  have hR' : blocks F τ.nd (m + 1) 1 [] = ([] ++ trSs 0 (blocks F σ.nd (m + 1) 0 []).1, (blocks F σ.nd (m + 1) 0 []).2) := hR
  rw [trSs_zero, List.nil_append] at hR'
  have hc : content F τ.nd 1 [] = ((τ.nd 1).S, (τ.nd 1).flag, [], true) := by
    unfold content; dsimp only; rw [h2]; simp
  refine ⟨(τ.nd 1).S, (τ.nd 1).T, (τ.nd 1).N, (τ.nd 1).M, (τ.nd 1).flag, ?_⟩
  rw [hnn, blocks, hk0, hm]
  show tell F τ.nd (blocks F τ.nd (m + 1)) ([], []) 1 = _
  unfold tell
  dsimp only
  rw [hc, hR', h2, hf, hla, hl0, hlast]
  rfl
end
end Bk
end Go.Proofs.YtehmcahdjldhbaaGreatDoor
end
section
open Go Go.RowKit Go.Proofs.YtehmcahdjldhbaaGreatDoorW.PrintWords
set_option linter.unusedVariables false
set_option linter.unusedSimpArgs false
set_option maxRecDepth 100000
namespace Go.Proofs.YtehmcahdjldhbaaGreatDoor
open Wk
namespace Tx
open Bk (strV TS LinesAt NilOk ParsePost parse toSs toBs toS k32 k63 TBk Tr RefRow hasTab)
theorem rowB {w : World} {A : Option Addr} {n : Nat} {xs : List Bk.S32} (h : Kd.C k32 w A n xs) (i : Nat) (h1 : i < n) (x : Bk.S32) (hx : xs[i]? = some x) : ∃ ad A8 c8, A = some ad ∧ w.cell? (ad.add (i * 9)) = some (.int .i64 x.f0) ∧ w.cell? ⟨(ad.add (i * 9)).block, (ad.add (i * 9)).off + 4, none⟩ = some (.int .i64 x.f4) ∧
    w.cell? ⟨(ad.add (i * 9)).block, (ad.add (i * 9)).off + 6, none⟩ = some (.int .i64 x.f6) ∧ w.cell? ⟨(ad.add (i * 9)).block, (ad.add (i * 9)).off + 7, none⟩ = some (.int .i64 x.f7) ∧ w.cell? ⟨(ad.add (i * 9)).block, (ad.add (i * 9)).off + 8, none⟩ = some (.slice A8 x.f8.length c8) ∧ x.f8.length ≤ c8 ∧ Kd.C k32 w A8 x.f8.length x.f8 := by
  obtain ⟨ad, A8, c8, e, a0, _, _, _, a4, _, a6, a7, a8, l8, C⟩ := Bk.at_T32 h i (by omega) (by omega)
  have er : Bk.rd_T32 xs (i : Int) = x := by
    unfold Bk.rd_T32
    rw [Int.toNat_natCast, List.getD_eq_getElem?_getD, hx]; rfl
  rw [er] at l8 C
  rw [er, Int.toNat_natCast] at a0 a4 a6 a7 a8
  exact ⟨ad, A8, c8, e, a0, a4, a6, a7, a8, l8, C⟩
theorem RefRow.below {w w1 : World} {B : Nat} {v : Value} {l : List Bk.Ref} (h : RefRow w B v l) (hb : Below w.heap.size w w1) : RefRow w1 B v l := ⟨Bk.own_below h.1 hb, h.2⟩
theorem heap_alloc_at (w : World) (o : Obj) : (w.alloc o).heap[w.heap.size]? = some o := by show (w.heap.push _)[w.heap.size]? = _; simp
set_option maxHeartbeats 16000000 in
theorem quotes_row (v : Value) (l : List Bs) (mask : Int) (w : World) (hE : Env w) (hv : LinesAt w v l) (hn : NilOk v) (h3 : -9223372036854775808 ≤ mask) (h4 : mask ≤ 9223372036854775807) :
    Calls Tryz.prog 4 #[v, .int .i64 mask] w fun e w' => e = .returned (.bool true) ∧ Below w.heap.size w w' := by
  obtain ⟨A, c, rfl⟩ := hv.form
  have AW := awake_any w hE
  have FE := fun w1 (hb : Below w.heap.size w w1) => few_any w1 _ l (hv.below hb)
  cases hf : few l with
  | false =>
    rw [hf] at FE
    go_enter Tryz.func4, Tryz.ntmps4
    go_wp2_with (first
      | (go_at_call 11; (with_reducible refine AW.mono ?_); rintro e w1 ⟨rfl, b1⟩)
      | (go_at_call 12; (with_reducible refine (FE _ b1).mono ?_); rintro e w2 ⟨rfl, b2⟩; have b3 := b1.trans (b2.mono b1.size)))
    go_ret
    exact ⟨rfl, b3⟩
  | true =>
    rw [hf] at FE
    have hf2 : l.length ≤ 40 ∧ ∀ s ∈ l, s.length ≤ 80 := by
      unfold few at hf
      simpa using hf
    by_cases h0 : l = []
    · have z0 : ((l.length : Int) == 0) = true := by rw [h0]; rfl
      clear h0
      go_enter Tryz.func4, Tryz.ntmps4
      go_wp2_with (first
        | (go_at_call 11; (with_reducible refine AW.mono ?_); rintro e w1 ⟨rfl, b1⟩)
        | (go_at_call 12; (with_reducible refine (FE _ b1).mono ?_); rintro e w2 ⟨rfl, b2⟩; have b3 := b1.trans (b2.mono b1.size)))
      go_ret
      exact ⟨rfl, b3⟩
    · have z0 : ((l.length : Int) == 0) = false := by simpa using h0
      have hcap : l.length ≤ c := by
        rcases hv with ⟨e, _⟩ | ⟨g, o, cap, e, h1, _⟩
        · exact absurd e h0
        · cases e; exact h1
      have TE := fun w1 (hb : Below w.heap.size w w1) => Bk.tabs_any w1 A c l (hv.below hb) hcap (by omega) (fun s hs => by have := hf2.2 s hs; omega)
      cases ht : hasTab l with
      | true =>
        rw [ht] at TE
        go_enter Tryz.func4, Tryz.ntmps4
        go_wp2_with (first
          | (go_at_call 11; (with_reducible refine AW.mono ?_); rintro e w1 ⟨rfl, b1⟩)
          | (go_at_call 12; (with_reducible refine (FE _ b1).mono ?_); rintro e w2 ⟨rfl, b2⟩; have b3 := b1.trans (b2.mono b1.size))
          | (go_at_call 15; (with_reducible refine (TE _ b3).mono ?_); rintro e w3 ⟨rfl, b4⟩; have b5 := b3.trans (b4.mono b3.size)))
        go_ret
        exact ⟨rfl, b5⟩
      | false =>
        rw [ht] at TE
        have hnt : ∀ s ∈ l, 9 ∉ s := fun s hs h9 => by
          have : hasTab l = true := List.any_eq_true.2 ⟨s, hs, decide_eq_true h9⟩
          rw [ht] at this; cases this
        have hAt : ∀ i s, l[i]? = some s → ∃ g o, A = some ⟨g, o, none⟩ ∧ ∀ w1, Below w.heap.size w w1 → w1.cell? ⟨g, o + i, none⟩ = some (strV s) := fun i s hs => by
          rcases hv with ⟨e, _⟩ | ⟨g, o, cap, e, h1, h2⟩
          · rw [e] at hs; simp at hs
          · cases e
            exact ⟨g, o, rfl, fun w1 h => (h.cell (World.block_lt_of_cell? _ _ (h2 i s hs))).trans (h2 i s hs)⟩
        have hs1 : ∀ s ∈ l, s.length ≤ 200 := fun s h => by have := hf2.2 s h; omega
        have hs2 : ∀ s ∈ l.map (fun s => 62 :: 32 :: s), s.length ≤ 200 := fun s h => by
          obtain ⟨t, h', rfl⟩ := List.mem_map.1 h
          have := hf2.2 t h'
          simp; omega
        have PA := fun w1 (hb : Below w.heap.size w w1) => parse_at w1 (hE.below hb) l _ (hv.below hb) mask (by omega) hs1
        have PB := fun w1 (hb : Below w.heap.size w w1) v' (hl : LinesAt w1 v' (l.map fun s => 62 :: 32 :: s)) => parse_at w1 (hE.below hb) _ v' hl mask (by simp; omega) hs2
        obtain ⟨pS, pT, pN, pM, pf, hp⟩ := Bk.parse_quotes FF unescF (Bk.notesOf mask) l h0 hnt
        have q1 := small_parse (Bk.notesOf mask) l hs1 (by omega)
        unfold ParsePost at PA PB
        unfold FF at hp PA PB q1
        rw [hp] at PB
        generalize (parse (allR unescF) unescF (Bk.notesOf mask) l).1 = X at *
        generalize (parse (allR unescF) unescF (Bk.notesOf mask) l).2 = Y at *
        have hl40 : l.length ≤ 40 := hf2.1
        have h80 := Lib.hid hf2.2
        have hpos : 0 < l.length := List.length_pos_iff.2 h0
        replace q1 := Lib.hid q1
        clear hf2 hf hs1 hs2 hv hn hp hnt ht h0 hE
        obtain ⟨i0, hi0, hz0, hz1, hz2⟩ := info_parts Bk.Tryz.infoST
        go_enter Tryz.func4, Tryz.ntmps4
        go_wp2_with (first
          | (go_at_call 11; (with_reducible refine AW.mono ?_); rintro e w1 ⟨rfl, b1⟩)
          | (go_at_call 12; (with_reducible refine (FE _ b1).mono ?_); rintro e w2 ⟨rfl, b2⟩; have b3 := b1.trans (b2.mono b1.size))
          | (go_at_call 15; (with_reducible refine (TE _ b3).mono ?_); rintro e w3 ⟨rfl, b4⟩; have b5 := b3.trans (b4.mono b3.size)))
        clear AW FE TE b1 b2 b3 b4
        go_loopw [6, 7] (fun lv kv wr => ∃ j : Nat, kv = .int .i64 j ∧ j ≤ l.length ∧ wr.ownsRow w.heap.size TS 1 lv j ((l.map fun s => strV (62 :: 32 :: s)).take j) ∧ Below w.heap.size w wr) (fun _ kv _ => l.length - (intOf kv).toNat)
        case atStart => exact ⟨0, rfl, Nat.zero_le _, World.ownsRow_nil _ _ _ _, b5⟩
        case round =>
          obtain ⟨j, rfl, hj, hown, hb⟩ := hrel
          by_cases hlt : j < l.length
          · have hI2 : l[j]? = some l[j] := List.getElem?_eq_getElem hlt
            obtain ⟨g, o, rfl, hc1⟩ := hAt j _ hI2
            have c1 := hc1 _ hb
            have hz := h80.out _ (List.getElem_mem hlt)
            have htk : Hid ((l.map (fun s => strV (62 :: 32 :: s))).take (j + 1) = (l.map (fun s => strV (62 :: 32 :: s))).take j ++ [strV (62 :: 32 :: l[j])]) := Lib.hid (by rw [List.take_succ_eq_append_getElem (by simpa using hlt), List.getElem_map])
            clear hI2 hc1 hAt
            generalize l[j] = s at *
            have hst : Hid (strV (62 :: 32 :: s) = .string ((⟨#[62, 32]⟩ : ByteArray) ++ mk s)) := Lib.hid (by
              unfold strV
              congr 1)
            have hsz : (mk s).size ≤ 80 := by rw [mk_size]; exact hz
            unfold strV at c1
            generalize mk s = S at *
            have hbs := hb.size
            go_wp2_with (at_builtin; refine wpList_append_lies _ rfl (.tmp 32) (.tmp 38) 22 rfl w.heap.size 9 i0 (.string ⟨#[]⟩) 1 16 Tryz.underlying22 hi0 hz0 hz1 hz2 rfl (by decide) _ j ((l.map fun s => strV (62 :: 32 :: s)).take j) rfl ?own ⟨wr.heap.size, 0, none⟩ 1 1 [.string ((⟨#[62, 32]⟩ : ByteArray) ++ S)] rfl rfl ?news ?one ?pos ?mx ?byt ?base _ rfl ?go)
            case own => exact hown.alloc _
            case news => exact World.news_of_block (heap_alloc_at wr _)
            case one => intro u hu; simp at hu; subst hu; rfl
            case pos => decide
            case mx => simp [maxLen]; omega
            case byt => omega
            case base => simp; omega
            case go =>
            intro g3 cap3 w3' hown3 hgr hat hlt3
            go_wp2
            go_roundw
            case rel => exact ⟨j + 1, by go_num, by omega, by rw [htk.out, hst.out]; exact hown3, (hb.alloc hbs _).grown hgr (by simp; omega) (fun k hk => (hown.lt k hk).1)⟩
            case measure => simp [intOf]; omega
          · have hjl : j = l.length := by omega
            subst hjl
            rw [List.take_of_length_le (by simp)] at hown
            have hL : ∀ w1, Below wr.heap.size wr w1 → LinesAt w1 _ (l.map fun s => 62 :: 32 :: s) := fun w1 h => (Bk.LinesAt0.of_own (B := w.heap.size) (by
              rw [List.length_map, List.map_map]; exact Bk.own_below hown h)).gen
            replace hL := Lib.hid hL
            clear hAt h80 hlt
            have T1 : ∀ w6 A' c', (toSs X).length ≤ c' → Hid (Kd.C k32 w6 A' (toSs X).length (toSs X)) → Calls Tryz.prog 17 #[.slice A' (toSs X).length c'] w6 fun e w' => ∃ A' c', e = .returned (.slice A' (toBs 0 X).length c') ∧ Hid (Kd.C k63 w' A' (toBs 0 X).length (toBs 0 X)) ∧ Below w6.heap.size w6 w' := fun w6 A' c' h1 h2 =>
              (theirs_any X q1.out w6 A' c' h2.out h1).mono fun e w' ⟨A', c', x1, x2, x3, x4⟩ => ⟨A', c', x1, Lib.hid x3, x4⟩
            have T2 : ∀ w6 A' c' A'' c'', Hid (Kd.C k63 w6 A' (toBs 0 X).length (toBs 0 X)) → Hid (Kd.C k63 w6 A'' (toBs 0 X).length (toBs 0 X)) → Calls Tryz.prog 16 #[.slice A' (toBs 0 X).length c', .slice A'' (toBs 0 X).length c''] w6 fun e w' => e = .returned (.bool true) ∧ Below w6.heap.size w6 w' := fun w6 A' c' A'' c'' h1 h2 => same_any _ w6 A' A'' c' c'' h1.out h2.out
            have T3 : ∀ w6 B B' A' c' A'' c'', Hid (RefRow w6 B (.slice A' Y.length c') Y) → Hid (RefRow w6 B' (.slice A'' Y.length c'') Y) → Y.length ≤ c' → Y.length ≤ c'' → Calls Tryz.prog 18 #[.slice A' Y.length c', .slice A'' Y.length c''] w6 fun e w' => e = .returned (.bool true) ∧ Below w6.heap.size w6 w' := fun w6 B B' A' c' A'' c'' h1 h2 h3 h4 => Bk.refs_same w6 B B' A' A'' c' c'' Y h1.out h2.out h3 h4
            have hzl : (toSs [Tr.mk 2 pS pT pN pM pf 0 (l.length - 1) X]).length = 1 := by rw [Bk.toSs_length]; rfl
            have hn1 : ((l.length - 1 : Nat) : Int) = (l.length : Int) - 1 := by omega
            have M1 : ∀ w1, Below w.heap.size w w1 → Calls Tryz.prog 13 #[.slice A l.length c, .int .i64 mask] w1 fun e w' => ∃ A1 c1 Ar cr, e = .returned (.tuple #[.slice A1 (toSs X).length c1, .slice Ar Y.length cr]) ∧ (toSs X).length ≤ c1 ∧ Y.length ≤ cr ∧ Hid (Kd.C k32 w' A1 (toSs X).length (toSs X)) ∧ Hid (RefRow w' w1.heap.size (.slice Ar Y.length cr) Y) ∧ Below w1.heap.size w1 w' := fun w1 h => (PA w1 h).mono fun e w' ⟨v1, v2, e1, R1, S1, b⟩ => by
              obtain ⟨A1, c1, rfl, hc1, C1⟩ := Kd.R_reads R1
              obtain ⟨Ar, cr, rfl, hcr⟩ := Bk.own_form S1.1
              exact ⟨A1, c1, Ar, cr, e1, hc1, hcr, Lib.hid C1, Lib.hid S1, b⟩
            have M2 : ∀ w1 v', Below w.heap.size w w1 → LinesAt w1 v' (l.map fun s => 62 :: 32 :: s) → Calls Tryz.prog 13 #[v', .int .i64 mask] w1 fun e w' => ∃ ad c3 A8 c8 Ar cr, e = .returned (.tuple #[.slice (some ad) 1 c3, .slice Ar Y.length cr]) ∧ 1 ≤ c3 ∧ Y.length ≤ cr ∧ w'.cell? ad = some (.int .i64 2) ∧ w'.cell? ⟨ad.block, ad.off + 6, none⟩ = some (.int .i64 0) ∧ w'.cell? ⟨ad.block, ad.off + 7, none⟩ = some (.int .i64 ((l.length : Int) - 1)) ∧ w'.cell? ⟨ad.block, ad.off + 8, none⟩ = some (.slice A8 (toSs X).length c8) ∧ (toSs X).length ≤ c8 ∧ Hid (Kd.C k32 w' A8 (toSs X).length (toSs X)) ∧ Hid (RefRow w' w1.heap.size (.slice Ar Y.length cr) Y) ∧ Below w1.heap.size w1 w' := fun w1 v' h hl => (PB w1 h v' hl).mono fun e w' ⟨v1, v2, e1, R1, S1, b⟩ => by
              obtain ⟨A3, c3, rfl, hc3, C3⟩ := Kd.R_reads R1
              obtain ⟨Ar, cr, rfl, hcr⟩ := Bk.own_form S1.1
              rw [hzl] at hc3 e1
              obtain ⟨ad, A8, c8, rfl, a0, a4, a6, a7, a8, l8, C8⟩ := rowB C3 0 (by rw [hzl]; decide) _ rfl
              exact ⟨ad, c3, A8, c8, Ar, cr, e1, hc3, hcr, a0, a6, a7.trans (congrArg (fun z => some (Value.int .i64 z)) hn1), a8, l8, Lib.hid C8, Lib.hid S1, b⟩
            clear PA PB hzl hn1
            clear q1 hpos
            go_wp2_with (first
              | (go_at_call 13; (with_reducible refine (M1 _ hb).mono ?_); rintro e w5 ⟨A1, c1, Ar, cr, rfl, hc1, hcr, C1, S1, b6⟩; have b7 := hb.trans (b6.mono hb.size); replace hL := hL.out _ b6)
              | (go_at_call 13; (with_reducible refine (M2 _ _ b7 hL).mono ?_); rintro e w6 ⟨ad, c3, A8, c8, As, cs, rfl, hc3, hcs, a0, a6, a7, a8, l8, C8, S2, b8⟩; have b9 := b7.trans (b8.mono b7.size); replace C1 := Lib.hid (Kd.C_below C1.out b8); replace S1 := Lib.hid (RefRow.below S1.out b8))
              | (go_at_call 17; (with_reducible refine (T1 _ _ _ l8 C8).mono ?_); rintro e w7 ⟨A7, c7, rfl, D7, b10⟩; have b11 := b9.trans (b10.mono b9.size); replace C1 := Lib.hid (Kd.C_below C1.out b10); replace S1 := Lib.hid (RefRow.below S1.out b10); replace S2 := Lib.hid (RefRow.below S2.out b10); clear C8)
              | (go_at_call 17; (with_reducible refine (T1 _ _ _ hc1 C1).mono ?_); rintro e w8 ⟨A9, c9, rfl, D9, b12⟩; have b13 := b11.trans (b12.mono b11.size); replace D7 := Lib.hid (Kd.C_below D7.out b12); replace S1 := Lib.hid (RefRow.below S1.out b12); replace S2 := Lib.hid (RefRow.below S2.out b12))
              | (go_at_call 16; (with_reducible refine (T2 _ _ _ _ _ D7 D9).mono ?_); rintro e w9 ⟨rfl, b14⟩; have b15 := b13.trans (b14.mono b13.size); replace S1 := Lib.hid (RefRow.below S1.out b14); replace S2 := Lib.hid (RefRow.below S2.out b14))
              | (go_at_call 18; (with_reducible refine (T3 _ _ _ _ _ _ _ S1 S2 hcr hcs).mono ?_); rintro e w10 ⟨rfl, b16⟩; have b17 := b15.trans (b16.mono b15.size)))
            go_ret
            exact ⟨rfl, b17⟩
end Tx
end Go.Proofs.YtehmcahdjldhbaaGreatDoor
end
