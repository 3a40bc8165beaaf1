/- Parts of this session's proof, one behind the other: M5 M6 M7 M8 M9 M10 M11. -/
import Derived.Test.YtehmcahdjldhbaaGreatDoorZ07
import Derived.Deep.AppendLies
import Derived.Deep.RegionLaw
import Derived.Deep.DeepCutAuto
import Derived.Test.YtehmcahdjldhbaaGreatDoorZ06
section
/- Package block: meet. -/
open Go Go.RowKit
set_option linter.unusedVariables false
set_option linter.unusedSimpArgs false
set_option maxRecDepth 100000
namespace Go.Proofs.YtehmcahdjldhbaaGreatDoor
open Wk
namespace Bk
theorem own_form {w : World} {B e size n : Nat} {v : Value} {xs : List Value} (h : w.ownsRow B e size v n xs) : ∃ A c, v = .slice A n c ∧ n ≤ c := by
  rcases h.2 with ⟨rfl, rfl⟩ | ⟨g, cap, cur, rfl, _, _, hle, _⟩
  · exact ⟨none, 0, rfl, Nat.le_refl _⟩
  · exact ⟨_, cap, rfl, hle⟩
/-- A node's numbers are small. -/
def Nd.small (d : Nd) : Prop := d.need ≤ 4000000 ∧ d.fn ≤ 4000000 ∧ d.fi ≤ 4000000
/-- What the machine's nodes must be for its methods not to fall. -/
structure Sound (σ : St) : Prop where
  near : Near σ
  par : ∀ j, j < σ.n → ∀ p, (σ.nd j).parent = some p → p < j
  need : ∀ j, j < σ.n → (σ.nd j).small

theorem meet_any {B : Nat} {w : World} {mb : Nat} {mask : Int} {nb : Nat → Nat} {kv lv : Nat → Value} {ov : Value} {σ : St} (h : MRep B w mb mask nb kv lv ov σ) (hS : Sound σ) (i : Nat) (hi : i < σ.n) :
    Calls Tryz.prog 32 #[.pointer (some ⟨mb, 0, none⟩), .pointer (some ⟨nb i, 0, none⟩)] w fun e w' => e = .returned (.bool (σ.meetOk i)) ∧ MRep B w' mb mask nb kv lv ov (σ.meet i) ∧ Below B w w' := by
  have hB : B ≤ w.heap.size := by have := h.mlt; have := h.mbase; omega
  have hN := hS.near
  have ck := h.nkind hi
  by_cases k2 : (σ.nd i).kind = 2
  · rw [k2] at ck
    have QU := quoted_any h hN
    cases hq : σ.quotes with
    | false =>
      have e1 : σ.meetOk i = false := by unfold St.meetOk; rw [if_pos k2, hq]
      have e2 : σ.meet i = σ := by unfold St.meet; rw [if_pos k2, hq]; rfl
      have e3 : σ.quoted = σ := by unfold St.quoted; rw [hq]; rfl
      rw [hq, e3] at QU
      rw [e1, e2]
      go_enter Tryz.func32, Tryz.ntmps32
      go_wp2_with (go_at_call 44; (with_reducible refine QU.mono ?_); rintro e w1 ⟨rfl, h1, hb⟩)
      go_ret
      exact ⟨rfl, h1, hb⟩
    | true =>
      have e1 : σ.meetOk i = true := by unfold St.meetOk; rw [if_pos k2, hq]
      have e2 : σ.meet i = σ.quoted.touch i := by unfold St.meet; rw [if_pos k2, hq]; rfl
      have e3 : σ.quoted = (σ.past 1).skipped 1 := by unfold St.quoted; rw [hq]; rfl
      have n1 : σ.quoted.n = σ.n := by rw [e3]; rfl
      have n2 : σ.quoted.nd = σ.nd := by rw [e3]; rfl
      have n3 : σ.quoted.line = σ.line := by rw [e3]; rfl
      rw [hq] at QU
      rw [e1, e2]
      have TO := fun w (h : MRep B w mb mask nb kv lv ov σ.quoted) => touch_any h i (by rw [n1]; exact hi) (by rw [n1, n2]; exact hS.par) σ.quoted.line
      change ∀ w, MRep B w mb mask nb kv lv ov σ.quoted → Calls Tryz.prog 45 #[.pointer (some ⟨nb i, 0, none⟩), .int .i64 σ.quoted.line] w fun e w' => e = .returned (.tuple #[]) ∧ MRep B w' mb mask nb kv lv ov (σ.quoted.touch i) ∧ Below B w w' at TO
      clear e1 e2 e3 n1 n2 n3
      go_enter Tryz.func32, Tryz.ntmps32
      go_wp2_with (first
        | (go_at_call 44; (with_reducible refine QU.mono ?_); rintro e w1 ⟨rfl, h1, hb⟩; have c4 := h1.c4)
        | (go_at_call 45; (with_reducible refine (TO _ h1).mono ?_); rintro e w2 ⟨rfl, h2, hb2⟩))
      go_ret
      exact ⟨rfl, h2, hb.trans hb2⟩
  · by_cases k4 : (σ.nd i).kind = 4
    · rw [k4] at ck
      have BL := mblank_any h hN
      have DP := fun w (h : MRep B w mb mask nb kv lv ov σ) => deep_any h hN (σ.nd i).need _ rfl (by have := (hS.need i hi).1; omega)
      obtain ⟨kA, kc, hkv, hkc⟩ := own_form (h.rep.kids i hi)
      have cn : ∀ {w}, MRep B w mb mask nb kv lv ov σ → w.cell? ⟨nb i, 15, none⟩ = some (.int .i64 (σ.nd i).need) := fun h => (h.ncell hi 15).trans rfl
      have cK : ∀ {w}, MRep B w mb mask nb kv lv ov σ → w.cell? ⟨nb i, 10, none⟩ = some (.slice kA (σ.nd i).kids.length kc) := fun h => by rw [h.ncell hi 10, ← hkv]; rfl
      cases hb : σ.blank with
      | false =>
        have e1 : σ.meetOk i = σ.deepOk (σ.nd i).need := by unfold St.meetOk; rw [if_neg k2, if_pos k4, hb]; rfl
        have e2 : σ.meet i = σ.deep (σ.nd i).need := by unfold St.meet; rw [if_neg k2, if_pos k4, hb]; rfl
        rw [hb] at BL
        rw [e1, e2]
        go_enter Tryz.func32, Tryz.ntmps32
        go_wp2_with (first
          | (go_at_call 46; (with_reducible refine BL.mono ?_); rintro e w1 ⟨rfl, hb1⟩; have h1 := h.below hb1; have cn1 := cn h1)
          | (go_at_call 47; (with_reducible refine (DP _ h1).mono ?_); rintro e w2 ⟨rfl, h2, hb2⟩))
        go_ret
        exact ⟨rfl, h2, (hb1.mono hB).trans hb2⟩
      | true =>
        rw [hb] at BL
        cases hke : (σ.nd i).kids.isEmpty with
        | true =>
          have e1 : σ.meetOk i = false := by unfold St.meetOk; rw [if_neg k2, if_pos k4, hb, hke]; rfl
          have e2 : σ.meet i = σ := by unfold St.meet; rw [if_neg k2, if_pos k4, hb, hke]; rfl
          have hz : (σ.nd i).kids.length = 0 := by simpa using hke
          rw [hz] at cK
          rw [e1, e2]
          go_enter Tryz.func32, Tryz.ntmps32
          go_wp2_with (first
            | (go_at_call 46; (with_reducible refine BL.mono ?_); rintro e w1 ⟨rfl, hb1⟩; have h1 := h.below hb1; have cn1 := cK h1))
          go_ret
          exact ⟨rfl, h1, hb1.mono hB⟩
        | false =>
          have e1 : σ.meetOk i = σ.deepOk (σ.nd i).need := by unfold St.meetOk; rw [if_neg k2, if_pos k4, hb, hke]; rfl
          have e2 : σ.meet i = σ.deep (σ.nd i).need := by unfold St.meet; rw [if_neg k2, if_pos k4, hb, hke]; rfl
          have hz : (((σ.nd i).kids.length : Int) == 0) = false := by
            rw [beq_eq_false_iff_ne]; intro e; have : (σ.nd i).kids.length = 0 := by omega
            rw [List.isEmpty_eq_false_iff] at hke; exact hke (List.eq_nil_of_length_eq_zero this)
          rw [e1, e2]
          go_enter Tryz.func32, Tryz.ntmps32
          go_wp2_with (first
            | (go_at_call 46; (with_reducible refine BL.mono ?_); rintro e w1 ⟨rfl, hb1⟩; have h1 := h.below hb1; have cn1 := cn h1; have cn2 := cK h1)
            | (go_at_call 47; (with_reducible refine (DP _ h1).mono ?_); rintro e w2 ⟨rfl, h2, hb2⟩))
          go_ret
          exact ⟨rfl, h2, (hb1.mono hB).trans hb2⟩
    · by_cases k13 : (σ.nd i).kind = 13
      · rw [k13] at ck
        have DP := fun w (h : MRep B w mb mask nb kv lv ov σ) => deep_any h hN 4 _ cast4 (by omega)
        have e1 : σ.meetOk i = σ.deepOk 4 := by unfold St.meetOk; rw [if_neg k2, if_neg k4, if_pos k13]
        have e2 : σ.meet i = σ.deep 4 := by unfold St.meet; rw [if_neg k2, if_neg k4, if_pos k13]
        rw [e1, e2]
        go_enter Tryz.func32, Tryz.ntmps32
        go_wp2_with (first
          | (go_at_call 47; (with_reducible refine (DP _ h).mono ?_); rintro e w2 ⟨rfl, h2, hb2⟩))
        go_ret
        exact ⟨rfl, h2, hb2⟩
      · have q2 : (((σ.nd i).kind : Int) == 2) = false := by rw [beq_eq_false_iff_ne]; omega
        have q4 : (((σ.nd i).kind : Int) == 4) = false := by rw [beq_eq_false_iff_ne]; omega
        have q13 : (((σ.nd i).kind : Int) == 13) = false := by rw [beq_eq_false_iff_ne]; omega
        have e1 : σ.meetOk i = true := by unfold St.meetOk; rw [if_neg k2, if_neg k4, if_neg k13]
        have e2 : σ.meet i = σ := by unfold St.meet; rw [if_neg k2, if_neg k4, if_neg k13]
        rw [e1, e2]
        go_enter Tryz.func32, Tryz.ntmps32
        go_wp2
        go_ret
        exact ⟨rfl, h, Below.refl _ _⟩
end Bk
end Go.Proofs.YtehmcahdjldhbaaGreatDoor
end
section
/- Package block: the machine's memory behind a new node, an append onto a node's kids or lines, a cut of the open ones. -/
open Go Go.RowKit
set_option linter.unusedVariables false
set_option linter.unusedSimpArgs false
set_option maxRecDepth 100000
namespace Go.Proofs.YtehmcahdjldhbaaGreatDoor
open Wk
namespace Bk
theorem Tryz.infoNP : (Tryz.prog.info? 48).map (fun i => (i.zero, i.size, i.bytes)) = some (some (.pointer none), 1, 8) := by kernel_rfl

/-- The state with one node more, that hangs nowhere. -/
def St.ext (σ : St) (d : Nd) : St := { σ with n := σ.n + 1, nd := fun j => if j = σ.n then d else σ.nd j }
theorem MRep.new {B : Nat} {w w1 : World} {mb : Nat} {mask : Int} {nb : Nat → Nat} {kv lv : Nat → Value} {ov : Value} {σ : St} (h : MRep B w mb mask nb kv lv ov σ) (hb : Below w.heap.size w w1) {b : Nat} {lv' : Value} {d : Nd}
    (hn : w1.heap[b]? = some (.cells (cells nb (.slice none 0 0) lv' d) TN (0, 0))) (hl : w1.ownsRow B TS 1 lv' d.lines.length (d.lines.map strV)) (hk : d.kids = []) (hp : d.parent = none)
    (hpn : ∀ i, i < σ.n → (∀ p, (σ.nd i).parent = some p → p < σ.n) ∧ ∀ k ∈ (σ.nd i).kids, k < σ.n) (hop : ∀ i ∈ σ.opn, i < σ.n) (hlf : ∀ i, σ.leaf = some i → i < σ.n)
    (h1 : w.heap.size ≤ b) (h3 : ∀ k, lv'.ownBlock = some k → w.heap.size ≤ k) :
    MRep B w1 mb mask (fun i => if i = σ.n then b else nb i) (fun i => if i = σ.n then .slice none 0 0 else kv i) (fun i => if i = σ.n then lv' else lv i) ov (σ.ext d) := by
  have hB : B ≤ w.heap.size := by have := h.mlt; have := h.mbase; omega
  refine { rep := ?_, mach := ?_, mbase := h.mbase, opn := ?_, onk := ?_, low := h.low.trans (hb.mono hB), root := ⟨Nat.succ_pos _, by show (if 0 = σ.n then b else nb 0) + 2 = mb; rw [if_neg (by have := h.root.1; omega)]; exact h.root.2⟩ }
  · refine h.rep.new hb (by omega) hn ?_ hl (fun p e => by rw [hp] at e; cases e) (fun k e => by rw [hk] at e; cases e) hpn h1 (fun k e => by cases e) h3
    rw [hk]; exact World.ownsRow_nil _ _ _ _
  · rw [blk_below h.mach hb]
    have e : (σ.leaf.map fun i => if i = σ.n then b else nb i) = σ.leaf.map nb := by
      cases hl : σ.leaf with
      | none => rfl
      | some i => have := hlf i hl; simp [Nat.ne_of_lt this]
    have e2 : mcells (fun i => if i = σ.n then b else nb i) ov mask (σ.ext d) = mcells nb ov mask σ := by
      show (#[strV σ.s, natV σ.col, ov, ptrV (σ.leaf.map fun i => if i = σ.n then b else nb i), natV σ.line, natV σ.met, .bool σ.began, .int .i64 mask] : Array Value) = _
      rw [e]; rfl
    rw [e2]
  · have e : (σ.ext d).opn.map (nodeP fun i => if i = σ.n then b else nb i) = σ.opn.map (nodeP nb) := List.map_congr_left fun k hk => by have := hop k hk; simp [nodeP, Nat.ne_of_lt this]
    rw [e]; exact h.opn.below hb
  · intro i k hi e
    have hi' : i < σ.n + 1 := hi
    by_cases hin : i = σ.n
    · simp only [if_pos hin] at e; cases e
    · simp only [if_neg hin] at e; exact h.onk i k (by omega) e

theorem grown_ne {w w1 : World} {row : Option Nat} (hg : w.grownBy w1 row) {g t e n B : Nat} {v : Value} {xs : List Value} {cs : Array Value} {f : Nat × Nat} (h : w.heap[g]? = some (.cells cs t f)) (ho : w.ownsRow B e 1 v n xs) (hr : row = v.ownBlock) (hne : t ≠ e) : w1.heap[g]? = some (.cells cs t f) := by
  refine (hg.block _ (blk_lt h) fun e2 => ?_).trans h
  obtain ⟨cur, hc⟩ := own_blk ho (hr ▸ e2).symm
  exact blk_ne h hc hne rfl
theorem MRep.kid {B : Nat} {w w1 : World} {mb : Nat} {mask : Int} {nb : Nat → Nat} {kv lv : Nat → Value} {ov : Value} {σ : St} (h : MRep B w mb mask nb kv lv ov σ) {p j : Nat} (hp : p < σ.n) {v : Value} (hg : w.grownBy w1 (kv p).ownBlock)
    (hv : w1.ownsRow B TP 1 v ((σ.nd p).kids.length + 1) ((σ.nd p).kids.map (nodeP nb) ++ [nodeP nb j])) (hat : v.ownBlock = (kv p).ownBlock ∨ ∃ b, v.ownBlock = some b ∧ w.heap.size ≤ b) :
    MRep B (w1.setCell ⟨nb p, 10, none⟩ v) mb mask nb (fun x => if x = p then v else kv x) lv ov (σ.put p fun d => { d with kids := d.kids ++ [j] }) := by
  have hB : B ≤ w.heap.size := by have := h.mlt; have := h.mbase; omega
  have hN := grown_ne hg (h.rep.node p hp) (h.rep.kids p hp) rfl (by decide)
  have hbel : Below B w w1 := (Below.refl B w).grown hg hB (fun k e => ((h.rep.kids p hp).lt k e).1)
  refine { rep := h.rep.kid hp hg hv hat, mach := ?_, mbase := h.mbase, opn := ?_, onk := ?_, root := h.root, low := (h.low.trans hbel).trans ((Below.refl _ _).setCell (h.rep.base p hp) v) }
  · exact blk_far (grown_ne hg h.mach (h.rep.kids p hp) rfl (by decide)) (fun e => h.ne hp e.symm) v
  · have h1 : Heads w1 B ov (σ.opn.map (nodeP nb)) := h.opn.far fun k hk => by
      obtain ⟨g, cap, cur, e, hg2, _⟩ := h.opn.blk
      rw [e] at hk; cases hk
      exact hg.block g (blk_lt hg2) fun e2 => h.onk p g hp e2.symm (by rw [e]; rfl)
    exact h1.set_type hN (by decide) 10 v
  · intro i k hi e e2
    obtain ⟨g, cap, cur, eo, hg2, _⟩ := h.opn.blk
    by_cases hip : i = p
    · simp only [if_pos hip] at e
      rcases hat with a | ⟨b, a, hb⟩
      · exact h.onk p k hp (a ▸ e) e2
      · rw [a] at e; cases e
        rw [eo] at e2; cases e2
        have h9 := blk_lt hg2; replace hb : w.heap.size ≤ g := hb; omega
    · simp only [if_neg hip] at e
      exact h.onk i k hi e e2
theorem MRep.lineOn {B : Nat} {w w1 : World} {mb : Nat} {mask : Int} {nb : Nat → Nat} {kv lv : Nat → Value} {ov : Value} {σ : St} (h : MRep B w mb mask nb kv lv ov σ) {p : Nat} {s : Bs} (hp : p < σ.n) {v : Value} (hg : w.grownBy w1 (lv p).ownBlock)
    (hv : w1.ownsRow B TS 1 v ((σ.nd p).lines.length + 1) ((σ.nd p).lines.map strV ++ [strV s])) (hat : v.ownBlock = (lv p).ownBlock ∨ ∃ b, v.ownBlock = some b ∧ w.heap.size ≤ b) :
    MRep B (w1.setCell ⟨nb p, 11, none⟩ v) mb mask nb kv (fun x => if x = p then v else lv x) ov (σ.put p fun d => { d with lines := d.lines ++ [s] }) := by
  have hB : B ≤ w.heap.size := by have := h.mlt; have := h.mbase; omega
  have hN := grown_ne hg (h.rep.node p hp) (h.rep.lines p hp) rfl (by decide)
  have hbel : Below B w w1 := (Below.refl B w).grown hg hB (fun k e => ((h.rep.lines p hp).lt k e).1)
  refine { rep := h.rep.lineOn hp hg hv hat, mach := ?_, mbase := h.mbase, opn := ?_, onk := h.onk, root := h.root, low := (h.low.trans hbel).trans ((Below.refl _ _).setCell (h.rep.base p hp) v) }
  · exact blk_far (grown_ne hg h.mach (h.rep.lines p hp) rfl (by decide)) (fun e => h.ne hp e.symm) v
  · have h1 : Heads w1 B ov (σ.opn.map (nodeP nb)) := h.opn.far fun k hk => by
      obtain ⟨g, cap, cur, e, hg2, _⟩ := h.opn.blk
      rw [e] at hk; cases hk
      refine hg.block g (blk_lt hg2) fun e2 => ?_
      obtain ⟨cur2, hc⟩ := own_blk (h.rep.lines p hp) e2.symm
      exact blk_ne hg2 hc (by decide) rfl
    exact h1.set_type hN (by decide) 11 v
/-- The open ones are others, the machine is told so. -/
theorem MRep.open {B : Nat} {w : World} {mb : Nat} {mask : Int} {nb : Nat → Nat} {kv lv : Nat → Value} {ov ov' : Value} {σ τ : St} (h : MRep B w mb mask nb kv lv ov σ) (he : mcells nb ov' mask τ = (mcells nb ov mask σ).setIfInBounds 2 ov')
    (hn : τ.n = σ.n) (hA : τ.nd = σ.nd) (ho : Heads w B ov' (τ.opn.map (nodeP nb))) (hk : ∀ i k, i < σ.n → (kv i).ownBlock = some k → ov'.ownBlock ≠ some k) :
    MRep B (w.setCell ⟨mb, 2, none⟩ ov') mb mask nb kv lv ov' τ :=
  { rep := by rw [hn, hA]; exact h.rep.far h.mach (by decide) (by decide) (by decide) 2 ov',
    mach := by rw [he]; exact blk_set h.mach 2 ov',
    mbase := h.mbase,
    opn := ho.set_type h.mach (by decide) 2 ov',
    onk := by rw [hn]; exact hk,
    root := by rw [hn]; exact h.root,
    low := h.low.trans ((Below.refl _ _).setCell h.mbase ov') }
end Bk
end Go.Proofs.YtehmcahdjldhbaaGreatDoor
end
section
/- Package block: lay: a new block behind what is met. -/
open Go Go.RowKit
set_option linter.unusedVariables false
set_option linter.unusedSimpArgs false
set_option maxRecDepth 100000
namespace Go.Proofs.YtehmcahdjldhbaaGreatDoor
open Wk
namespace Bk
/-- What the machine's state must be for its methods not to fall; at most C nodes, at most L lines in each. -/
structure Fit (C L : Nat) (σ : St) : Prop extends Sound σ where
  opnN : ∀ i ∈ σ.opn, i < σ.n
  leafN : ∀ i, σ.leaf = some i → i < σ.n
  kidN : ∀ j, j < σ.n → ∀ k ∈ (σ.nd j).kids, k < σ.n
  met1 : 1 ≤ σ.met
  metL : σ.met ≤ σ.opn.length
  root : σ.opn[0]? = some 0 ∧ (σ.nd 0).kind = 1
  count : σ.n ≤ C
  kidL : ∀ j, j < σ.n → (σ.nd j).kids.length ≤ C
  linL : ∀ j, j < σ.n → (σ.nd j).lines.length ≤ L
  opnL : σ.opn.length ≤ C
theorem Fit.lastIn {C L : Nat} {σ : St} (h : Fit C L σ) : σ.last < σ.n := by
  refine h.opnN _ ?_
  unfold St.last
  have := h.met1; have := h.metL
  rw [List.getD_eq_getElem?_getD, List.getElem?_eq_getElem (by omega)]
  simp
theorem Fit.met2 {C L : Nat} {σ : St} (h : Fit C L σ) (hk : (σ.nd σ.last).kind = 3) : 2 ≤ σ.met := by
  rcases Nat.lt_or_ge 1 σ.met with h1 | h1
  · exact h1
  · have hm : σ.met = 1 := by have := h.met1; omega
    have : σ.last = 0 := by unfold St.last; rw [hm, List.getD_eq_getElem?_getD, h.root.1]; rfl
    rw [this, h.root.2] at hk
    cases hk
theorem Fit.lay0 {C L : Nat} {σ : St} (h : Fit C L σ) (k : Nat) : Fit C L (σ.lay0 k) := by
  unfold St.lay0
  split
  · rename_i hc
    have := h.met2 hc.1
    exact { h with met1 := by show 1 ≤ σ.met - 1; omega, metL := by have := h.metL; show σ.met - 1 ≤ σ.opn.length; omega }
  · exact h
theorem Fit.new {C L : Nat} {σ : St} (h : Fit C L σ) : ∀ i, i < σ.n → (∀ p, (σ.nd i).parent = some p → p < σ.n) ∧ ∀ k ∈ (σ.nd i).kids, k < σ.n :=
  fun i hi => ⟨fun p hp => by have := h.par i hi p hp; omega, h.kidN i hi⟩
def LayPost (B mb : Nat) (mask : Int) (b i : Nat) (τ : St) (w : World) (e : Ending) (w' : World) : Prop :=
  ∃ nb kv lv ov, e = .returned (.pointer (some ⟨b, 0, none⟩)) ∧ MRep B w' mb mask nb kv lv ov τ ∧ nb i = b ∧ Below B w w' ∧ ∃ og, ov = .slice (some ⟨og, 0, none⟩) τ.opn.length τ.opn.length
theorem MRep.mlow {B : Nat} {w : World} {mb : Nat} {mask : Int} {nb : Nat → Nat} {kv lv : Nat → Value} {ov : Value} {σ : St} (h : MRep B w mb mask nb kv lv ov σ) : B ≤ w.heap.size := by have := h.mlt; have := h.mbase; omega

/-- The steps of lay on a state that holds the new node already. -/
def St.lay3 (ρ : St) (d : Nd) : St := ((ρ.ext d).put ρ.n fun d => { d with parent := some ρ.last })
def St.lay4 (ρ : St) (d : Nd) : St := (ρ.lay3 d).put ρ.last fun e => { e with kids := e.kids ++ [ρ.n] }
def St.lay5 (ρ : St) (d : Nd) : St := { ρ.lay4 d with opn := ρ.opn.take ρ.met }
def St.lay6 (ρ : St) (d : Nd) : St := { ρ.lay5 d with leaf := none }
theorem lay6_lay1 {ρ : St} {d : Nd} (hl : ρ.last < ρ.n) : (ρ.lay6 d).put ρ.n (fun d => { d with first := ρ.line }) = ρ.lay1 d := by
  unfold St.lay6 St.lay5 St.lay4 St.lay3 St.put St.ext St.lay1
  congr 1
  funext j
  unfold upd
  by_cases h1 : j = ρ.n
  · subst h1
    have h2 : ¬ ρ.n = ρ.last := by omega
    simp [h2]
  · by_cases h2 : j = ρ.last
    · subst h2
      simp [h1]
    · simp [h1, h2]

set_option maxHeartbeats 1600000 in
theorem lay_any {B : Nat} {w0 w : World} {mb : Nat} {mask : Int} {nb : Nat → Nat} {kv lv : Nat → Value} {ov : Value} {σ : St} {C L : Nat} (h0 : MRep B w0 mb mask nb kv lv ov σ) (hF : Fit C L σ) (hC : C ≤ 1000000000000)
    (hb : Below w0.heap.size w0 w) {b : Nat} {lv' : Value} {d : Nd} (hn : w.heap[b]? = some (.cells (cells nb (.slice none 0 0) lv' d) TN (0, 0))) (hl : w.ownsRow B TS 1 lv' d.lines.length (d.lines.map strV)) (hk : d.kids = []) (hp : d.parent = none)
    (h1 : w0.heap.size ≤ b) (h3 : ∀ k, lv'.ownBlock = some k → w0.heap.size ≤ k) :
    Calls Tryz.prog 61 #[.pointer (some ⟨mb, 0, none⟩), .pointer (some ⟨b, 0, none⟩)] w (LayPost B mb mask b σ.n (σ.lay d) w) := by
  have hM1 := h0.new hb hn hl hk hp hF.new hF.opnN hF.leafN h1 h3
  have hb0 : (fun i => if i = σ.n then b else nb i) σ.n = b := by simp
  generalize (fun i => if i = σ.n then b else nb i) = nb1 at hM1 hb0
  generalize (fun i => if i = σ.n then (Value.slice none 0 0) else kv i) = kv1 at hM1
  generalize (fun i => if i = σ.n then lv' else lv i) = lv1 at hM1
  have hlast := hF.lastIn
  have hrho := hF.lay0 d.kind
  have hlast2 := hrho.lastIn
  obtain ⟨i0, hi0, hz0, hz1, hz2⟩ := info_parts Tryz.infoNP
  have hne : (σ.nd σ.last).kind = (((σ.ext d).nd σ.last)).kind := by show _ = (if σ.last = σ.n then d else σ.nd σ.last).kind; rw [if_neg (by omega)]
  have hdk : d.kind = ((σ.ext d).nd σ.n).kind := by show _ = (if σ.n = σ.n then d else σ.nd σ.n).kind; rw [if_pos rfl]
  have C1 : ∀ wx, MRep B wx mb mask nb1 kv1 lv1 ov (σ.ext d) → wx.cell? ⟨nb1 σ.last, 0, none⟩ = some (.int .i64 (σ.nd σ.last).kind) := fun wx h => by rw [hne]; exact h.nkind (by show σ.last < σ.n + 1; omega)
  have C2 : ∀ wx, MRep B wx mb mask nb1 kv1 lv1 ov (σ.ext d) → wx.cell? ⟨b, 0, none⟩ = some (.int .i64 d.kind) := fun wx h => by rw [hdk, ← hb0]; exact h.nkind (by show σ.n < σ.n + 1; omega)
  have LA := last_any hM1 hF.met1 hF.metL (by have := hF.opnL; show σ.opn.length ≤ _; omega)
  have LA0 : Calls Tryz.prog 86 #[.pointer (some ⟨mb, 0, none⟩)] w fun e w' => e = .returned (.pointer (some ⟨nb1 σ.last, 0, none⟩)) ∧ Below w.heap.size w w' := LA
  have hrn : (σ.lay0 d.kind).n = σ.n := by unfold St.lay0; split <;> rfl
  have hlb : σ.lay d = ((σ.lay0 d.kind).lay1 d).touch σ.n := rfl
  have HBw := hM1.mlow
  clear LA h0 hb hn hl h1 h3 hne hdk
  go_enter Tryz.func61, Tryz.ntmps61
  go_upto_region 1 with fail
  go_cut [19] (fun v wx => v = .bool (decide ((σ.nd σ.last).kind = 3 ∧ d.kind ≠ 4)) ∧ MRep B wx mb mask nb1 kv1 lv1 ov (σ.ext d) ∧ Below B w wx)
  case first =>
    by_cases k3 : (σ.nd σ.last).kind = 3
    · by_cases k4 : d.kind = 4
      · go_wp2_with (first
          | (go_at_call 86; (with_reducible refine LA0.mono ?_); clear LA0; rintro e w1 ⟨rfl, hb1⟩; have h1 := hM1.below hb1; have c1' := C1 _ h1; have c2' := C2 _ h1; rw [k3] at c1'; rw [k4] at c2'))
        go_meet
        case rel => exact ⟨by simp [k3, k4], h1, hb1.mono HBw⟩
      · have k4' : ((d.kind : Int) != 4) = true := by rw [bne_iff_ne]; omega
        go_wp2_with (first
          | (go_at_call 86; (with_reducible refine LA0.mono ?_); clear LA0; rintro e w1 ⟨rfl, hb1⟩; have h1 := hM1.below hb1; have c1' := C1 _ h1; have c2' := C2 _ h1; rw [k3] at c1'))
        go_meet
        case rel => exact ⟨by simp [k3, k4], h1, hb1.mono HBw⟩
    · have k3' : (((σ.nd σ.last).kind : Int) == 3) = false := by rw [beq_eq_false_iff_ne]; omega
      go_wp2_with (first
          | (go_at_call 86; (with_reducible refine LA0.mono ?_); clear LA0; rintro e w1 ⟨rfl, hb1⟩; have h1 := hM1.below hb1; have c1' := C1 _ h1))
      go_meet
      case rel => exact ⟨by simp [k3], h1, hb1.mono HBw⟩
  case rest =>
    obtain ⟨rfl, hM, hbw⟩ := hcut
    clear LA0 hM1
    go_upto_if 19 with fail
    go_cut [] (fun wx => MRep B wx mb mask nb1 kv1 lv1 ov ((σ.lay0 d.kind).ext d) ∧ Below B w wx)
    case first =>
      by_cases hc : (σ.nd σ.last).kind = 3 ∧ d.kind ≠ 4
      · have hr : σ.lay0 d.kind = { σ with met := σ.met - 1 } := by unfold St.lay0; rw [if_pos hc]
        have hm2 := hF.met2 hc.1
        rw [decide_eq_true hc]
        obtain ⟨m, hm⟩ : ∃ m, σ.met = m + 1 := ⟨σ.met - 1, by omega⟩
        have c5 : wc.cell? ⟨mb, 5, none⟩ = some (.int .i64 ((m + 1 : Nat) : Int)) := by rw [← hm]; exact hM.c5
        have f5 := hM.free 5
        have hmet : m < 1000000000000 := by have := hF.metL; have := hF.opnL; omega
        have hS := hM.mset 5 (natV m) { (σ.ext d) with met := m } rfl rfl rfl rfl
        have hb5 := hbw.setCell (p := ⟨mb, 5, none⟩) hM.mbase (natV m)
        have er : ((σ.lay0 d.kind).ext d) = { (σ.ext d) with met := m } := by rw [hr, hm]; rfl
        have ER := Lib.hid er
        clear hc hr hm hm2 er hM C1 C2 hrho hlast2 hrn hlb
        go_wp2
        go_meet
        case rel => exact ⟨by rw [ER.out]; exact hS, hb5⟩
      · have hr : σ.lay0 d.kind = σ := by unfold St.lay0; rw [if_neg hc]
        rw [decide_eq_false hc]
        have HR := Lib.hid hr
        clear hc hr
        go_wp2
        go_meet
        case rel => exact ⟨by rw [HR.out]; exact hM, hbw⟩
    case rest =>
      obtain ⟨hM2, hbw2⟩ := hcut
      have hB2 := hM2.mlow
      clear hM C1 C2
      generalize hrg : σ.lay0 d.kind = ρ at *
      have hb0' : nb1 ρ.n = b := by rw [hrn]; exact hb0
      have hin : ρ.n < (ρ.ext d).n := Nat.lt_succ_self _
      have LB := fun w (h : MRep B w mb mask nb1 kv1 lv1 ov (ρ.ext d)) => last_any h hrho.met1 hrho.metL (by have := hrho.opnL; show ρ.opn.length ≤ _; omega)
      change ∀ w, MRep B w mb mask nb1 kv1 lv1 ov (ρ.ext d) → Calls Tryz.prog 86 #[.pointer (some ⟨mb, 0, none⟩)] w fun e w' => e = .returned (.pointer (some ⟨nb1 ρ.last, 0, none⟩)) ∧ Below w.heap.size w w' at LB
      have STEP : ∀ wx, MRep B wx mb mask nb1 kv1 lv1 ov (ρ.ext d) → MRep B (wx.setCell ⟨b, 9, none⟩ (.pointer (some ⟨nb1 ρ.last, 0, none⟩))) mb mask nb1 kv1 lv1 ov (ρ.lay3 d) := fun wx h => by
        rw [← hb0']; exact h.nset hin 9 _ _ rfl rfl rfl
      have FR : ∀ wx, MRep B wx mb mask nb1 kv1 lv1 ov (ρ.ext d) → wx.frozen? ⟨b, 9, none⟩ = false ∧ wx.cell? ⟨b, 9, none⟩ = some (.pointer none) := fun wx h => by
        rw [← hb0']
        refine ⟨h.nfree hin 9, (h.ncell hin 9).trans ?_⟩
        show some (ptrV ((if ρ.n = ρ.n then d else ρ.nd ρ.n).parent.map nb1)) = _
        rw [if_pos rfl, hp]; rfl
      have hBb : B ≤ b := by rw [← hb0']; exact hM2.rep.base _ hin
      go_upto_region 4 with (first
        | (go_at_call 86; (with_reducible refine (LB _ hM2).mono ?_); rintro e w2 ⟨rfl, hb2⟩; have h2 := hM2.below hb2; obtain ⟨f2, f3⟩ := FR _ h2; have h3 := STEP _ h2))
      have hbw3 := (hbw2.trans (hb2.mono hB2)).setCell (p := ⟨b, 9, none⟩) hBb (.pointer (some ⟨nb1 ρ.last, 0, none⟩))
      generalize w2.setCell ⟨b, 9, none⟩ (.pointer (some ⟨nb1 ρ.last, 0, none⟩)) = w3 at *
      clear f2 f3 h2 hb2 FR LB STEP hM2 hbw2 hbw
      go_cut [] (fun wx => (∃ kv4, MRep B wx mb mask nb1 kv4 lv1 ov (ρ.lay4 d)) ∧ Below B w wx)
      case first =>
        have hpl : ρ.last < (ρ.lay3 d).n := by show ρ.last < ρ.n + 1; omega
        have hil : ρ.n < (ρ.lay3 d).n := Nat.lt_succ_self _
        have kk : ((ρ.lay3 d).nd ρ.last).kids = (ρ.nd ρ.last).kids := by
          show ((upd (fun j => if j = ρ.n then d else ρ.nd j) ρ.n _ ρ.last)).kids = _
          simp [upd, Nat.ne_of_lt hlast2]
        have kp : ((ρ.lay3 d).nd ρ.n).parent = some ρ.last := by
          show ((upd (fun j => if j = ρ.n then d else ρ.nd j) ρ.n _ ρ.n)).parent = _
          simp [upd]
        have cpar : w3.cell? ⟨b, 9, none⟩ = some (.pointer (some ⟨nb1 ρ.last, 0, none⟩)) := by
          rw [← hb0']; refine (h3.ncell hil 9).trans ?_
          show some (ptrV (((ρ.lay3 d).nd ρ.n).parent.map nb1)) = _
          rw [kp]; rfl
        have ckid : w3.cell? ⟨nb1 ρ.last, 10, none⟩ = some (kv1 ρ.last) := (h3.ncell hpl 10).trans rfl
        have HO := Lib.hid (h3.rep.kids _ hpl)
        have KK := Lib.hid kk
        rw [kk] at HO
        have hkl := hrho.kidL _ hlast2
        have HB := h3.mlow
        have hnk : nb1 ρ.last < w3.heap.size := h3.rep.lt hpl
        have hbk : b < w3.heap.size := by rw [← hb0']; exact h3.rep.lt hil
        have cA : ∀ o, (w3.alloc o).cell? ⟨b, 9, none⟩ = some (.pointer (some ⟨nb1 ρ.last, 0, none⟩)) := fun o => (((Below.refl w3.heap.size w3).alloc (Nat.le_refl _) o).cell (p := ⟨b, 9, none⟩) hbk).trans cpar
        have cB : ∀ o, (w3.alloc o).cell? ⟨nb1 ρ.last, 10, none⟩ = some (kv1 ρ.last) := fun o => (((Below.refl w3.heap.size w3).alloc (Nat.le_refl _) o).cell (p := ⟨nb1 ρ.last, 10, none⟩) hnk).trans ckid
        have hbne : Hid (some b ≠ (kv1 ρ.last).ownBlock) := fun e => by
          obtain ⟨cur, hcu⟩ := own_blk (h3.rep.kids _ hpl) e.symm
          have hnode := h3.rep.node _ hil
          rw [hb0'] at hnode
          exact blk_ne hnode hcu (by decide) rfl
        have hbb : Hid (nodeP nb1 ρ.n = .pointer (some ⟨b, 0, none⟩)) := by apply Lib.hid; unfold nodeP; rw [hb0']; rfl
        clear kk kp hrn hlb hrg hb0'
        go_region_law (refine step_append_lies _ rfl (.tmp 42) (.tmp 44) 49 rfl B 48 i0 (.pointer none) 1 8 Tryz.underlying49 hi0 hz0 hz1 hz2 rfl (by decide) (kv1 ρ.last) (ρ.nd ρ.last).kids.length ((ρ.nd ρ.last).kids.map (nodeP nb1)) (by simp [Act.eval, Act.put]) (by first | exact (HO.out.alloc _) | exact HO.out) ⟨w3.heap.size, 0, none⟩ 1 1 [.pointer (some ⟨b, 0, none⟩)] (by simp [Act.eval, Act.put]) rfl (World.news_of_block (cs := #[.pointer (some ⟨b, 0, none⟩)]) (heap_alloc_new w3 _)) (by simp [Value.oneCell']) (by decide) (by simp only [maxLen]; omega) (by omega) (by simp; omega) (w3.heap.size + 1) (by simp) ?_; intro g cap w4 hv hgr hat hlt; have G : w3.grownBy w4 (kv1 ρ.last).ownBlock := ⟨hgr.os, hgr.tape, hgr.output, (by have := hgr.size; simp at this; omega), fun k hk hr => (hgr.block k (by simp; omega) hr).trans (Below.heap_alloc w3 _ k hk)⟩; have N := grown_ne G (h3.rep.node _ hpl) (h3.rep.kids _ hpl) rfl (by decide); have n1 := blk_free N 10; have n2 : w4.cell? ⟨nb1 ρ.last, 10, none⟩ = some (kv1 ρ.last) := (cell_blk N 10).trans rfl; have n3 : w4.cell? ⟨b, 9, none⟩ = some (.pointer (some ⟨nb1 ρ.last, 0, none⟩)) := (World.cell?_of_block (w := w3) (a := ⟨b, 9, none⟩) (G.block b hbk hbne.out)).trans cpar)
        all_goals (try go_wp2)
        all_goals go_meet
        all_goals (case rel =>
          rw [← hbb.out] at hv
          refine ⟨⟨_, h3.kid hpl G (by rw [KK.out]; exact hv) ?_⟩, (hbw3.grown G HB (fun k e => ((h3.rep.kids _ hpl).lt k e).1)).setCell (h3.rep.base _ hpl) _⟩
          rcases hat with e | e
          · exact .inl e.symm
          · exact .inr ⟨g, rfl, by omega⟩)
      case rest =>
        obtain ⟨⟨kv4, hM4⟩, hbw4⟩ := hcut
        have o4 : (ρ.lay4 d).opn = ρ.opn := rfl
        obtain ⟨og, ocap, hov, hogB, hocap, hocell⟩ := hM4.ov_form
        rw [o4] at hov hocap
        have oH := hM4.opn.take hov ρ.met (by rw [List.length_map]; exact hrho.metL)
        have oN := hM4.onk
        have c2 := hM4.c2
        have c3 := hM4.c3
        have c5 := hM4.c5
        have f2 := hM4.free 2
        have f3 := hM4.free 3
        have m5 : (ρ.lay4 d).met = ρ.met := rfl
        rw [m5] at c5
        have hmL := hrho.metL
        have hoL := hrho.opnL
        have hm1 := hrho.met1
        subst hov
        have OH := Lib.hid oH
        have ON := Lib.hid oN
        clear h3 hbw3 oH oN hocell o4 m5
        go_upto_region 5 with fail
        go_cut [] (fun wx => MRep B wx mb mask nb1 kv4 lv1 (.slice (some ⟨og, 0, none⟩) ρ.met ρ.met) (ρ.lay6 d) ∧ Below B w wx)
        case first =>
          have M5 := hM4.open (ov' := .slice (some ⟨og, 0, none⟩) ρ.met ρ.met) (τ := ρ.lay5 d) rfl rfl rfl (by show Heads wc B _ (List.map (nodeP nb1) (ρ.opn.take ρ.met)); rw [List.map_take]; exact OH.out) ON.out
          have M6 := M5.mset 3 (.pointer none) (ρ.lay6 d) rfl rfl rfl rfl
          go_region
          all_goals (try go_wp2)
          all_goals go_meet
          all_goals (case rel => exact ⟨M6.below (Below.refl _ _).drew, ((hbw4.setCell (p := ⟨mb, 2, none⟩) hM4.mbase _).setCell (p := ⟨mb, 3, none⟩) hM4.mbase _).drew⟩)
        case rest =>
          obtain ⟨M6, hbw6⟩ := hcut
          have hn6 : ρ.n < (ρ.lay6 d).n := Nat.lt_succ_self _
          have M7 := M6.nset hn6 6 (natV ρ.line) (fun d => { d with first := ρ.line }) rfl rfl rfl
          rw [lay6_lay1 hlast2, hb0'] at M7
          change MRep B (wc.setCell ⟨b, 6, none⟩ (.int .i64 (ρ.line : Int))) mb mask nb1 kv4 lv1 _ (ρ.lay1 d) at M7
          have c4 : wc.cell? ⟨mb, 4, none⟩ = some (.int .i64 ρ.line) := M6.c4
          have c6 : wc.cell? ⟨b, 6, none⟩ = some (.int .i64 ((ρ.lay6 d).nd ρ.n).first) := by rw [← hb0']; exact (M6.ncell hn6 6).trans rfl
          have f6 : wc.frozen? ⟨b, 6, none⟩ = false := by rw [← hb0']; exact M6.nfree hn6 6
          have hpar : ∀ j, j < (ρ.lay1 d).n → ∀ p, ((ρ.lay1 d).nd j).parent = some p → p < j := by
            intro j hj p hpj
            have hj' : j < ρ.n + 1 := hj
            simp only [St.lay1] at hpj
            by_cases e1 : j = ρ.n
            · rw [if_pos e1] at hpj; cases hpj; omega
            · rw [if_neg e1] at hpj
              refine hrho.par j (by omega) p ?_
              by_cases e2 : j = ρ.last
              · rw [if_pos e2] at hpj; exact hpj
              · rw [if_neg e2] at hpj; exact hpj
          have TO := touch_any M7 ρ.n (Nat.lt_succ_self _) hpar ρ.line
          rw [hb0'] at TO
          have c4' := M7.c4
          have hbw7 := hbw6.setCell (p := ⟨b, 6, none⟩) hBb (natV ρ.line)
          have FINAL := Lib.hid hlb
          have HN := Lib.hid hrn
          clear M6 hrn hlb hrg hbw6 hpar hbw4 hM4
          have c4'' : (wc.setCell ⟨b, 6, none⟩ (.int .i64 ρ.line)).cell? ⟨mb, 4, none⟩ = some (.int .i64 ρ.line) := c4'
          clear c4'
          go_wp2_with (go_at_call 45; (with_reducible refine TO.mono ?_); rintro e w9 ⟨rfl, M9, hb9⟩)
          go_ret
          have hlen : (σ.lay d).opn.length = ρ.met := by
            rw [FINAL.out]; show (ρ.opn.take ρ.met).length = _; rw [List.length_take]; omega
          refine ⟨nb1, kv4, lv1, .slice (some ⟨og, 0, none⟩) ρ.met ρ.met, rfl, ?_, hb0, hbw7.trans hb9, og, by rw [hlen]⟩
          rw [FINAL.out, ← HN.out]
          exact M9
end Bk
end Go.Proofs.YtehmcahdjldhbaaGreatDoor
end
section
/- Package block: touch, lay and enter keep the state fit. -/
open Go Go.RowKit
set_option linter.unusedVariables false
set_option linter.unusedSimpArgs false
set_option maxRecDepth 100000
namespace Go.Proofs.YtehmcahdjldhbaaGreatDoor
open Wk
namespace Bk
/-- The operations keep the state fit. -/
theorem touchA_frame : ∀ (k : Nat) (A : Nat → Nd) (o : Option Nat) (l j : Nat), (touchA k A o l j) = { A j with last := (touchA k A o l j).last }
  | 0, _, _, _, _ => rfl
  | _ + 1, _, none, _, _ => rfl
  | k + 1, A, some i, l, j => by
    simp only [touchA]
    rw [touchA_frame k]
    unfold upd
    by_cases e : j = i
    · subst e; simp
    · simp [e]
theorem Fit.touch {C L : Nat} {σ : St} (h : Fit C L σ) (i : Nat) : Fit C L (σ.touch i) := by
  have e := fun j => touchA_frame σ.n σ.nd (some i) σ.line j
  exact
    { near := h.near
      par := fun j hj p hp => h.par j hj p (by have : (touchA σ.n σ.nd (some i) σ.line j).parent = some p := hp; rw [e] at this; exact this)
      need := fun j hj => by show (touchA σ.n σ.nd (some i) σ.line j).small; rw [e]; exact h.need j hj
      opnN := h.opnN, leafN := h.leafN
      kidN := fun j hj k hk => h.kidN j hj k (by have : k ∈ (touchA σ.n σ.nd (some i) σ.line j).kids := hk; rw [e] at this; exact this)
      met1 := h.met1, metL := h.metL
      root := ⟨h.root.1, by show (touchA σ.n σ.nd (some i) σ.line 0).kind = 1; rw [e]; exact h.root.2⟩
      count := h.count
      kidL := fun j hj => by show (touchA σ.n σ.nd (some i) σ.line j).kids.length ≤ _; rw [e]; exact h.kidL j hj
      linL := fun j hj => by show (touchA σ.n σ.nd (some i) σ.line j).lines.length ≤ _; rw [e]; exact h.linL j hj
      opnL := h.opnL }
theorem Fit.mono {C L C' L' : Nat} {σ : St} (h : Fit C L σ) (hC : C ≤ C') (hL : L ≤ L') : Fit C' L' σ :=
  { h with count := Nat.le_trans h.count hC, kidL := fun j hj => Nat.le_trans (h.kidL j hj) hC, linL := fun j hj => Nat.le_trans (h.linL j hj) hL, opnL := Nat.le_trans h.opnL hC }
theorem Fit.lay1 {C L : Nat} {σ : St} (h : Fit C L σ) {d : Nd} (hk : d.kids = []) (hn : d.small) (hl : d.lines.length ≤ L) : Fit (C + 1) L (σ.lay1 d) := by
  have hlast := h.lastIn
  have hpos : 0 < σ.n := h.opnN 0 (List.mem_of_getElem? h.root.1)
  have hm := h.met1
  have key : ∀ j, j < σ.n → ((σ.lay1 d).nd j) = if j = σ.last then { σ.nd j with kids := (σ.nd j).kids ++ [σ.n] } else σ.nd j := fun j hj => by
    show (if j = σ.n then _ else _) = _; rw [if_neg (by omega)]
  have keyn : (σ.lay1 d).nd σ.n = { d with parent := some σ.last, first := σ.line } := by show (if σ.n = σ.n then _ else _) = _; rw [if_pos rfl]
  have parts : ∀ (P : Nd → Prop), P { d with parent := some σ.last, first := σ.line } → (∀ j, j < σ.n → j ≠ σ.last → P (σ.nd j)) → P { σ.nd σ.last with kids := (σ.nd σ.last).kids ++ [σ.n] } → ∀ j, j < σ.n + 1 → P ((σ.lay1 d).nd j) := by
    intro P p1 p2 p3 j hj
    by_cases e : j = σ.n
    · rw [e, keyn]; exact p1
    · rw [key j (by omega)]
      by_cases e2 : j = σ.last
      · rw [if_pos e2, e2]; exact p3
      · rw [if_neg e2]; exact p2 j (by omega) e2
  exact
    { near := h.near
      par := fun j hj p hp => by
        by_cases e : j = σ.n
        · rw [e, keyn] at hp; cases hp; omega
        · rw [key j (by have : j < σ.n + 1 := hj; omega)] at hp
          refine h.par j (by have : j < σ.n + 1 := hj; omega) p ?_
          split at hp <;> exact hp
      need := parts (fun e => e.small) hn (fun j hj _ => h.need j hj) (h.need _ hlast)
      opnN := fun i hi => by have := h.opnN i (List.mem_of_mem_take hi); show i < σ.n + 1; omega
      leafN := fun i hi => by cases hi
      kidN := parts (fun e => ∀ k ∈ e.kids, k < σ.n + 1) (by rw [hk]; simp) (fun j hj _ k hk => by have := h.kidN j hj k hk; omega) (fun k hk => by
        rcases List.mem_append.1 hk with hk | hk
        · have := h.kidN _ hlast k hk; omega
        · simp at hk; omega)
      met1 := h.met1
      metL := by show σ.met ≤ (σ.opn.take σ.met).length; rw [List.length_take]; have := h.metL; omega
      root := ⟨by show (σ.opn.take σ.met)[0]? = _; rw [List.getElem?_take, if_pos (by omega)]; exact h.root.1, by
        rw [key 0 hpos]; split <;> exact h.root.2⟩
      count := by have := h.count; show σ.n + 1 ≤ C + 1; omega
      kidL := parts (fun e => e.kids.length ≤ C + 1) (by rw [hk]; simp) (fun j hj _ => by have := h.kidL j hj; omega) (by have := h.kidL _ hlast; simp; omega)
      linL := parts (fun e => e.lines.length ≤ L) hl (fun j hj _ => h.linL j hj) (h.linL _ hlast)
      opnL := by show (σ.opn.take σ.met).length ≤ C + 1; rw [List.length_take]; have := h.opnL; omega }
theorem Fit.lay {C L : Nat} {σ : St} (h : Fit C L σ) {d : Nd} (hk : d.kids = []) (hn : d.small) (hl : d.lines.length ≤ L) : Fit (C + 1) L (σ.lay d) :=
  ((h.lay0 d.kind).lay1 hk hn hl).touch _
theorem lay_n (σ : St) (d : Nd) : (σ.lay d).n = σ.n + 1 := by
  show (σ.lay0 d.kind).n + 1 = _
  unfold St.lay0; split <;> rfl
theorem Fit.enter {C L : Nat} {σ : St} (h : Fit C L σ) {d : Nd} (hk : d.kids = []) (hn : d.small) (hl : d.lines.length ≤ L) : Fit (C + 1) L (σ.enter d) := by
  have h1 := h.lay hk hn hl
  have hc := h.count
  have hn1 := lay_n σ d
  have ho : (σ.lay d).opn.length ≤ C := by
    show ((σ.lay0 d.kind).opn.take (σ.lay0 d.kind).met).length ≤ C
    rw [List.length_take]; have := (h.lay0 d.kind).opnL; omega
  exact { h1 with
    opnN := fun i hi => by
      rcases List.mem_append.1 hi with hi | hi
      · exact h1.opnN i hi
      · simp at hi; show i < (σ.lay d).n; omega
    met1 := Nat.succ_le_succ (Nat.zero_le _)
    metL := by show (σ.lay d).opn.length + 1 ≤ ((σ.lay d).opn ++ [σ.n]).length; simp
    root := ⟨by
      show ((σ.lay d).opn ++ [σ.n])[0]? = some 0
      have := h1.root.1
      rw [List.getElem?_append_left (by have := h1.met1; have := h1.metL; omega)]; exact this, h1.root.2⟩
    opnL := by show ((σ.lay d).opn ++ [σ.n]).length ≤ C + 1; simp; omega }
end Bk
end Go.Proofs.YtehmcahdjldhbaaGreatDoor
end
section
/- Package block: enter: a new container, and into it. -/
open Go Go.RowKit
set_option linter.unusedVariables false
set_option linter.unusedSimpArgs false
set_option maxRecDepth 100000
namespace Go.Proofs.YtehmcahdjldhbaaGreatDoor
open Wk
namespace Bk
def EntPost (B mb : Nat) (mask : Int) (τ : St) (w : World) (e : Ending) (w' : World) : Prop :=
  ∃ nb kv lv ov, e = .returned (.tuple #[]) ∧ MRep B w' mb mask nb kv lv ov τ ∧ Below B w w'
theorem MRep.drew {B : Nat} {w : World} {mb : Nat} {mask : Int} {nb : Nat → Nat} {kv lv : Nat → Value} {ov : Value} {σ : St} (h : MRep B w mb mask nb kv lv ov σ) : MRep B w.drew mb mask nb kv lv ov σ := h.below (Below.refl _ _).drew
theorem MRep.alloc {B : Nat} {w : World} {mb : Nat} {mask : Int} {nb : Nat → Nat} {kv lv : Nat → Value} {ov : Value} {σ : St} (h : MRep B w mb mask nb kv lv ov σ) (o : Obj) : MRep B (w.alloc o) mb mask nb kv lv ov σ := h.below ((Below.refl _ _).alloc (Nat.le_refl _) _)
/-- Without the new one among the open ones. -/
def St.enter2 (σ : St) (d : Nd) : St := { σ.lay d with opn := (σ.lay d).opn ++ [σ.n] }
def St.enter3 (σ : St) (d : Nd) : St := { σ.enter2 d with met := (σ.lay d).opn.length + 1 }

theorem own_lower {w : World} {B B' e size n : Nat} {v : Value} {xs : List Value} (h : w.ownsRow B e size v n xs) (hb : B' ≤ B) : w.ownsRow B' e size v n xs := by
  refine ⟨h.1, ?_⟩
  rcases h.2 with ⟨rfl, h0⟩ | ⟨g, cap, cur, rfl, hB, hg, r⟩
  · exact .inl ⟨rfl, h0⟩
  · exact .inr ⟨g, cap, cur, rfl, Nat.le_trans hb hB, hg, r⟩
theorem Heads.cellAt {w : World} {B g n cap : Nat} {xs : List Value} (h : Heads w B (.slice (some ⟨g, 0, none⟩) n cap) xs) : ∀ i u, xs[i]? = some u → w.cell? ⟨g, i, none⟩ = some u := by
  obtain ⟨g', cap', e, _, _, hc⟩ := h.cell
  have e1 : g = g' := by simp at e; exact e.1
  subst e1; exact hc
theorem add_off (og j : Nat) : (⟨og, 0, none⟩ : Addr).add j = ⟨og, j, none⟩ := by unfold Addr.add; split <;> simp_all

theorem enter_any {B : Nat} {w0 w : World} {mb : Nat} {mask : Int} {nb : Nat → Nat} {kv lv : Nat → Value} {ov : Value} {σ : St} {C L : Nat} (h0 : MRep B w0 mb mask nb kv lv ov σ) (hF : Fit C L σ) (hC : C ≤ 1000000000000)
    (hb : Below w0.heap.size w0 w) {b : Nat} {lv' : Value} {d : Nd} (hn : w.heap[b]? = some (.cells (cells nb (.slice none 0 0) lv' d) TN (0, 0))) (hl : w.ownsRow B TS 1 lv' d.lines.length (d.lines.map strV)) (hk : d.kids = []) (hp : d.parent = none)
    (h1 : w0.heap.size ≤ b) (h3 : ∀ k, lv'.ownBlock = some k → w0.heap.size ≤ k) :
    Calls Tryz.prog 54 #[.pointer (some ⟨mb, 0, none⟩), .pointer (some ⟨b, 0, none⟩)] w (EntPost B mb mask (σ.enter d) w) := by
  have LY := lay_any h0 hF hC hb hn hl hk hp h1 h3
  obtain ⟨i0, hi0, hz0, hz1, hz2⟩ := info_parts Tryz.infoNP
  have hol : (σ.lay d).opn.length ≤ C := by
    show ((σ.lay0 d.kind).opn.take (σ.lay0 d.kind).met).length ≤ C
    rw [List.length_take]; have := (hF.lay0 d.kind).opnL; omega
  clear h0 hb hn hl hk hp h1 h3
  go_enter Tryz.func54, Tryz.ntmps54
  go_upto_region 1 with (go_at_call 61; (with_reducible refine LY.mono ?_); clear LY; rintro e w1 ⟨nb1, kv1, lv1, ov1, rfl, M1, hnb, hb1, og, rfl⟩)
  have c2 := M1.c2
  have f2 := M1.free 2
  have hBw := M1.mlow
  have hcell := M1.opn.cell
  have hmb := M1.mlt
  go_wp2_with (at_builtin; refine wpList_append_grows _ rfl _ _ 49 rfl 48 i0 (.pointer none) 1 8 Tryz.underlying49 hi0 hz0 hz1 hz2 rfl (by decide) (some ⟨og, 0, none⟩) (σ.lay d).opn.length (σ.lay d).opn.length ((σ.lay d).opn.map (nodeP nb1)) (by simp [Act.eval, Act.put]) (by simp) (by simp) ?c1 ⟨w1.heap.size, 0, none⟩ 1 1 [.pointer (some ⟨b, 0, none⟩)] (by simp [Act.eval, Act.put]) rfl (World.news_of_block (cs := #[.pointer (some ⟨b, 0, none⟩)]) (heap_alloc_new w1 _)) (by simp [Value.oneCell']) (by omega) (by simp only [maxLen]; omega) (by omega) ?_)
  case c1 =>
    intro ba e j u hu
    cases e
    rw [add_off]
    exact (M1.alloc _).opn.cellAt j u hu
  intro v2 w2 hv2 hg2
  have hB2 : Below w1.heap.size w1 w2 := by
    have := ((Below.refl w1.heap.size w1).alloc (Nat.le_refl _) (.cells #[.pointer (some ⟨b, 0, none⟩)] 48)).grown hg2 (by simp) (fun k e => by cases e)
    exact this
  have M2 := M1.below hB2
  obtain ⟨g, cap, rfl, hgB, hglt⟩ := hv2.form (by omega)
  have hbb : nodeP nb1 σ.n = .pointer (some ⟨b, 0, none⟩) := by unfold nodeP; rw [hnb]; rfl
  have M3 := M2.open (ov' := .slice (some ⟨g, 0, none⟩) ((σ.lay d).opn.length + 1) cap) (τ := σ.enter2 d) rfl rfl rfl (by
    have hv := hv2
    rw [← hbb] at hv
    have e : ((σ.enter2 d).opn.map (nodeP nb1)) = (σ.lay d).opn.map (nodeP nb1) ++ [nodeP nb1 σ.n] := by show ((σ.lay d).opn ++ [σ.n]).map _ = _; simp
    rw [e]
    have hv4 : w2.ownsRow B TP 1 (.slice (some ⟨g, 0, none⟩) ((σ.lay d).opn.length + 1) cap) ((σ.lay d).opn.map (nodeP nb1) ++ [nodeP nb1 σ.n]).length ((σ.lay d).opn.map (nodeP nb1) ++ [nodeP nb1 σ.n]) := by
      have h5 := own_lower (B' := B) hv (by omega)
      have e2 : ((σ.lay d).opn.map (nodeP nb1) ++ [nodeP nb1 σ.n]).length = (σ.lay d).opn.length + 1 := by simp
      rw [e2]; exact h5
    exact Heads.of_own hv4 (by simp)) (fun i k hi e e2 => by
      cases e2
      have h5 : g < w1.heap.size := ((M1.rep.kids i hi).lt _ e).2
      omega)
  have M4 := M3.mset 5 (natV ((σ.lay d).opn.length + 1)) (σ.enter3 d) rfl rfl rfl rfl
  have M5 := M4.mset 6 (.bool true) (σ.enter d) rfl rfl rfl rfl
  have k2 := M2.c2
  have g2 := M2.free 2
  have g5 := M2.free 5
  have g6 := M2.free 6
  have k5 := M2.c5
  have k6 := M2.c6
  have ec : ((σ.lay d).opn.length : Int) + 1 = (((σ.lay d).opn.length + 1 : Nat) : Int) := by omega
  have EC := Lib.hid ec
  have hbel := ((((hb1.trans (hB2.mono hBw)).setCell (p := ⟨mb, 2, none⟩) M2.mbase (.slice (some ⟨g, 0, none⟩) ((σ.lay d).opn.length + 1) cap)).setCell (p := ⟨mb, 5, none⟩) M2.mbase (natV ((σ.lay d).opn.length + 1))).setCell (p := ⟨mb, 6, none⟩) M2.mbase (.bool true))
  clear hcell c2 f2 M3 M4 M1 ec
  go_wp2
  go_end0
  refine ⟨nb1, kv1, lv1, .slice (some ⟨g, 0, none⟩) ((σ.lay d).opn.length + 1) cap, rfl, ?_, ?_⟩
  · rw [EC.out]; exact M5
  · rw [EC.out]; exact hbel
end Bk
end Go.Proofs.YtehmcahdjldhbaaGreatDoor
end
section
/- Package block: add: a line more into the leaf. -/
open Go Go.RowKit
set_option linter.unusedVariables false
set_option linter.unusedSimpArgs false
set_option maxRecDepth 100000
namespace Go.Proofs.YtehmcahdjldhbaaGreatDoor
open Wk
namespace Bk
theorem Tryz.infoST : (Tryz.prog.info? 9).map (fun i => (i.zero, i.size, i.bytes)) = some (some (.string ⟨#[]⟩), 1, 16) := by kernel_rfl
def AddPost (B mb : Nat) (mask : Int) (nb : Nat → Nat) (kv : Nat → Value) (ov : Value) (τ : St) (w : World) (e : Ending) (w' : World) : Prop :=
  ∃ lv, e = .returned (.tuple #[]) ∧ MRep B w' mb mask nb kv lv ov τ ∧ Below B w w'

set_option maxHeartbeats 1600000 in
theorem add_any {B : Nat} {w : World} {mb : Nat} {mask : Int} {nb : Nat → Nat} {kv lv : Nat → Value} {ov : Value} {σ : St} {C L : Nat} (h : MRep B w mb mask nb kv lv ov σ) (hF : Fit C L σ) (hC : C ≤ 1000000000000) (hL : L ≤ 1000000000000)
    (i : Nat) (hlf : σ.leaf = some i) (s : Bs) (hs : s.length ≤ 4000000000) :
    Calls Tryz.prog 59 #[.pointer (some ⟨mb, 0, none⟩), .string (mk s)] w (AddPost B mb mask nb kv ov (σ.add s) w) := by
  have hi := hF.leafN i hlf
  have hB := h.mlow
  obtain ⟨i0, hi0, hz0, hz1, hz2⟩ := info_parts Tryz.infoST
  have hll := hF.linL i hi
  let τ := σ.put i fun d => { d with lines := d.lines ++ [s] }
  have hτ : σ.add s = if Sc.blanks s then τ else τ.touch i := by unfold St.add; rw [hlf]
  have hτp : ∀ j, j < τ.n → ∀ p, (τ.nd j).parent = some p → p < j := fun j hj p hp => hF.par j hj p (by
    have : (upd σ.nd i (fun d => { d with lines := d.lines ++ [s] }) j).parent = some p := hp
    unfold upd at this
    split at this
    · rename_i e; rw [e]; exact this
    · exact this)
  have BL := fun w => Blank_any (mk s) w (by unfold Small; rw [mk_size]; exact hs)
  rw [mk_data] at BL
  go_enter Tryz.func59, Tryz.ntmps59
  go_upto_region 0 with fail
  go_cut [] (fun wx => (∃ lv2, MRep B wx mb mask nb kv lv2 ov τ) ∧ Below B w wx)
  case first =>
    have c2 := h.c3_some hlf
    have hnode := h.rep.node i hi
    have cl : w.cell? ⟨nb i, 11, none⟩ = some (lv i) := (h.ncell hi 11).trans rfl
    have fl := h.nfree hi 11
    have HO := Lib.hid (h.rep.lines i hi)
    have hmlt := h.mlt
    have hnk : nb i < w.heap.size := h.rep.lt hi
    have cA : ∀ o, (w.alloc o).cell? ⟨mb, 3, none⟩ = some (.pointer (some ⟨nb i, 0, none⟩)) := fun o => (((Below.refl w.heap.size w).alloc (Nat.le_refl _) o).cell (p := ⟨mb, 3, none⟩) hmlt).trans c2
    have cB : ∀ o, (w.alloc o).cell? ⟨nb i, 11, none⟩ = some (lv i) := fun o => (((Below.refl w.heap.size w).alloc (Nat.le_refl _) o).cell (p := ⟨nb i, 11, none⟩) hnk).trans cl
    have hmne : Hid (some mb ≠ (lv i).ownBlock) := fun e => by
      obtain ⟨cur, hcu⟩ := own_blk (h.rep.lines i hi) e.symm
      exact blk_ne h.mach hcu (by decide) rfl
    clear BL hτ hτp
    go_region_law (refine step_append_lies _ rfl (.tmp 14) (.tmp 16) 22 rfl B 9 i0 (.string ⟨#[]⟩) 1 16 Tryz.underlying22 hi0 hz0 hz1 hz2 rfl (by decide) (lv i) (σ.nd i).lines.length ((σ.nd i).lines.map strV) (by simp [Act.eval, Act.put]) (by first | exact (HO.out.alloc _) | exact HO.out) ⟨w.heap.size, 0, none⟩ 1 1 [.string (mk s)] (by simp [Act.eval, Act.put]) rfl (World.news_of_block (cs := #[.string (mk s)]) (heap_alloc_new w _)) (by simp [Value.oneCell']) (by decide) (by simp only [maxLen]; omega) (by omega) (by simp; omega) (w.heap.size + 1) (by simp) ?_; intro g cap w4 hv hgr hat hlt; have G : w.grownBy w4 (lv i).ownBlock := ⟨hgr.os, hgr.tape, hgr.output, (by have := hgr.size; simp at this; omega), fun k hk hr => (hgr.block k (by simp; omega) hr).trans (Below.heap_alloc w _ k hk)⟩; have N := grown_ne G hnode (h.rep.lines i hi) rfl (by decide); have n1 := blk_free N 11; have n2 : w4.cell? ⟨nb i, 11, none⟩ = some (lv i) := (cell_blk N 11).trans rfl; have n3 : w4.cell? ⟨mb, 3, none⟩ = some (.pointer (some ⟨nb i, 0, none⟩)) := (World.cell?_of_block (w := w) (a := ⟨mb, 3, none⟩) (G.block mb hmlt hmne.out)).trans c2)
    all_goals (try go_wp2)
    all_goals go_meet
    all_goals (case rel =>
      refine ⟨⟨_, h.lineOn hi G hv ?_⟩, ((Below.refl B w).grown G hB (fun k e => ((h.rep.lines i hi).lt k e).1)).setCell (h.rep.base i hi) _⟩
      rcases hat with e | e
      · exact .inl e.symm
      · exact .inr ⟨g, rfl, by omega⟩)
  case rest =>
    obtain ⟨⟨lv2, M2⟩, hb2⟩ := hcut
    have TO := fun w (h : MRep B w mb mask nb kv lv2 ov τ) => touch_any h i hi hτp σ.line
    cases hbl : Sc.blanks s with
    | true =>
      rw [hbl] at BL hτ
      have HT := Lib.hid hτ
      clear hτ
      go_wp2_with (go_at_call 65; (with_reducible refine (BL _).mono ?_); rintro e w3 ⟨rfl, hb3⟩)
      go_end0
      exact ⟨lv2, rfl, by rw [HT.out]; exact M2.below hb3, hb2.trans (hb3.mono M2.mlow)⟩
    | false =>
      rw [hbl] at BL hτ
      have HT := Lib.hid hτ
      clear hτ
      go_wp2_with (first
        | (go_at_call 65; (with_reducible refine (BL _).mono ?_); rintro e w3 ⟨rfl, hb3⟩; have M3 := M2.below hb3; have c3 := M3.c3_some (i := i) hlf; have c4 : w3.cell? ⟨mb, 4, none⟩ = some (.int .i64 σ.line) := M3.c4))
      have TO3 := TO _ (M3.below (Below.refl _ _).drew)
      go_region_with ((go_at_call 45; (with_reducible refine TO3.mono ?_); rintro e w5 ⟨rfl, M5, hb5⟩))
      all_goals go_end0
      all_goals exact ⟨lv2, rfl, by rw [HT.out]; exact M5, (hb2.trans (hb3.mono M2.mlow)).trans ((Below.refl B w3).drew.trans hb5)⟩
end Bk
end Go.Proofs.YtehmcahdjldhbaaGreatDoor
end
section
/- Package block: fenced, html, takes. -/
open Go Go.RowKit
set_option linter.unusedVariables false
set_option linter.unusedSimpArgs false
set_option maxRecDepth 100000
namespace Go.Proofs.YtehmcahdjldhbaaGreatDoor
open Wk
namespace Bk
theorem Near.without {σ : St} (h : Near σ) (n : Nat) : (σ.without n).length ≤ 4000000000 := by
  have h1 := phi_skip σ.s σ.col n
  have h2 := phi_len (skip σ.s σ.col n).1
  unfold Near at h
  show (skip σ.s σ.col n).1.length ≤ _
  omega
theorem small_of {l : Bs} (h : l.length ≤ 4000000000) : Small (mk l) := by unfold Small; rw [mk_size]; exact h
theorem St.close_eq (σ : St) : σ.close = { σ with leaf := none } := rfl

set_option maxHeartbeats 4000000 in
theorem fenced_any {B : Nat} {w : World} {mb : Nat} {mask : Int} {nb : Nat → Nat} {kv lv : Nat → Value} {ov : Value} {σ : St} {C L : Nat} (h : MRep B w mb mask nb kv lv ov σ) (hF : Fit C L σ) (hC : C ≤ 1000000000000) (hL : L ≤ 1000000000000)
    (i : Nat) (hlf : σ.leaf = some i) :
    Calls Tryz.prog 49 #[.pointer (some ⟨mb, 0, none⟩)] w (EntPost B mb mask (σ.fenced i) w) := by
  have hi := hF.leafN i hlf
  have hB := h.mlow
  have hN := hF.near
  have hsm := hF.need i hi
  have c3 := h.c3_some hlf
  have c12 : w.cell? ⟨nb i, 12, none⟩ = some (.int .u8 ((σ.nd i).fc.toNat : Int)) := (h.ncell hi 12).trans rfl
  have c13 : w.cell? ⟨nb i, 13, none⟩ = some (.int .i64 (σ.nd i).fn) := (h.ncell hi 13).trans rfl
  have c14 : w.cell? ⟨nb i, 14, none⟩ = some (.int .i64 (σ.nd i).fi) := (h.ncell hi 14).trans rfl
  have hfb : (w.alloc (.cells #[.int .u8 ((σ.nd i).fc.toNat : Int), .int .i64 (σ.nd i).fn, .int .i64 (σ.nd i).fi] 51)).heap[w.heap.size]? = some (.cells #[.int .u8 ((σ.nd i).fc.toNat : Int), .int .i64 (σ.nd i).fn, .int .i64 (σ.nd i).fi] 51 (0, 0)) := heap_alloc_new w _
  have M1 := h.alloc (.cells #[.int .u8 ((σ.nd i).fc.toNat : Int), .int .i64 (σ.nd i).fn, .int .i64 (σ.nd i).fi] 51)
  have hbA := ((Below.refl B w).alloc hB (.cells #[.int .u8 ((σ.nd i).fc.toNat : Int), .int .i64 (σ.nd i).fn, .int .i64 (σ.nd i).fi] 51))
  have IN := mindent_any M1 hN
  have CL := fun w => closes_any (mk σ.t) (σ.nd i).fc (σ.nd i).fn w (small_of (by have := hN.tLe; omega)) (by omega) (by have := hsm.2.1; omega)
  rw [mk_data] at CL
  have TO := fun w (h : MRep B w mb mask nb kv lv ov σ) => touch_any h i hi hF.par σ.line
  have WO := fun w (h : MRep B w mb mask nb kv lv ov σ) => mwithout_any h hN (σ.nd i).fi _ rfl (by have := hsm.2.2; omega)
  have AD := fun w (h : MRep B w mb mask nb kv lv ov σ) => add_any h hF hC hL i hlf (σ.without (σ.nd i).fi) (hN.without _)
  by_cases hc : σ.w < 4 ∧ Sc.closes σ.t (σ.nd i).fc (σ.nd i).fn = true
  · have hfd : Hid (σ.fenced i = (σ.touch i).close) := by apply Lib.hid; unfold St.fenced; rw [if_pos hc]
    have hd : decide ((σ.w : Int) < 4) = true := by rw [decide_eq_true_iff]; have := hc.1; omega
    rw [hc.2] at CL
    clear hc
    go_enter Tryz.func49, Tryz.ntmps49
    go_wp2_with (first
      | (go_at_call 51; (with_reducible refine IN.mono ?_); rintro e w1 ⟨rfl, hb1⟩; have M2 := M1.below hb1; have fb := blk_below hfb hb1; have k0 : w1.cell? ⟨w.heap.size, 0, none⟩ = some (.int .u8 ((σ.nd i).fc.toNat : Int)) := (cell_blk fb 0).trans rfl; have k1 : w1.cell? ⟨w.heap.size, 1, none⟩ = some (.int .i64 (σ.nd i).fn) := (cell_blk fb 1).trans rfl)
      | (go_at_call 75; (with_reducible refine (CL _).mono ?_); rintro e w2 ⟨rfl, hb2⟩; have M3 := M2.below hb2; have c3' := M3.c3_some hlf; have c4' := M3.c4))
    have TO3 := TO _ (M3.below (Below.refl _ _).drew)
    go_region_with ((go_at_call 45; (with_reducible refine TO3.mono ?_); rintro e w5 ⟨rfl, M5, hb5⟩; have f5 := M5.free 3; have c5 := M5.c3_some (i := i) hlf))
    all_goals go_wp2
    all_goals go_end0
    all_goals (have M6 := M5.mset 3 (.pointer none) (σ.touch i).close rfl rfl rfl rfl)
    all_goals exact ⟨nb, kv, lv, ov, rfl, by rw [hfd.out]; exact M6, (((hbA.trans (hb1.mono M1.mlow)).trans (hb2.mono M2.mlow)).trans ((Below.refl B w2).drew.trans hb5)).setCell M5.mbase _⟩
  · have hfd : Hid (σ.fenced i = σ.add (σ.without (σ.nd i).fi)) := by apply Lib.hid; unfold St.fenced; rw [if_neg hc]
    have LAST : ∀ {w3}, MRep B w3 mb mask nb kv lv ov σ → w3.heap[w.heap.size]? = some (.cells #[.int .u8 ((σ.nd i).fc.toNat : Int), .int .i64 (σ.nd i).fn, .int .i64 (σ.nd i).fi] 51 (0, 0)) → w3.cell? ⟨w.heap.size, 2, none⟩ = some (.int .i64 (σ.nd i).fi) := fun _ hf => (cell_blk hf 2).trans rfl
    by_cases hw : σ.w < 4
    · have hd : decide ((σ.w : Int) < 4) = true := by rw [decide_eq_true_iff]; omega
      have hcl : Sc.closes σ.t (σ.nd i).fc (σ.nd i).fn = false := by
        cases e : Sc.closes σ.t (σ.nd i).fc (σ.nd i).fn with
        | false => rfl
        | true => exact absurd ⟨hw, e⟩ hc
      rw [hcl] at CL
      clear hc hw hcl
      go_enter Tryz.func49, Tryz.ntmps49
      go_wp2_with (first
        | (go_at_call 51; (with_reducible refine IN.mono ?_); rintro e w1 ⟨rfl, hb1⟩; have M2 := M1.below hb1; have fb := blk_below hfb hb1; have k0 : w1.cell? ⟨w.heap.size, 0, none⟩ = some (.int .u8 ((σ.nd i).fc.toNat : Int)) := (cell_blk fb 0).trans rfl; have k1 : w1.cell? ⟨w.heap.size, 1, none⟩ = some (.int .i64 (σ.nd i).fn) := (cell_blk fb 1).trans rfl)
        | (go_at_call 75; (with_reducible refine (CL _).mono ?_); rintro e w2 ⟨rfl, hb2⟩; have M3 := M2.below hb2; have k2 := LAST M3 (blk_below fb hb2)))
      have WO3 := WO _ (M3.below (Below.refl _ _).drew)
      go_region_with (first
        | (go_at_call 60; (with_reducible refine WO3.mono ?_); rintro e w5 ⟨rfl, hb5⟩; have M5 := M3.below ((Below.refl _ w2).drew.trans hb5); have AD5 := AD _ M5)
        | (go_at_call 59; (with_reducible refine AD5.mono ?_); rintro e w6 ⟨lv6, rfl, M6, hb6⟩))
      all_goals go_end0
      all_goals exact ⟨nb, kv, lv6, ov, rfl, by rw [hfd.out]; exact M6, ((((hbA.trans (hb1.mono M1.mlow)).trans (hb2.mono M2.mlow)).trans ((Below.refl B w2).drew.trans (hb5.mono M3.mlow))).trans hb6)⟩
    · have hd : decide ((σ.w : Int) < 4) = false := by rw [decide_eq_false_iff_not]; omega
      clear hc hw
      go_enter Tryz.func49, Tryz.ntmps49
      go_wp2_with (first
        | (go_at_call 51; (with_reducible refine IN.mono ?_); rintro e w1 ⟨rfl, hb1⟩; have M2 := M1.below hb1; have fb := blk_below hfb hb1; have k2 := LAST M2 fb))
      have WO3 := WO _ (M2.below (Below.refl _ _).drew)
      go_region_with (first
        | (go_at_call 60; (with_reducible refine WO3.mono ?_); rintro e w5 ⟨rfl, hb5⟩; have M5 := M2.below ((Below.refl _ w1).drew.trans hb5); have AD5 := AD _ M5)
        | (go_at_call 59; (with_reducible refine AD5.mono ?_); rintro e w6 ⟨lv6, rfl, M6, hb6⟩))
      all_goals go_end0
      all_goals exact ⟨nb, kv, lv6, ov, rfl, by rw [hfd.out]; exact M6, (((hbA.trans (hb1.mono M1.mlow)).trans ((Below.refl B w1).drew.trans (hb5.mono M2.mlow))).trans hb6)⟩
end Bk
end Go.Proofs.YtehmcahdjldhbaaGreatDoor
end
