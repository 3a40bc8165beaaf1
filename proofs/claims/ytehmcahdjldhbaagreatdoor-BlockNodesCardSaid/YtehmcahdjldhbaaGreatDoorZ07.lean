/- Parts of this session's proof, one behind the other: BRep M2 M1 M3 M4. -/
import Derived.Test.YtehmcahdjldhbaaGreatDoorZ01
import Derived.Test.YtehmcahdjldhbaaGreatDoorZ06
import Derived.Deep.AppendLies
import Derived.ArgAppend
import Derived.Lib.QuietBelow
import Derived.Deep.RegionWith
section
/- The machine's memory: each node of the arena in a block of its own, its kids and its lines in rows of their own; the machine in a block of its own, its open nodes in a row. What a store, an append, a new block leave of it. -/
open Go Go.RowKit
namespace Go.Proofs.YtehmcahdjldhbaaGreatDoor
namespace Bk
open Wk
def ptrV (o : Option Nat) : Value := .pointer (o.map fun b => ⟨b, 0, none⟩)
def strV (l : Bs) : Value := .string (mk l)
def natV (n : Nat) : Value := .int .i64 (n : Int)
def cells (nb : Nat → Nat) (kv lv : Value) (d : Nd) : Array Value :=
  #[natV d.kind, strV d.S, strV d.T, natV d.N, natV d.M, .bool d.flag, natV d.first, natV d.last, .slice none 0 0, ptrV (d.parent.map nb), kv, lv, .int .u8 (d.fc.toNat : Int), natV d.fn, natV d.fi, natV d.need, .bool d.setext]
def mcells (nb : Nat → Nat) (ov : Value) (mask : Int) (σ : St) : Array Value :=
  #[strV σ.s, natV σ.col, ov, ptrV (σ.leaf.map nb), natV σ.line, natV σ.met, .bool σ.began, .int .i64 mask]
def TN : Nat := 53
def TP : Nat := 48
def TS : Nat := 9
def TM : Nat := 58
def nodeP (nb : Nat → Nat) (j : Nat) : Value := ptrV (some (nb j))

structure Rep (B : Nat) (w : World) (nb : Nat → Nat) (kv lv : Nat → Value) (n : Nat) (A : Nat → Nd) : Prop where
  node : ∀ i, i < n → w.heap[nb i]? = some (.cells (cells nb (kv i) (lv i) (A i)) TN (0, 0))
  kids : ∀ i, i < n → w.ownsRow B TP 1 (kv i) (A i).kids.length ((A i).kids.map (nodeP nb))
  lines : ∀ i, i < n → w.ownsRow B TS 1 (lv i) (A i).lines.length ((A i).lines.map strV)
  base : ∀ i, i < n → B ≤ nb i
  inj : ∀ i j, i < n → j < n → nb i = nb j → i = j
  injk : ∀ i j k, i < n → j < n → (kv i).ownBlock = some k → (kv j).ownBlock = some k → i = j
  injl : ∀ i j k, i < n → j < n → (lv i).ownBlock = some k → (lv j).ownBlock = some k → i = j

/-- A row's first cells, and more behind them. -/
def Heads (w : World) (B : Nat) (v : Value) (xs : List Value) : Prop :=
  ∃ g cap cur, v = .slice (some ⟨g, 0, none⟩) xs.length cap ∧ B ≤ g ∧ w.heap[g]? = some (.cells cur TP (0, 0)) ∧ xs.length ≤ cap ∧ cap ≤ cur.size ∧ cur.toList.take xs.length = xs

/-- Below B lies what lay ahead of the call: the library's variables among it. -/
def Low (B : Nat) (w : World) : Prop := ∃ w0, Env w0 ∧ w0.heap.size ≤ B ∧ Below B w0 w
theorem Low.env {B : Nat} {w : World} (h : Low B w) : Env w := by
  obtain ⟨w0, h1, h2, h3⟩ := h
  exact h1.below (h3.mono h2)
theorem Low.trans {B : Nat} {w w' : World} (h : Low B w) (b : Below B w w') : Low B w' := by
  obtain ⟨w0, h1, h2, h3⟩ := h
  exact ⟨w0, h1, h2, h3.trans b⟩
structure MRep (B : Nat) (w : World) (mb : Nat) (mask : Int) (nb : Nat → Nat) (kv lv : Nat → Value) (ov : Value) (σ : St) : Prop where
  rep : Rep B w nb kv lv σ.n σ.nd
  mach : w.heap[mb]? = some (.cells (mcells nb ov mask σ) TM (0, 0))
  mbase : B ≤ mb
  opn : Heads w B ov (σ.opn.map (nodeP nb))
  onk : ∀ i k, i < σ.n → (kv i).ownBlock = some k → ov.ownBlock ≠ some k
  low : Low B w
  root : 0 < σ.n ∧ nb 0 + 2 = mb

theorem blk_lt {w : World} {g : Nat} {o : Obj} (h : w.heap[g]? = some o) : g < w.heap.size := (Array.getElem?_eq_some_iff.1 h).1
theorem blk_set {w : World} {g : Nat} {t : TypeId} {cs : Array Value} (h : w.heap[g]? = some (.cells cs t (0, 0))) (i : Nat) (u : Value) :
    (w.setCell ⟨g, i, none⟩ u).heap[g]? = some (.cells (cs.setIfInBounds i u) t (0, 0)) := by
  simp [World.setCell, Array.getElem?_modify, h]
theorem blk_far {w : World} {g : Nat} {o : Obj} (h : w.heap[g]? = some o) {p : Addr} (hp : g ≠ p.block) (u : Value) : (w.setCell p u).heap[g]? = some o := (Below.heap_setCell w p u g hp).trans h
theorem blk_below {w w1 : World} {g : Nat} {o : Obj} (h : w.heap[g]? = some o) (hb : Below w.heap.size w w1) : w1.heap[g]? = some o := (hb.block g (blk_lt h)).trans h
theorem blk_free {w : World} {g : Nat} {t : TypeId} {cs : Array Value} (h : w.heap[g]? = some (.cells cs t (0, 0))) (i : Nat) : w.frozen? ⟨g, i, none⟩ = false := by simp [World.frozen?, h]
theorem blk_ne {w : World} {g g' : Nat} {t t' : TypeId} {cs cs' : Array Value} {f f' : Nat × Nat} (h : w.heap[g]? = some (.cells cs t f)) (h' : w.heap[g']? = some (.cells cs' t' f')) (hne : t ≠ t') : g ≠ g' := by
  rintro rfl; rw [h] at h'; simp at h'; exact hne h'.2.1
theorem own_blk {w : World} {B e size n : Nat} {v : Value} {xs : List Value} (h : w.ownsRow B e size v n xs) {k : Nat} (hk : v.ownBlock = some k) : ∃ cur, w.heap[k]? = some (.cells cur e (0, 0)) := by
  rcases h.2 with ⟨rfl, _⟩ | ⟨g, cap, cur, rfl, _, hg, _⟩
  · cases hk
  · cases hk; exact ⟨cur, hg⟩
theorem own_below {w w1 : World} {B e size n : Nat} {v : Value} {xs : List Value} (h : w.ownsRow B e size v n xs) (hb : Below w.heap.size w w1) : w1.ownsRow B e size v n xs := by
  refine ⟨h.1, ?_⟩
  rcases h.2 with ⟨rfl, h0⟩ | ⟨g, cap, cur, rfl, hB, hg, r⟩
  · exact .inl ⟨rfl, h0⟩
  · exact .inr ⟨g, cap, cur, rfl, hB, blk_below hg hb, r⟩
theorem own_set {w : World} {B e size n : Nat} {v : Value} {xs : List Value} (h : w.ownsRow B e size v n xs) {p : Addr} (hne : v.ownBlock ≠ some p.block) (u : Value) : (w.setCell p u).ownsRow B e size v n xs := by
  refine ⟨h.1, ?_⟩
  rcases h.2 with ⟨rfl, h0⟩ | ⟨g, cap, cur, rfl, hB, hg, r⟩
  · exact .inl ⟨rfl, h0⟩
  · exact .inr ⟨g, cap, cur, rfl, hB, blk_far hg (by simpa [Value.ownBlock] using hne) u, r⟩
theorem own_set_type {w : World} {B e size n : Nat} {v : Value} {xs : List Value} (h : w.ownsRow B e size v n xs) {g t : Nat} {cs : Array Value} {f : Nat × Nat} (hg : w.heap[g]? = some (.cells cs t f)) (hne : e ≠ t) (o : Nat) (u : Value) :
    (w.setCell ⟨g, o, none⟩ u).ownsRow B e size v n xs := by
  refine own_set h ?_ u
  intro hk
  obtain ⟨cur, hc⟩ := own_blk h hk
  exact blk_ne hc hg hne rfl

namespace Heads
variable {w w1 : World} {B : Nat} {v : Value} {xs : List Value}
theorem below (h : Heads w B v xs) (hb : Below w.heap.size w w1) : Heads w1 B v xs := by
  obtain ⟨g, cap, cur, e, hB, hg, r⟩ := h
  exact ⟨g, cap, cur, e, hB, blk_below hg hb, r⟩
theorem far (h : Heads w B v xs) (hb : ∀ k, v.ownBlock = some k → w1.heap[k]? = w.heap[k]?) : Heads w1 B v xs := by
  obtain ⟨g, cap, cur, rfl, hB, hg, r⟩ := h
  exact ⟨g, cap, cur, rfl, hB, (hb g rfl).trans hg, r⟩
theorem set_type (h : Heads w B v xs) {g t : Nat} {cs : Array Value} {f : Nat × Nat} (hg : w.heap[g]? = some (.cells cs t f)) (hne : TP ≠ t) (o : Nat) (u : Value) : Heads (w.setCell ⟨g, o, none⟩ u) B v xs := by
  obtain ⟨g', cap, cur, e, hB, hg', r⟩ := h
  exact ⟨g', cap, cur, e, hB, blk_far hg' (blk_ne hg' hg hne) u, r⟩
theorem of_own (h : w.ownsRow B TP 1 v xs.length xs) (hx : xs ≠ []) : Heads w B v xs := by
  rcases h.2 with ⟨_, h0⟩ | ⟨g, cap, cur, rfl, hB, hg, h1, _, h3, h4⟩
  · exact absurd (List.eq_nil_of_length_eq_zero h0) hx
  · exact ⟨g, cap, cur, rfl, hB, hg, h1, by omega, by simpa using h4⟩
theorem blk (h : Heads w B v xs) : ∃ g cap cur, v = .slice (some ⟨g, 0, none⟩) xs.length cap ∧ w.heap[g]? = some (.cells cur TP (0, 0)) ∧ B ≤ g ∧ xs.length ≤ cap := by
  obtain ⟨g, cap, cur, e, hB, hg, h1, _⟩ := h
  exact ⟨g, cap, cur, e, hg, hB, h1⟩
theorem cell (h : Heads w B v xs) : ∃ g cap, v = .slice (some ⟨g, 0, none⟩) xs.length cap ∧ B ≤ g ∧ xs.length ≤ cap ∧ ∀ i u, xs[i]? = some u → w.cell? ⟨g, i, none⟩ = some u := by
  obtain ⟨g, cap, cur, e, hB, hg, h1, h2, h3⟩ := h
  refine ⟨g, cap, e, hB, h1, fun i u hu => ?_⟩
  rw [cell_blk hg]
  rw [← h3, List.getElem?_take] at hu
  split at hu
  · simpa using hu
  · cases hu
/-- 'open[:k:k]'. -/
theorem take (h : Heads w B v xs) {g n cap : Nat} (e : v = .slice (some ⟨g, 0, none⟩) n cap) (k : Nat) (hk : k ≤ xs.length) : Heads w B (.slice (some ⟨g, 0, none⟩) k k) (xs.take k) := by
  obtain ⟨g', cap', cur, rfl, hB, hg, h1, h2, h3⟩ := h
  cases e
  have hl : (xs.take k).length = k := by simp; omega
  refine ⟨g, k, cur, by rw [hl], hB, hg, by omega, by omega, ?_⟩
  rw [hl, ← h3, List.take_take, Nat.min_eq_left hk]
end Heads

namespace Rep
variable {B : Nat} {w w1 : World} {nb : Nat → Nat} {kv lv : Nat → Value} {n : Nat} {A : Nat → Nd}
theorem lt (h : Rep B w nb kv lv n A) {i : Nat} (hi : i < n) : nb i < w.heap.size := blk_lt (h.node i hi)
theorem below (h : Rep B w nb kv lv n A) (hb : Below w.heap.size w w1) : Rep B w1 nb kv lv n A :=
  { node := fun i hi => blk_below (h.node i hi) hb, kids := fun i hi => own_below (h.kids i hi) hb, lines := fun i hi => own_below (h.lines i hi) hb, base := h.base, inj := h.inj, injk := h.injk, injl := h.injl }
/-- A store into a block of another type. -/
theorem far (h : Rep B w nb kv lv n A) {g t : Nat} {cs : Array Value} {f : Nat × Nat} (hg : w.heap[g]? = some (.cells cs t f)) (h1 : TN ≠ t) (h2 : TP ≠ t) (h3 : TS ≠ t) (o : Nat) (u : Value) : Rep B (w.setCell ⟨g, o, none⟩ u) nb kv lv n A :=
  { node := fun i hi => blk_far (h.node i hi) (blk_ne (h.node i hi) hg h1) u, kids := fun i hi => own_set_type (h.kids i hi) hg h2 o u, lines := fun i hi => own_set_type (h.lines i hi) hg h3 o u,
    base := h.base, inj := h.inj, injk := h.injk, injl := h.injl }
/-- A store into a node's own cell. -/
theorem set (h : Rep B w nb kv lv n A) {i : Nat} (hi : i < n) (o : Nat) (u : Value) (f : Nd → Nd)
    (he : cells nb (kv i) (lv i) (f (A i)) = (cells nb (kv i) (lv i) (A i)).setIfInBounds o u) (hk : (f (A i)).kids = (A i).kids) (hl : (f (A i)).lines = (A i).lines) : Rep B (w.setCell ⟨nb i, o, none⟩ u) nb kv lv n (upd A i f) := by
  refine { node := fun j hj => ?_, kids := fun j hj => ?_, lines := fun j hj => ?_, base := h.base, inj := h.inj, injk := h.injk, injl := h.injl }
  · unfold upd
    split
    · rename_i e; subst e
      rw [he]; exact blk_set (h.node j hj) o u
    · rename_i e
      exact blk_far (h.node j hj) (fun e2 => e (h.inj j i hj hi e2)) u
  · have := own_set_type (h.kids j hj) (h.node i hi) (by decide) o u
    unfold upd
    split
    · rename_i e; subst e; rw [hk]; exact this
    · exact this
  · have := own_set_type (h.lines j hj) (h.node i hi) (by decide) o u
    unfold upd
    split
    · rename_i e; subst e; rw [hl]; exact this
    · exact this
/-- A new node. -/
theorem new (h : Rep B w nb kv lv n A) (hb : Below w.heap.size w w1) {b : Nat} {kv' lv' : Value} {d : Nd} (hB : B ≤ b)
    (hn : w1.heap[b]? = some (.cells (cells nb kv' lv' d) TN (0, 0))) (hk : w1.ownsRow B TP 1 kv' d.kids.length (d.kids.map (nodeP nb))) (hl : w1.ownsRow B TS 1 lv' d.lines.length (d.lines.map strV))
    (hp : ∀ p, d.parent = some p → p < n) (hkn : ∀ k ∈ d.kids, k < n) (hpn : ∀ i, i < n → (∀ p, (A i).parent = some p → p < n) ∧ ∀ k ∈ (A i).kids, k < n)
    (h1 : w.heap.size ≤ b) (h2 : ∀ k, kv'.ownBlock = some k → w.heap.size ≤ k) (h3 : ∀ k, lv'.ownBlock = some k → w.heap.size ≤ k) :
    Rep B w1 (fun i => if i = n then b else nb i) (fun i => if i = n then kv' else kv i) (fun i => if i = n then lv' else lv i) (n + 1) (fun i => if i = n then d else A i) := by
  have c1 : ∀ (l : List Nat), (∀ k ∈ l, k < n) → l.map (nodeP fun i => if i = n then b else nb i) = l.map (nodeP nb) := fun l hl => List.map_congr_left fun k hk => by have := hl k hk; simp [nodeP, Nat.ne_of_lt this]
  have c2 : ∀ (o : Option Nat), (∀ p, o = some p → p < n) → o.map (fun i => if i = n then b else nb i) = o.map nb := fun o ho => by cases o with | none => rfl | some p => simp [Nat.ne_of_lt (ho p rfl)]
  have h' := h.below hb
  refine { node := fun j hj => ?_, kids := fun j hj => ?_, lines := fun j hj => ?_, base := fun j hj => ?_, inj := fun i j hi hj e => ?_, injk := fun i j k hi hj e1 e2 => ?_, injl := fun i j k hi hj e1 e2 => ?_ }
  · try dsimp only
    by_cases e : j = n
    · rw [if_pos e, if_pos e, if_pos e, if_pos e, hn]
      unfold cells; rw [c2 _ hp]
    · rw [if_neg e, if_neg e, if_neg e, if_neg e, h'.node j (by omega)]
      unfold cells; rw [c2 _ (hpn j (by omega)).1]
  · try dsimp only
    by_cases e : j = n
    · rw [if_pos e, if_pos e, c1 _ hkn]; exact hk
    · rw [if_neg e, if_neg e, c1 _ (hpn j (by omega)).2]; exact h'.kids j (by omega)
  · try dsimp only
    by_cases e : j = n
    · rw [if_pos e, if_pos e]; exact hl
    · rw [if_neg e, if_neg e]; exact h'.lines j (by omega)
  · try dsimp only
    split
    · exact hB
    · exact h.base j (by omega)
  · try dsimp only at e
    split at e <;> split at e
    · omega
    · have := h.lt (i := j) (by omega); omega
    · have := h.lt (i := i) (by omega); omega
    · exact h.inj i j (by omega) (by omega) e
  · try dsimp only at e1 e2
    split at e1 <;> split at e2
    · omega
    · have a1 := h2 _ e1; have a2 := ((h.kids j (by omega)).lt _ e2).2; omega
    · have a1 := h2 _ e2; have a2 := ((h.kids i (by omega)).lt _ e1).2; omega
    · exact h.injk i j k (by omega) (by omega) e1 e2
  · try dsimp only at e1 e2
    split at e1 <;> split at e2
    · omega
    · have a1 := h3 _ e1; have a2 := ((h.lines j (by omega)).lt _ e2).2; omega
    · have a1 := h3 _ e2; have a2 := ((h.lines i (by omega)).lt _ e1).2; omega
    · exact h.injl i j k (by omega) (by omega) e1 e2
/-- An append onto a node's kids, and the store of what came of it. -/
theorem kid (h : Rep B w nb kv lv n A) {i j : Nat} (hi : i < n) {v : Value} (hg : w.grownBy w1 (kv i).ownBlock)
    (hv : w1.ownsRow B TP 1 v ((A i).kids.length + 1) ((A i).kids.map (nodeP nb) ++ [nodeP nb j])) (hat : v.ownBlock = (kv i).ownBlock ∨ ∃ b, v.ownBlock = some b ∧ w.heap.size ≤ b) :
    Rep B (w1.setCell ⟨nb i, 10, none⟩ v) nb (fun x => if x = i then v else kv x) lv n (upd A i fun d => { d with kids := d.kids ++ [j] }) := by
  have nk : ∀ x, x < n → some (nb x) ≠ (kv i).ownBlock := fun x hx e => by
    obtain ⟨cur, hc⟩ := own_blk (h.kids i hi) e.symm
    exact blk_ne (h.node x hx) hc (by decide) rfl
  have hn : ∀ x, x < n → w1.heap[nb x]? = some (.cells (cells nb (kv x) (lv x) (A x)) TN (0, 0)) := fun x hx => (hg.block _ (h.lt hx) (nk x hx)).trans (h.node x hx)
  have hl : ∀ x, x < n → w1.ownsRow B TS 1 (lv x) (A x).lines.length ((A x).lines.map strV) := fun x hx => (h.lines x hx).kept hg (by
    cases e : (lv x).ownBlock with
    | none => exact .inl rfl
    | some k => refine .inr fun e2 => ?_
                obtain ⟨c1, h1⟩ := own_blk (h.lines x hx) e
                obtain ⟨c2, h2⟩ := own_blk (h.kids i hi) e2.symm
                exact blk_ne h1 h2 (by decide) rfl)
  refine { node := fun x hx => ?_, kids := fun x hx => ?_, lines := fun x hx => ?_, base := h.base, inj := h.inj, injk := fun x y k hx hy e1 e2 => ?_, injl := h.injl }
  · unfold upd
    try dsimp only
    split
    · rename_i e; subst e
      exact blk_set (hn x hx) 10 v
    · rename_i e
      exact blk_far (hn x hx) (fun e2 => e (h.inj x i hx hi e2)) v
  · unfold upd
    try dsimp only
    split
    · rename_i e; subst e
      have := own_set_type hv (hn x hx) (by decide) 10 v
      simpa using this
    · rename_i e
      refine own_set_type ((h.kids x hx).kept hg ?_) (hn i hi) (by decide) 10 v
      cases e1 : (kv x).ownBlock with
      | none => exact .inl rfl
      | some k => exact .inr fun e2 => e (h.injk x i k hx hi e1 e2.symm)
  · have := own_set_type (hl x hx) (hn i hi) (by decide) 10 v
    unfold upd
    split
    · rename_i e; subst e; exact this
    · exact this
  · try dsimp only at e1 e2
    have far : ∀ y, y < n → y ≠ i → v.ownBlock = some k → (kv y).ownBlock = some k → False := fun y hy hne e1 e2 => by
      rcases hat with a | ⟨b, a, hb⟩
      · exact hne (h.injk y i k hy hi e2 (a ▸ e1))
      · rw [a] at e1; cases e1
        have := ((h.kids y hy).lt _ e2).2; omega
    split at e1 <;> split at e2
    · omega
    · rename_i _ ey; exact absurd (far y hy ey e1 e2) id
    · rename_i ex _; exact absurd (far x hx ex e2 e1) id
    · exact h.injk x y k hx hy e1 e2
/-- An append onto a node's lines, and the store of what came of it. -/
theorem lineOn (h : Rep B w nb kv lv n A) {i : Nat} {s : Bs} (hi : i < n) {v : Value} (hg : w.grownBy w1 (lv i).ownBlock)
    (hv : w1.ownsRow B TS 1 v ((A i).lines.length + 1) ((A i).lines.map strV ++ [strV s])) (hat : v.ownBlock = (lv i).ownBlock ∨ ∃ b, v.ownBlock = some b ∧ w.heap.size ≤ b) :
    Rep B (w1.setCell ⟨nb i, 11, none⟩ v) nb kv (fun x => if x = i then v else lv x) n (upd A i fun d => { d with lines := d.lines ++ [s] }) := by
  have nk : ∀ x, x < n → some (nb x) ≠ (lv i).ownBlock := fun x hx e => by
    obtain ⟨cur, hc⟩ := own_blk (h.lines i hi) e.symm
    exact blk_ne (h.node x hx) hc (by decide) rfl
  have hn : ∀ x, x < n → w1.heap[nb x]? = some (.cells (cells nb (kv x) (lv x) (A x)) TN (0, 0)) := fun x hx => (hg.block _ (h.lt hx) (nk x hx)).trans (h.node x hx)
  have hl : ∀ x, x < n → w1.ownsRow B TP 1 (kv x) (A x).kids.length ((A x).kids.map (nodeP nb)) := fun x hx => (h.kids x hx).kept hg (by
    cases e : (kv x).ownBlock with
    | none => exact .inl rfl
    | some k => refine .inr fun e2 => ?_
                obtain ⟨c1, h1⟩ := own_blk (h.kids x hx) e
                obtain ⟨c2, h2⟩ := own_blk (h.lines i hi) e2.symm
                exact blk_ne h1 h2 (by decide) rfl)
  refine { node := fun x hx => ?_, kids := fun x hx => ?_, lines := fun x hx => ?_, base := h.base, inj := h.inj, injk := h.injk, injl := fun x y k hx hy e1 e2 => ?_ }
  · unfold upd
    try dsimp only
    split
    · rename_i e; subst e
      exact blk_set (hn x hx) 11 v
    · rename_i e
      exact blk_far (hn x hx) (fun e2 => e (h.inj x i hx hi e2)) v
  · have := own_set_type (hl x hx) (hn i hi) (by decide) 11 v
    unfold upd
    split
    · rename_i e; subst e; exact this
    · exact this
  · unfold upd
    try dsimp only
    split
    · rename_i e; subst e
      have := own_set_type hv (hn x hx) (by decide) 11 v
      simpa using this
    · rename_i e
      refine own_set_type ((h.lines x hx).kept hg ?_) (hn i hi) (by decide) 11 v
      cases e1 : (lv x).ownBlock with
      | none => exact .inl rfl
      | some k => exact .inr fun e2 => e (h.injl x i k hx hi e1 e2.symm)
  · try dsimp only at e1 e2
    have far : ∀ y, y < n → y ≠ i → v.ownBlock = some k → (lv y).ownBlock = some k → False := fun y hy hne e1 e2 => by
      rcases hat with a | ⟨b, a, hb⟩
      · exact hne (h.injl y i k hy hi e2 (a ▸ e1))
      · rw [a] at e1; cases e1
        have := ((h.lines y hy).lt _ e2).2; omega
    split at e1 <;> split at e2
    · omega
    · rename_i _ ey; exact absurd (far y hy ey e1 e2) id
    · rename_i ex _; exact absurd (far x hx ex e2 e1) id
    · exact h.injl x y k hx hy e1 e2
end Rep

namespace MRep
variable {B : Nat} {w w1 : World} {mb : Nat} {mask : Int} {nb : Nat → Nat} {kv lv : Nat → Value} {ov : Value} {σ : St}
theorem mlt (h : MRep B w mb mask nb kv lv ov σ) : mb < w.heap.size := blk_lt h.mach
theorem below (h : MRep B w mb mask nb kv lv ov σ) (hb : Below w.heap.size w w1) : MRep B w1 mb mask nb kv lv ov σ :=
  { rep := h.rep.below hb, mach := blk_below h.mach hb, mbase := h.mbase, opn := h.opn.below hb, onk := h.onk, low := h.low.trans (hb.mono (by have := h.mlt; have := h.mbase; omega)), root := h.root }
theorem ne (h : MRep B w mb mask nb kv lv ov σ) {i : Nat} (hi : i < σ.n) : nb i ≠ mb := blk_ne (h.rep.node i hi) h.mach (by decide)
/-- A store into the machine. -/
theorem mset (h : MRep B w mb mask nb kv lv ov σ) (o : Nat) (u : Value) (τ : St) (he : mcells nb ov mask τ = (mcells nb ov mask σ).setIfInBounds o u) (hn : τ.n = σ.n) (hA : τ.nd = σ.nd) (ho : τ.opn = σ.opn) :
    MRep B (w.setCell ⟨mb, o, none⟩ u) mb mask nb kv lv ov τ :=
  { rep := by rw [hn, hA]; exact h.rep.far h.mach (by decide) (by decide) (by decide) o u,
    mach := by rw [he]; exact blk_set h.mach o u,
    mbase := h.mbase,
    opn := by rw [ho]; exact h.opn.set_type h.mach (by decide) o u,
    onk := by rw [hn]; exact h.onk,
    root := by rw [hn]; exact h.root,
    low := h.low.trans ((Below.refl _ _).setCell h.mbase u) }
/-- A store into a node. -/
theorem nset (h : MRep B w mb mask nb kv lv ov σ) {i : Nat} (hi : i < σ.n) (o : Nat) (u : Value) (f : Nd → Nd)
    (he : cells nb (kv i) (lv i) (f (σ.nd i)) = (cells nb (kv i) (lv i) (σ.nd i)).setIfInBounds o u) (hk : (f (σ.nd i)).kids = (σ.nd i).kids) (hl : (f (σ.nd i)).lines = (σ.nd i).lines) :
    MRep B (w.setCell ⟨nb i, o, none⟩ u) mb mask nb kv lv ov (σ.put i f) :=
  { rep := h.rep.set hi o u f he hk hl,
    mach := blk_far h.mach (fun e => h.ne hi e.symm) u,
    mbase := h.mbase,
    opn := h.opn.set_type (h.rep.node i hi) (by decide) o u,
    onk := h.onk,
    root := h.root,
    low := h.low.trans ((Below.refl _ _).setCell (h.rep.base i hi) u) }
end MRep
end Bk
end Go.Proofs.YtehmcahdjldhbaaGreatDoor
end
section
/- Package block: what the machine asks of itself (all, goes, last, plain). -/
open Go Go.RowKit
set_option linter.unusedVariables false
set_option linter.unusedSimpArgs false
set_option maxRecDepth 100000
namespace Go.Proofs.YtehmcahdjldhbaaGreatDoor
open Wk
namespace Bk
namespace MRep
variable {B : Nat} {w w1 : World} {mb : Nat} {mask : Int} {nb : Nat → Nat} {kv lv : Nat → Value} {ov : Value} {σ : St}
theorem c0 (h : MRep B w mb mask nb kv lv ov σ) : w.cell? ⟨mb, 0, none⟩ = some (.string (Go.Proofs.YtehmcahdjldhbaaGreatDoor.mk σ.s)) := (cell_blk h.mach 0).trans rfl
theorem c1 (h : MRep B w mb mask nb kv lv ov σ) : w.cell? ⟨mb, 1, none⟩ = some (.int .i64 σ.col) := (cell_blk h.mach 1).trans rfl
theorem c2 (h : MRep B w mb mask nb kv lv ov σ) : w.cell? ⟨mb, 2, none⟩ = some ov := (cell_blk h.mach 2).trans rfl
theorem c3 (h : MRep B w mb mask nb kv lv ov σ) : w.cell? ⟨mb, 3, none⟩ = some (ptrV (σ.leaf.map nb)) := (cell_blk h.mach 3).trans rfl
theorem c3_none (h : MRep B w mb mask nb kv lv ov σ) (hl : σ.leaf = none) : w.cell? ⟨mb, 3, none⟩ = some (.pointer none) := by rw [h.c3, hl]; rfl
theorem c3_some (h : MRep B w mb mask nb kv lv ov σ) {i : Nat} (hl : σ.leaf = some i) : w.cell? ⟨mb, 3, none⟩ = some (.pointer (some ⟨nb i, 0, none⟩)) := by rw [h.c3, hl]; rfl
theorem c4 (h : MRep B w mb mask nb kv lv ov σ) : w.cell? ⟨mb, 4, none⟩ = some (.int .i64 σ.line) := (cell_blk h.mach 4).trans rfl
theorem c5 (h : MRep B w mb mask nb kv lv ov σ) : w.cell? ⟨mb, 5, none⟩ = some (.int .i64 σ.met) := (cell_blk h.mach 5).trans rfl
theorem c6 (h : MRep B w mb mask nb kv lv ov σ) : w.cell? ⟨mb, 6, none⟩ = some (.bool σ.began) := (cell_blk h.mach 6).trans rfl
theorem c7 (h : MRep B w mb mask nb kv lv ov σ) : w.cell? ⟨mb, 7, none⟩ = some (.int .i64 mask) := (cell_blk h.mach 7).trans rfl
theorem free (h : MRep B w mb mask nb kv lv ov σ) (o : Nat) : w.frozen? ⟨mb, o, none⟩ = false := blk_free h.mach o
theorem nfree (h : MRep B w mb mask nb kv lv ov σ) {i : Nat} (hi : i < σ.n) (o : Nat) : w.frozen? ⟨nb i, o, none⟩ = false := blk_free (h.rep.node i hi) o
theorem ncell (h : MRep B w mb mask nb kv lv ov σ) {i : Nat} (hi : i < σ.n) (o : Nat) : w.cell? ⟨nb i, o, none⟩ = (cells nb (kv i) (lv i) (σ.nd i))[o]? := cell_blk (h.rep.node i hi) o
theorem nkind (h : MRep B w mb mask nb kv lv ov σ) {i : Nat} (hi : i < σ.n) : w.cell? ⟨nb i, 0, none⟩ = some (.int .i64 (σ.nd i).kind) := (h.ncell hi 0).trans rfl
/-- The open nodes: their number, and where they are. -/
theorem ov_form (h : MRep B w mb mask nb kv lv ov σ) : ∃ g cap, ov = .slice (some ⟨g, 0, none⟩) σ.opn.length cap ∧ B ≤ g ∧ σ.opn.length ≤ cap ∧ ∀ k i, σ.opn[k]? = some i → w.cell? ⟨g, k, none⟩ = some (.pointer (some ⟨nb i, 0, none⟩)) := by
  obtain ⟨g, cap, e, hB, hle, hc⟩ := h.opn.cell
  rw [List.length_map] at e hle
  refine ⟨g, cap, e, hB, hle, fun k i hk => hc k _ ?_⟩
  rw [List.getElem?_map, hk]; rfl
end MRep

theorem all_any {B : Nat} {w : World} {mb : Nat} {mask : Int} {nb : Nat → Nat} {kv lv : Nat → Value} {ov : Value} {σ : St} (h : MRep B w mb mask nb kv lv ov σ) :
    Calls Tryz.prog 48 #[.pointer (some ⟨mb, 0, none⟩)] w fun e w' => e = .returned (.bool σ.all) ∧ Below w.heap.size w w' := by
  obtain ⟨g, cap, rfl, _, hle, _⟩ := h.ov_form
  have c2 := h.c2
  have c5 := h.c5
  have hall : Hid (((σ.met : Int) == (σ.opn.length : Int)) = σ.all) := by
    apply Lib.hid
    unfold St.all
    rw [Bool.eq_iff_iff, beq_iff_eq, beq_iff_eq]; omega
  go_enter Tryz.func48, Tryz.ntmps48
  go_wp2
  go_quiet (fail)
  go_wp2
  go_ret
  exact ⟨ret_bool hall.out, drewN_below _ _⟩

theorem last_any {B : Nat} {w : World} {mb : Nat} {mask : Int} {nb : Nat → Nat} {kv lv : Nat → Value} {ov : Value} {σ : St} (h : MRep B w mb mask nb kv lv ov σ) (h1 : 1 ≤ σ.met) (h2 : σ.met ≤ σ.opn.length) (hb : σ.opn.length ≤ 1000000000000) :
    Calls Tryz.prog 86 #[.pointer (some ⟨mb, 0, none⟩)] w fun e w' => e = .returned (.pointer (some ⟨nb σ.last, 0, none⟩)) ∧ Below w.heap.size w w' := by
  obtain ⟨g, cap, rfl, _, hle, hc⟩ := h.ov_form
  have c2 := h.c2
  have c5 := h.c5
  have hcell : w.cell? ⟨g, σ.met - 1, none⟩ = some (.pointer (some ⟨nb σ.last, 0, none⟩)) := by
    refine hc _ _ ?_
    unfold St.last
    rw [List.getD_eq_getElem?_getD, List.getElem?_eq_getElem (by omega)]; rfl
  obtain ⟨m, hm⟩ : ∃ m, σ.met = m + 1 := ⟨σ.met - 1, by omega⟩
  rw [hm] at c5 hcell h2
  have hm2 : m < σ.opn.length := by omega
  rw [Nat.add_sub_cancel] at hcell
  clear hc hm
  go_enter Tryz.func86, Tryz.ntmps86
  go_wp2
  go_quiet (fail)
  go_wp2
  go_ret
  exact ⟨rfl, drewN_below _ _⟩

theorem goes_any {B : Nat} {w : World} {mb : Nat} {mask : Int} {nb : Nat → Nat} {kv lv : Nat → Value} {ov : Value} {σ : St} (h : MRep B w mb mask nb kv lv ov σ) (hl : ∀ i, σ.leaf = some i → i < σ.n) :
    Calls Tryz.prog 52 #[.pointer (some ⟨mb, 0, none⟩)] w fun e w' => e = .returned (.bool σ.goes) ∧ Below w.heap.size w w' := by
  have c6 := h.c6
  cases hleaf : σ.leaf with
  | none =>
    have c3 := h.c3_none hleaf
    have hg : σ.goes = false := by unfold St.goes; rw [hleaf]; rfl
    rw [hg]
    go_enter Tryz.func52, Tryz.ntmps52
    go_wp2
    go_ret
    exact ⟨rfl, Below.refl _ _⟩
  | some i =>
    have c3 := h.c3_some hleaf
    have ck := h.nkind (hl i hleaf)
    by_cases hk : (σ.nd i).kind = 7
    · have hg : σ.goes = !σ.began := by unfold St.goes St.leafKind; rw [hleaf]; simp [hk]
      rw [hk] at ck
      rw [hg]
      go_enter Tryz.func52, Tryz.ntmps52
      go_wp2
      go_ret
      exact ⟨rfl, Below.refl _ _⟩
    · have hg : σ.goes = false := by unfold St.goes St.leafKind; rw [hleaf]; simp [hk]
      have hk1 : (((σ.nd i).kind : Int) == 7) = false := by rw [beq_eq_false_iff_ne]; omega
      rw [hg]
      go_enter Tryz.func52, Tryz.ntmps52
      go_wp2
      go_ret
      exact ⟨rfl, Below.refl _ _⟩
end Bk
end Go.Proofs.YtehmcahdjldhbaaGreatDoor
end
section
/- Package block: the cursor's methods. -/
open Go Go.RowKit
set_option linter.unusedVariables false
set_option linter.unusedSimpArgs false
set_option maxRecDepth 100000
namespace Go.Proofs.YtehmcahdjldhbaaGreatDoor
open Wk
namespace Bk
theorem cursorSkip_any (mb : Nat) (s : Bs) (c n : Nat) (w : World) (cs : Array Value) (T : Nat) (h : w.heap[mb]? = some (.cells cs T (0, 0))) (h0 : cs[0]? = some (strV s)) (h1 : cs[1]? = some (natV c)) (hs : s.length ≤ 4000000000) (hc : c ≤ 1073741824) (hn : n ≤ 100000000000) :
    Calls Tryz.prog 74 #[.pointer (some ⟨mb, 0, none⟩), .int .i64 n] w fun e w' => e = .returned (.tuple #[]) ∧
      w'.heap[mb]? = some (.cells ((cs.setIfInBounds 0 (strV (skip s c n).1)).setIfInBounds 1 (natV (skip s c n).2)) T (0, 0)) ∧ But mb w w' := by
  have c0 : w.cell? ⟨mb, 0, none⟩ = some (.string (mk s)) := (cell_blk h 0).trans h0
  have c1 : w.cell? ⟨mb, 1, none⟩ = some (.int .i64 c) := (cell_blk h 1).trans h1
  have f0 := blk_free h 0
  have f1 := blk_free h 1
  have SK := fun w => Skip_any (mk s) c n w (by rw [mk_size]; exact hs) hc hn
  rw [mk_data] at SK
  go_enter Tryz.func74, Tryz.ntmps74
  go_wp2
  go_region_with ((go_at_call 87; (with_reducible refine (SK _).mono ?_); rintro e w1 ⟨rfl, hb⟩; replace hb : Below w.heap.size w w1 := ⟨hb.os, hb.tape, hb.output, hb.size, hb.block⟩; have d0 := (hb.cell (p := ⟨mb, 0, none⟩) (blk_lt h)).trans c0; have d1 := (hb.cell (p := ⟨mb, 1, none⟩) (blk_lt h)).trans c1; have g0 := (hb.frozen (p := ⟨mb, 0, none⟩) (blk_lt h)).trans f0; have g1 := (hb.frozen (p := ⟨mb, 1, none⟩) (blk_lt h)).trans f1))
  all_goals (go_end0; exact ⟨rfl, blk_set (blk_set (blk_below h hb) 0 _) 1 _, (((But.of_below hb)).set 0 _).set 1 _⟩)

theorem cursorBlank_any (mb : Nat) (s : Bs) (w : World) (cs : Array Value) (T : Nat) (h : w.heap[mb]? = some (.cells cs T (0, 0))) (h0 : cs[0]? = some (strV s)) (hs : s.length ≤ 4000000000) :
    Calls Tryz.prog 46 #[.pointer (some ⟨mb, 0, none⟩)] w fun e w' => e = .returned (.bool (Sc.blanks s)) ∧ Below w.heap.size w w' := by
  have c0 : w.cell? ⟨mb, 0, none⟩ = some (.string (mk s)) := (cell_blk h 0).trans h0
  have SK := fun w => Blank_any (mk s) w (by unfold Small; rw [mk_size]; exact hs)
  rw [mk_data] at SK
  go_enter Tryz.func46, Tryz.ntmps46
  go_wp2_with (go_at_call 65; (with_reducible refine (SK _).mono ?_); rintro e w1 ⟨rfl, hb⟩)
  go_ret
  exact ⟨rfl, hb⟩

theorem cursorIndent_any (mb : Nat) (s : Bs) (c : Nat) (w : World) (cs : Array Value) (T : Nat) (h : w.heap[mb]? = some (.cells cs T (0, 0))) (h0 : cs[0]? = some (strV s)) (h1 : cs[1]? = some (natV c)) (hs : s.length ≤ 4000000000) (hc : c ≤ 1073741824) :
    Calls Tryz.prog 51 #[.pointer (some ⟨mb, 0, none⟩)] w fun e w' => e = .returned (.tuple #[.int .i64 (indW s c), .string (mk (s.drop (indK s)))]) ∧ Below w.heap.size w w' := by
  have c0 : w.cell? ⟨mb, 0, none⟩ = some (.string (mk s)) := (cell_blk h 0).trans h0
  have c1 : w.cell? ⟨mb, 1, none⟩ = some (.int .i64 c) := (cell_blk h 1).trans h1
  have SK := fun w => indent_any (mk s) c w (by rw [mk_size]; exact hs) hc
  rw [mk_data] at SK
  have hk := indK_le s
  have hW : Hid (mk (s.drop (indK s)) = (mk s).extract (indK s) (mk s).size) := by apply Lib.hid; rw [mk_extract, mk_data]
  have hz := mk_size s
  generalize indK s = K at *
  generalize indW s c = W at *
  have cQ : ∀ d os, Calls Tryz.prog 77 #[.string (mk s), .int .i64 c] (Go.Sort.grow (redrawn w d) os) fun e w'' => e = .returned (.tuple #[.int .i64 W, .int .i64 K]) ∧ ∃ p : Regrown, w'' = Go.Sort.grow (redrawn w p.d) p.os := fun d os => Calls.regrown_of (SK _)
  have c0' := fun d os => cell_regrown c0 d os
  have c1' := fun d os => cell_regrown c1 d os
  go_enter Tryz.func51, Tryz.ntmps51
  go_wp2
  refine wp_region_quiet_below (by kernel_rfl) (by kernel_rfl) ?_
  repeat (first | go_big_quiet_step ((first | exact cQ _ _)) | quiet_step ((first | exact cQ _ _)))
  refine wpQuiet_nil ?_
  intro _ hw'
  obtain ⟨⟨dq, osq⟩, hw''⟩ := hw'
  subst hw''
  have d0 := c0' dq osq
  clear c0' c1' cQ
  have hb := below_regrown w dq osq
  generalize Go.Sort.grow (redrawn w dq) osq = w1 at *
  go_wp2
  go_quiet (fail)
  go_wp2
  go_ret2
  exact ⟨by rw [hW.out]; rfl, bdn hb _⟩

theorem cursorWithout_any (mb : Nat) (s : Bs) (c n : Nat) (w : World) (cs : Array Value) (T : Nat) (h : w.heap[mb]? = some (.cells cs T (0, 0))) (h0 : cs[0]? = some (strV s)) (h1 : cs[1]? = some (natV c)) (hs : s.length ≤ 4000000000) (hc : c ≤ 1073741824) (hn : n ≤ 100000000000) :
    Calls Tryz.prog 60 #[.pointer (some ⟨mb, 0, none⟩), .int .i64 n] w fun e w' => e = .returned (.string (mk (skip s c n).1)) ∧ Below w.heap.size w w' := by
  have c0 : w.cell? ⟨mb, 0, none⟩ = some (.string (mk s)) := (cell_blk h 0).trans h0
  have c1 : w.cell? ⟨mb, 1, none⟩ = some (.int .i64 c) := (cell_blk h 1).trans h1
  have SK := fun w => Skip_any (mk s) c n w (by rw [mk_size]; exact hs) hc hn
  rw [mk_data] at SK
  generalize (skip s c n).1 = S1 at *
  generalize (skip s c n).2 = S2 at *
  have cQ : ∀ d os, Calls Tryz.prog 87 #[.string (mk s), .int .i64 c, .int .i64 n] (Go.Sort.grow (redrawn w d) os) fun e w'' => e = .returned (.tuple #[.string (mk S1), .int .i64 S2]) ∧ ∃ p : Regrown, w'' = Go.Sort.grow (redrawn w p.d) p.os := fun d os => Calls.regrown_of (SK _)
  have c0' := fun d os => cell_regrown c0 d os
  have c1' := fun d os => cell_regrown c1 d os
  go_enter Tryz.func60, Tryz.ntmps60
  go_wp2
  refine wp_region_quiet_below (by kernel_rfl) (by kernel_rfl) ?_
  repeat (first | go_big_quiet_step ((first | exact cQ _ _)) | quiet_step ((first | exact cQ _ _)))
  refine wpQuiet_nil ?_
  intro _ hw'
  obtain ⟨⟨dq, osq⟩, hw''⟩ := hw'
  subst hw''
  clear c0' c1' cQ
  have hb := below_regrown w dq osq
  generalize Go.Sort.grow (redrawn w dq) osq = w1 at *
  go_wp2
  go_ret
  exact ⟨rfl, hb⟩

theorem cursorPast_any (mb : Nat) (s : Bs) (c m : Nat) (w : World) (cs : Array Value) (T : Nat) (h : w.heap[mb]? = some (.cells cs T (0, 0))) (h0 : cs[0]? = some (strV s)) (h1 : cs[1]? = some (natV c)) (hs : s.length ≤ 4000000000) (hc : c ≤ 1073741824) (hm : m ≤ (s.drop (indK s)).length) :
    Calls Tryz.prog 73 #[.pointer (some ⟨mb, 0, none⟩), .int .i64 m] w fun e w' => e = .returned (.tuple #[]) ∧
      w'.heap[mb]? = some (.cells ((cs.setIfInBounds 0 (strV ((s.drop (indK s)).drop m))).setIfInBounds 1 (natV (c + indW s c + m))) T (0, 0)) ∧ But mb w w' := by
  have SK := fun w h => cursorIndent_any mb s c w cs T h h0 h1 hs hc
  have hW := indW_le s c
  have hz := mk_size (s.drop (indK s))
  have hR : Hid ((mk (s.drop (indK s))).extract m (mk (s.drop (indK s))).size = mk ((s.drop (indK s)).drop m)) := by apply Lib.hid; rw [mk_extract, mk_data]
  have hl : (s.drop (indK s)).length ≤ s.length := by simp
  generalize s.drop (indK s) = R at *
  generalize indW s c = W at *
  have hwr : wrap64 ((c : Int) + (W : Int) + (m : Int)) = ((c + W + m : Nat) : Int) := by unfold wrap64; omega
  rw [hz] at hR
  go_enter Tryz.func73, Tryz.ntmps73
  go_wp2_with (go_at_call 51; (with_reducible refine (SK _ h).mono ?_); rintro e w1 ⟨rfl, hb⟩; have hh := blk_below h hb; have c1 : w1.cell? ⟨mb, 1, none⟩ = some (.int .i64 c) := (cell_blk hh 1).trans h1; have c0 : w1.cell? ⟨mb, 0, none⟩ = some (.string (mk s)) := (cell_blk hh 0).trans h0; have f0 := blk_free hh 0; have f1 := blk_free hh 1)
  have HW := Lib.hid hwr
  clear hwr
  go_region
  all_goals (try go_wp2)
  all_goals go_end0
  all_goals refine ⟨rfl, ?_, ((((But.of_below hb)).set 0 _).set 1 _).drew⟩
  all_goals (have e : (c : Int) + (W : Int) + (m : Int) = ((c + W + m : Nat) : Int) := by omega)
  all_goals (rw [hR.out, e]; exact blk_set (blk_set hh 0 (strV (R.drop m))) 1 (natV (c + W + m)))
end Bk
end Go.Proofs.YtehmcahdjldhbaaGreatDoor
end
section
/- Package block: plain, quoted, deep, touch, meet. -/
open Go Go.RowKit
set_option linter.unusedVariables false
set_option linter.unusedSimpArgs false
set_option maxRecDepth 100000
namespace Go.Proofs.YtehmcahdjldhbaaGreatDoor
open Wk
namespace Bk
theorem plain_any {B : Nat} {w : World} {mb : Nat} {mask : Int} {nb : Nat → Nat} {kv lv : Nat → Value} {ov : Value} {σ : St} (h : MRep B w mb mask nb kv lv ov σ) (hl : ∀ i, σ.leaf = some i → i < σ.n) :
    Calls Tryz.prog 58 #[.pointer (some ⟨mb, 0, none⟩)] w fun e w' => e = .returned (.bool σ.plain) ∧ Below w.heap.size w w' := by
  have AL := all_any h
  cases ha : σ.all with
  | false =>
    have hp : σ.plain = false := by unfold St.plain; rw [ha]; rfl
    rw [hp]; rw [ha] at AL
    go_enter Tryz.func58, Tryz.ntmps58
    go_wp2_with (go_at_call 48; (with_reducible refine AL.mono ?_); rintro e w1 ⟨rfl, hb⟩)
    go_ret
    exact ⟨rfl, hb⟩
  | true =>
    rw [ha] at AL
    cases hbg : σ.began with
    | true =>
      have hp : σ.plain = false := by unfold St.plain; rw [ha, hbg]; rfl
      rw [hp]
      go_enter Tryz.func58, Tryz.ntmps58
      go_wp2_with (go_at_call 48; (with_reducible refine AL.mono ?_); rintro e w1 ⟨rfl, hb⟩; have c6 := (h.below hb).c6; rw [hbg] at c6)
      go_ret
      exact ⟨rfl, hb⟩
    | false =>
      cases hleaf : σ.leaf with
      | none =>
        have hp : σ.plain = false := by unfold St.plain; rw [hleaf]; simp
        rw [hp]
        go_enter Tryz.func58, Tryz.ntmps58
        go_wp2_with (go_at_call 48; (with_reducible refine AL.mono ?_); rintro e w1 ⟨rfl, hb⟩; have c6 := (h.below hb).c6; rw [hbg] at c6; have c3 := (h.below hb).c3_none hleaf)
        go_ret
        exact ⟨rfl, hb⟩
      | some i =>
        by_cases hk : (σ.nd i).kind = 5
        · have hp : σ.plain = true := by unfold St.plain St.leafKind; rw [hleaf, ha, hbg]; simp [hk]
          rw [hp]
          go_enter Tryz.func58, Tryz.ntmps58
          go_wp2_with (go_at_call 48; (with_reducible refine AL.mono ?_); rintro e w1 ⟨rfl, hb⟩; have c6 := (h.below hb).c6; rw [hbg] at c6; have c3 := (h.below hb).c3_some hleaf; have ck := (h.below hb).nkind (hl i hleaf); rw [hk] at ck)
          go_ret
          exact ⟨rfl, hb⟩
        · have hp : σ.plain = false := by unfold St.plain St.leafKind; rw [hleaf, ha, hbg]; simp [hk]
          have hk1 : (((σ.nd i).kind : Int) == 5) = false := by rw [beq_eq_false_iff_ne]; omega
          rw [hp]
          go_enter Tryz.func58, Tryz.ntmps58
          go_wp2_with (go_at_call 48; (with_reducible refine AL.mono ?_); rintro e w1 ⟨rfl, hb⟩; have c6 := (h.below hb).c6; rw [hbg] at c6; have c3 := (h.below hb).c3_some hleaf; have ck := (h.below hb).nkind (hl i hleaf))
          go_ret
          exact ⟨rfl, hb⟩

/-- What a line's rest is bounded by: each tab counts for four. -/
def phi : Bs → Nat
  | [] => 0
  | b :: t => (if b = 9 then 4 else 1) + phi t
theorem phi_len : ∀ l : Bs, l.length ≤ phi l
  | [] => Nat.le_refl _
  | b :: t => by have := phi_len t; simp only [phi, List.length_cons]; split <;> omega
theorem phi_drop (l : Bs) (k : Nat) : phi (l.drop k) + k ≤ phi l ∨ l.length < k := by
  induction l generalizing k with
  | nil => cases k with | zero => left; simp [phi] | succ k => right; simp
  | cons b t ih =>
    cases k with
    | zero => left; simp
    | succ k =>
      rcases ih k with h | h
      · left; simp only [List.drop_succ_cons, phi]; split <;> omega
      · right; simp; omega
theorem phi_ind : ∀ (l : Bs) (c : Nat), indW l c + phi (l.drop (indK l)) ≤ phi l
  | [], _ => by simp [indW, indK, phi]
  | b :: t, c => by
    have h1 := phi_ind t (c + (4 - c % 4))
    have h2 := phi_ind t (c + 1)
    simp only [indW, indK]
    by_cases h9 : b = 9
    · simp only [h9, if_true, true_or, List.drop_succ_cons, phi]; omega
    · by_cases h32 : b = 32
      · subst h32
        simp only [if_neg h9, if_true, or_true, List.drop_succ_cons, phi]; omega
      · rw [if_neg h9, if_neg h32, if_neg (by simp [h9, h32])]; simp
theorem phi_append (a b : Bs) : phi (a ++ b) = phi a + phi b := by
  induction a with
  | nil => simp [phi]
  | cons x t ih => simp only [List.cons_append, phi, ih]; omega
theorem phi_blanks (n : Nat) : phi (List.replicate n 32) = n := by
  induction n with
  | zero => rfl
  | succ n ih => rw [List.replicate_succ]; simp only [phi, ih]; rw [if_neg (by decide)]; omega
theorem phi_skip : ∀ (l : Bs) (c n : Nat), phi (skip l c n).1 + (skip l c n).2 ≤ phi l + c
  | [], c, n => by simp [skip]
  | b :: t, c, n => by
    have h1 := phi_skip t (c + (4 - c % 4)) (n - (4 - c % 4))
    have h2 := phi_skip t (c + 1) (n - 1)
    simp only [skip]
    by_cases h0 : n = 0
    · simp [h0]
    · rw [if_neg h0]
      by_cases h32 : b = 32
      · subst h32
        simp only [if_true, phi]; rw [if_neg (by decide)]; omega
      · rw [if_neg h32]
        by_cases h9 : b = 9
        · subst h9
          simp only [if_true, phi]
          split
          · simp only [phi_append, phi_blanks]; omega
          · omega
        · rw [if_neg h9]
          exact Nat.le_refl _
/-- The cursor is within bounds. -/
def Near (σ : St) : Prop := phi σ.s + σ.col ≤ 1000000
theorem Near.len {σ : St} (h : Near σ) : σ.s.length ≤ 4000000000 := by have := phi_len σ.s; unfold Near at h; omega
theorem Near.colLe {σ : St} (h : Near σ) : σ.col ≤ 1073741824 := by unfold Near at h; omega
theorem Near.wLe {σ : St} (h : Near σ) : σ.w ≤ 1000000 := by have := phi_ind σ.s σ.col; unfold Near St.w at *; omega
theorem Near.tLe {σ : St} (h : Near σ) : σ.t.length ≤ 1000000 := by have := phi_ind σ.s σ.col; have := phi_len σ.t; unfold Near St.t at *; omega
theorem Near.skipped {σ : St} (h : Near σ) (n : Nat) : Near (σ.skipped n) := by have := phi_skip σ.s σ.col n; unfold Near St.skipped at *; simp only; omega
theorem Near.past {σ : St} (h : Near σ) (m : Nat) (hm : m ≤ σ.t.length) : Near (σ.past m) := by
  have h1 := phi_ind σ.s σ.col
  have h2 := phi_drop σ.t m
  unfold Near St.past St.w St.t at *
  simp only
  omega

/-- What a change of the machine's own block leaves. -/
theorem MRep.of_but {B : Nat} {w w1 : World} {mb : Nat} {mask : Int} {nb : Nat → Nat} {kv lv : Nat → Value} {ov : Value} {σ τ : St} (h : MRep B w mb mask nb kv lv ov σ) (hb : But mb w w1)
    (hm : w1.heap[mb]? = some (.cells (mcells nb ov mask τ) TM (0, 0))) (hn : τ.n = σ.n) (hA : τ.nd = σ.nd) (ho : τ.opn = σ.opn) : MRep B w1 mb mask nb kv lv ov τ := by
  have far : ∀ {g t : Nat} {cs : Array Value} {f : Nat × Nat}, w.heap[g]? = some (.cells cs t f) → t ≠ TM → w1.heap[g]? = some (.cells cs t f) := fun hg ht => (hb.block _ (blk_lt hg) (blk_ne hg h.mach ht)).trans hg
  have own : ∀ {e n : Nat} {v : Value} {xs : List Value}, w.ownsRow B e 1 v n xs → e ≠ TM → w1.ownsRow B e 1 v n xs := fun ho he => by
    refine ⟨ho.1, ?_⟩
    rcases ho.2 with ⟨rfl, h0⟩ | ⟨g, cap, cur, rfl, hB, hg, r⟩
    · exact .inl ⟨rfl, h0⟩
    · exact .inr ⟨g, cap, cur, rfl, hB, far hg he, r⟩
  refine { rep := ?_, mach := hm, mbase := h.mbase, opn := ?_, onk := by rw [hn]; exact h.onk, root := by rw [hn]; exact h.root, low := h.low.trans (hb.below (by have := h.mlt; have := h.mbase; omega) h.mbase) }
  · rw [hn, hA]
    exact { node := fun i hi => far (h.rep.node i hi) (by decide), kids := fun i hi => own (h.rep.kids i hi) (by decide), lines := fun i hi => own (h.rep.lines i hi) (by decide), base := h.rep.base, inj := h.rep.inj, injk := h.rep.injk, injl := h.rep.injl }
  · rw [ho]
    refine h.opn.far fun k hk => ?_
    obtain ⟨g, cap, cur, e, hg, _⟩ := h.opn.blk
    rw [e] at hk; cases hk
    exact (far hg (by decide)).trans hg.symm
theorem MRep.butBelow {B : Nat} {w w1 : World} {mb : Nat} {mask : Int} {nb : Nat → Nat} {kv lv : Nat → Value} {ov : Value} {σ : St} (h : MRep B w mb mask nb kv lv ov σ) (hb : But mb w w1) : Below B w w1 :=
  hb.below (by have := h.mlt; have := h.mbase; omega) h.mbase

theorem mskip_any {B : Nat} {w : World} {mb : Nat} {mask : Int} {nb : Nat → Nat} {kv lv : Nat → Value} {ov : Value} {σ : St} (h : MRep B w mb mask nb kv lv ov σ) (hN : Near σ) (n : Nat) (D : Int) (hD : D = n) (hn : n ≤ 100000000000) :
    Calls Tryz.prog 74 #[.pointer (some ⟨mb, 0, none⟩), .int .i64 D] w fun e w' => e = .returned (.tuple #[]) ∧ MRep B w' mb mask nb kv lv ov (σ.skipped n) ∧ Below B w w' := by
  subst hD
  refine (cursorSkip_any mb σ.s σ.col n w _ TM h.mach rfl rfl hN.len hN.colLe hn).mono ?_
  rintro e w1 ⟨rfl, hm, hb⟩
  exact ⟨rfl, h.of_but hb hm rfl rfl rfl, h.butBelow hb⟩
theorem mpast_any {B : Nat} {w : World} {mb : Nat} {mask : Int} {nb : Nat → Nat} {kv lv : Nat → Value} {ov : Value} {σ : St} (h : MRep B w mb mask nb kv lv ov σ) (hN : Near σ) (m : Nat) (D : Int) (hD : D = m) (hm : m ≤ σ.t.length) :
    Calls Tryz.prog 73 #[.pointer (some ⟨mb, 0, none⟩), .int .i64 D] w fun e w' => e = .returned (.tuple #[]) ∧ MRep B w' mb mask nb kv lv ov (σ.past m) ∧ Below B w w' := by
  subst hD
  refine (cursorPast_any mb σ.s σ.col m w _ TM h.mach rfl rfl hN.len hN.colLe hm).mono ?_
  rintro e w1 ⟨rfl, hm, hb⟩
  exact ⟨rfl, h.of_but hb hm rfl rfl rfl, h.butBelow hb⟩
theorem mindent_any {B : Nat} {w : World} {mb : Nat} {mask : Int} {nb : Nat → Nat} {kv lv : Nat → Value} {ov : Value} {σ : St} (h : MRep B w mb mask nb kv lv ov σ) (hN : Near σ) :
    Calls Tryz.prog 51 #[.pointer (some ⟨mb, 0, none⟩)] w fun e w' => e = .returned (.tuple #[.int .i64 σ.w, .string (mk σ.t)]) ∧ Below w.heap.size w w' :=
  cursorIndent_any mb σ.s σ.col w _ TM h.mach rfl rfl hN.len hN.colLe
theorem mblank_any {B : Nat} {w : World} {mb : Nat} {mask : Int} {nb : Nat → Nat} {kv lv : Nat → Value} {ov : Value} {σ : St} (h : MRep B w mb mask nb kv lv ov σ) (hN : Near σ) :
    Calls Tryz.prog 46 #[.pointer (some ⟨mb, 0, none⟩)] w fun e w' => e = .returned (.bool σ.blank) ∧ Below w.heap.size w w' :=
  cursorBlank_any mb σ.s w _ TM h.mach rfl hN.len
theorem mwithout_any {B : Nat} {w : World} {mb : Nat} {mask : Int} {nb : Nat → Nat} {kv lv : Nat → Value} {ov : Value} {σ : St} (h : MRep B w mb mask nb kv lv ov σ) (hN : Near σ) (n : Nat) (D : Int) (hD : D = n) (hn : n ≤ 100000000000) :
    Calls Tryz.prog 60 #[.pointer (some ⟨mb, 0, none⟩), .int .i64 D] w fun e w' => e = .returned (.string (mk (σ.without n))) ∧ Below w.heap.size w w' := by
  subst hD
  exact cursorWithout_any mb σ.s σ.col n w _ TM h.mach rfl rfl hN.len hN.colLe hn
end Bk
end Go.Proofs.YtehmcahdjldhbaaGreatDoor
end
section
/- Package block: quoted, deep, touch, meet. -/
open Go Go.RowKit
set_option linter.unusedVariables false
set_option linter.unusedSimpArgs false
set_option maxRecDepth 100000
namespace Go.Proofs.YtehmcahdjldhbaaGreatDoor
open Wk
namespace Bk
theorem cast1 : (1 : Int) = ((1 : Nat) : Int) := rfl
theorem cast4 : (4 : Int) = ((4 : Nat) : Int) := rfl
theorem hasPrefix_pos {l : Bs} {c : UInt8} (h : Lib.hasPrefix l [c] = true) : 1 ≤ l.length := by
  cases l with
  | nil => exact absurd h (by simp [Lib.hasPrefix])
  | cons b t => simp
theorem quoted_any {B : Nat} {w : World} {mb : Nat} {mask : Int} {nb : Nat → Nat} {kv lv : Nat → Value} {ov : Value} {σ : St} (h : MRep B w mb mask nb kv lv ov σ) (hN : Near σ) :
    Calls Tryz.prog 44 #[.pointer (some ⟨mb, 0, none⟩)] w fun e w' => e = .returned (.bool σ.quotes) ∧ MRep B w' mb mask nb kv lv ov σ.quoted ∧ Below B w w' := by
  have hB : B ≤ w.heap.size := by have := h.mlt; have := h.mbase; omega
  have IN := mindent_any h hN
  have HP : ∀ w, Calls Tryz.prog 30 #[.string (mk σ.t), .string ⟨#[62]⟩] w fun e w' => e = .returned (.bool (Lib.hasPrefix σ.t [62])) ∧ w' = w := fun w => by
    have := Tryz.strings_HasPrefix (mk σ.t) ⟨#[62]⟩ w
    rw [mk_data] at this
    exact this
  by_cases hw : σ.w < 4
  · have hd : decide ((4 : Int) ≤ (σ.w : Int)) = false := by rw [decide_eq_false_iff_not]; omega
    cases hp : (Lib.hasPrefix σ.t [62]) with
    | false =>
      have hq : σ.quotes = false := by unfold St.quotes; rw [hp]; simp
      have hq2 : σ.quoted = σ := by unfold St.quoted; rw [hq]; rfl
      rw [hq, hq2]
      rw [hp] at HP
      go_enter Tryz.func44, Tryz.ntmps44
      go_wp2_with (first
        | (go_at_call 51; (with_reducible refine IN.mono ?_); rintro e w1 ⟨rfl, hb⟩)
        | (go_at_call 30; (with_reducible refine (HP _).mono ?_); rintro e w2 ⟨rfl, rfl⟩))
      go_ret
      exact ⟨rfl, h.below hb, hb.mono hB⟩
    | true =>
      have hq : σ.quotes = true := by unfold St.quotes; rw [hp]; simp [hw]
      have hq2 : σ.quoted = (σ.past 1).skipped 1 := by unfold St.quoted; rw [hq]; rfl
      have ht := hasPrefix_pos hp
      rw [hq, hq2]
      rw [hp] at HP
      go_enter Tryz.func44, Tryz.ntmps44
      go_wp2_with (first
        | (go_at_call 51; (with_reducible refine IN.mono ?_); rintro e w1 ⟨rfl, hb⟩; have h1 := h.below hb)
        | (go_at_call 30; (with_reducible refine (HP _).mono ?_); rintro e w2 ⟨rfl, rfl⟩)
        | (go_at_call 73; (with_reducible refine (mpast_any h1 hN 1 _ cast1 ht).mono ?_); rintro e w3 ⟨rfl, h3, hb3⟩)
        | (go_at_call 74; (with_reducible refine (mskip_any h3 (hN.past 1 ht) 1 _ cast1 (by omega)).mono ?_); rintro e w4 ⟨rfl, h4, hb4⟩))
      go_ret
      exact ⟨rfl, h4, ((hb.mono hB).trans hb3).trans hb4⟩
  · have hd : decide ((4 : Int) ≤ (σ.w : Int)) = true := by rw [decide_eq_true_iff]; omega
    have hq : σ.quotes = false := by unfold St.quotes; rw [decide_eq_false hw]; rfl
    have hq2 : σ.quoted = σ := by unfold St.quoted; rw [hq]; rfl
    rw [hq, hq2]
    go_enter Tryz.func44, Tryz.ntmps44
    go_wp2_with (first
      | (go_at_call 51; (with_reducible refine IN.mono ?_); rintro e w1 ⟨rfl, hb⟩))
    go_ret
    exact ⟨rfl, h.below hb, hb.mono hB⟩

theorem deep_any {B : Nat} {w : World} {mb : Nat} {mask : Int} {nb : Nat → Nat} {kv lv : Nat → Value} {ov : Value} {σ : St} (h : MRep B w mb mask nb kv lv ov σ) (hN : Near σ) (n : Nat) (D : Int) (hD : D = n) (hn : n ≤ 100000000000) :
    Calls Tryz.prog 47 #[.pointer (some ⟨mb, 0, none⟩), .int .i64 D] w fun e w' => e = .returned (.bool (σ.deepOk n)) ∧ MRep B w' mb mask nb kv lv ov (σ.deep n) ∧ Below B w w' := by
  have hB : B ≤ w.heap.size := by have := h.mlt; have := h.mbase; omega
  have IN := mindent_any h hN
  have hwl := hN.wLe
  subst hD
  by_cases hw : n ≤ σ.w
  · have hd : decide ((σ.w : Int) < (n : Int)) = false := by rw [decide_eq_false_iff_not]; omega
    have hq : σ.deepOk n = true := by unfold St.deepOk; rw [decide_eq_true hw]; rfl
    have hq2 : σ.deep n = σ.skipped (min σ.w n) := by unfold St.deep; rw [hq]; rfl
    have hm : min σ.w n = n := Nat.min_eq_right hw
    rw [hq, hq2, hm]
    go_enter Tryz.func47, Tryz.ntmps47
    go_wp2_with (first
      | (go_at_call 51; (with_reducible refine IN.mono ?_); rintro e w1 ⟨rfl, hb⟩; have h1 := h.below hb)
      | (go_at_call 74; (with_reducible refine (mskip_any h1 hN n _ (by omega) hn).mono ?_); rintro e w4 ⟨rfl, h4, hb4⟩))
    go_ret
    exact ⟨rfl, h4, (hb.mono hB).trans hb4⟩
  · have hd : decide ((σ.w : Int) < (n : Int)) = true := by rw [decide_eq_true_iff]; omega
    have hmin : min σ.w n = σ.w := by omega
    cases hte : σ.t with
    | nil =>
      have hq : σ.deepOk n = true := by unfold St.deepOk; rw [hte]; simp
      have hq2 : σ.deep n = σ.skipped σ.w := by unfold St.deep; rw [hq, hmin]; rfl
      rw [hte] at IN
      have htl : (mk []).toList = [] := by rw [toList_data]; rfl
      rw [hq, hq2]
      go_enter Tryz.func47, Tryz.ntmps47
      go_wp2_with (first
        | (go_at_call 51; (with_reducible refine IN.mono ?_); rintro e w1 ⟨rfl, hb⟩; have h1 := h.below hb)
        | (go_at_call 74; (with_reducible refine (mskip_any h1 hN σ.w _ (by omega) (by omega)).mono ?_); rintro e w4 ⟨rfl, h4, hb4⟩))
      go_ret
      exact ⟨rfl, h4, (hb.mono hB).trans hb4⟩
    | cons b t =>
      have hq : σ.deepOk n = false := by unfold St.deepOk; rw [hte, decide_eq_false hw]; rfl
      have hq2 : σ.deep n = σ := by unfold St.deep; rw [hq]; rfl
      rw [hte] at IN
      have htl : ((mk (b :: t)).toList == ([] : List UInt8)) = false := by rw [toList_data]; rfl
      rw [hq, hq2]
      go_enter Tryz.func47, Tryz.ntmps47
      go_wp2_with (first
        | (go_at_call 51; (with_reducible refine IN.mono ?_); rintro e w1 ⟨rfl, hb⟩; have h1 := h.below hb))
      go_ret
      exact ⟨rfl, h1, hb.mono hB⟩

theorem touchA_none (k : Nat) (A : Nat → Nd) (l : Nat) : touchA k A none l = A := by cases k <;> rfl
theorem touchA_parent : ∀ (k : Nat) (A : Nat → Nd) (o : Option Nat) (l j : Nat), (touchA k A o l j).parent = (A j).parent
  | 0, _, _, _, _ => rfl
  | _ + 1, _, none, _, _ => rfl
  | k + 1, A, some i, l, j => by
    simp only [touchA]
    rw [touchA_parent k]
    unfold upd
    split
    · rename_i e; subst e; rfl
    · rfl

theorem touch_any {B : Nat} {w : World} {mb : Nat} {mask : Int} {nb : Nat → Nat} {kv lv : Nat → Value} {ov : Value} {σ : St} (h : MRep B w mb mask nb kv lv ov σ) (i : Nat) (hi : i < σ.n)
    (hp : ∀ j, j < σ.n → ∀ p, (σ.nd j).parent = some p → p < j) (l : Nat) :
    Calls Tryz.prog 45 #[.pointer (some ⟨nb i, 0, none⟩), .int .i64 l] w fun e w' => e = .returned (.tuple #[]) ∧ MRep B w' mb mask nb kv lv ov { σ with nd := touchA σ.n σ.nd (some i) l } ∧ Below B w w' := by
  have hB : B ≤ w.heap.size := by have := h.mlt; have := h.mbase; omega
  generalize hF : touchA σ.n σ.nd (some i) l = F
  go_enter Tryz.func45, Tryz.ntmps45
  go_wp2
  go_loopg [0] (σ.n) (fun k v wr => ∃ (o : Option Nat) (A' : Nat → Nd), v = ptrV (o.map nb) ∧ MRep B wr mb mask nb kv lv ov { σ with nd := A' } ∧ Below B w wr ∧ Hid (touchA k A' o l = F) ∧
      Hid (∀ j, o = some j → j < k ∧ j < σ.n) ∧ Hid (∀ j, (A' j).parent = (σ.nd j).parent))
  case atStart => exact ⟨some i, σ.nd, rfl, h, Below.refl _ _, hF, (fun j e => by cases e; exact ⟨hi, hi⟩), fun _ => rfl⟩
  case round =>
    obtain ⟨o, A', rfl, hM, hb, hT, hJ, hP⟩ := hrel
    cases o with
    | none =>
      have e : A' = F := by have := hT.out; rwa [touchA_none] at this
      subst e
      have hv : ptrV (Option.map nb none) = .pointer none := rfl
      rw [hv]
      clear hT hJ hP
      go_wp2
      go_end0
      exact ⟨rfl, hM, hb⟩
    | some j =>
      have hv : ptrV (Option.map nb (some j)) = .pointer (some ⟨nb j, 0, none⟩) := rfl
      rw [hv]
      obtain ⟨hjk, hjn⟩ := hJ.out j rfl
      have cp : wr.cell? ⟨nb j, 9, none⟩ = some (ptrV ((A' j).parent.map nb)) := (hM.ncell hjn 9).trans rfl
      have cl : wr.cell? ⟨nb j, 7, none⟩ = some (.int .i64 (A' j).last) := (hM.ncell hjn 7).trans rfl
      have fl := hM.nfree hjn 7
      have hM2 := hM.nset hjn 7 (natV l) (fun d => { d with last := l }) rfl rfl rfl
      obtain ⟨k, rfl⟩ : ∃ k, gk = k + 1 := ⟨gk - 1, by omega⟩
      have hT2 : Hid (touchA k (upd A' j fun d => { d with last := l }) (A' j).parent l = F) := hT
      have hP2 : Hid (∀ x, ((upd A' j fun d => { d with last := l }) x).parent = (σ.nd x).parent) := by
        intro x
        unfold upd
        split
        · rename_i e; subst e; exact hP.out x
        · exact hP.out x
      have hJ2 : Hid (∀ x, (A' j).parent = some x → x < k ∧ x < σ.n) := by
        intro x hx
        have := hp j hjn x (by rw [← hP.out j]; exact hx)
        omega
      clear hT hJ hP
      cases hpar : (A' j).parent with
      | none =>
        rw [hpar] at hT2 hJ2 cp
        replace cp : wr.cell? ⟨nb j, 9, none⟩ = some (.pointer none) := cp
        go_wp2
        go_roundg k
        case rel => exact ⟨none, _, rfl, hM2, hb.setCell (hM.rep.base j hjn) _, hT2, hJ2, hP2⟩
        case measure => omega
      | some p =>
        rw [hpar] at hT2 hJ2 cp
        replace cp : wr.cell? ⟨nb j, 9, none⟩ = some (.pointer (some ⟨nb p, 0, none⟩)) := cp
        go_wp2
        go_roundg k
        case rel => exact ⟨some p, _, rfl, hM2, hb.setCell (hM.rep.base j hjn) _, hT2, hJ2, hP2⟩
        case measure => omega
end Bk
end Go.Proofs.YtehmcahdjldhbaaGreatDoor
end
