/- The plain law of ScanHeads. No program in sight. -/
import Derived.Test.YtokhibghnpcogaaGreatDoorPOne
set_option linter.unusedVariables false
set_option linter.unusedSimpArgs false
set_option maxRecDepth 100000
namespace Go.Proofs.YtokhibghnpcogaaGreatDoor
namespace Sc
def low_ (b : UInt8) : Bool := decide (97 ≤ b.toNat) && decide (b.toNat ≤ 122)
theorem low_ne {b n : UInt8} (h : low_ b = true) (hn : low_ n = false) : b ≠ n := fun e => by rw [e, hn] at h; cases h
theorem trimR_last (a b cs : List UInt8) (x : UInt8) (hb : b.all (cs.contains ·) = true) (hx : cs.contains x = false) : Lib.trimRightS (a ++ [x] ++ b) cs = a ++ [x] := by
  unfold Lib.trimRightS
  rw [List.reverse_append, List.dropWhile_append]
  have e : (b.reverse.dropWhile fun y => cs.contains y) = [] := by
    rw [dropWhile_nil]; rw [List.all_reverse]; exact hb
  rw [e]
  simp only [List.isEmpty_nil, if_true]
  rw [List.reverse_append]
  simp [List.dropWhile_cons, hx, show (x ∈ cs) = False from by simpa using hx]
theorem trimL_first (a b cs : List UInt8) (x : UInt8) (ha : a.all (cs.contains ·) = true) (hx : cs.contains x = false) : Lib.trimLeftS (a ++ (x :: b)) cs = x :: b := by
  unfold Lib.trimLeftS
  rw [List.dropWhile_append]
  have e : (a.dropWhile fun y => cs.contains y) = [] := by rw [dropWhile_nil]; exact ha
  rw [e]
  simp [List.dropWhile_cons, show (x ∈ cs) = False from by simpa using hx]
/-- A text of letters between blanks, trimmed. -/
theorem trim_mid (p q l : List UInt8) (hp : p.all blank = true) (hq : q.all blank = true) (h0 : l ≠ []) (hl : ∀ b ∈ l, blank b = false) (m : List UInt8) (x : UInt8) (hx : blank x = false) :
    trim (p ++ l ++ q) = l ∧ trim (p ++ (l ++ m ++ [x]) ++ q) = l ++ m ++ [x] := by
  have cb : ∀ b, ([32, 9] : List UInt8).contains b = blank b := fun b => by
    unfold blank; rw [Bool.eq_iff_iff]; simp
  have ca : ∀ r : List UInt8, (r.all fun y => ([32, 9] : List UInt8).contains y) = r.all blank := fun r => by congr 1; funext y; exact cb y
  have hlast := List.dropLast_concat_getLast h0
  have hlx := hl _ (List.getLast_mem h0)
  cases hl0 : l with
  | nil => exact absurd hl0 h0
  | cons y t =>
    have hy := hl y (by rw [hl0]; simp)
    rw [← hl0]
    constructor
    · unfold trim Lib.trimS
      rw [← hlast, ← List.append_assoc p, trimR_last (p ++ l.dropLast) q [32, 9] _ (by rw [ca]; exact hq) (by rw [cb]; exact hlx), List.append_assoc, hlast, hl0, trimL_first p t [32, 9] y (by rw [ca]; exact hp) (by rw [cb]; exact hy)]
    · unfold trim Lib.trimS
      rw [← List.append_assoc p, trimR_last (p ++ (l ++ m)) q [32, 9] x (by rw [ca]; exact hq) (by rw [cb]; exact hx), List.append_assoc, hl0]
      simp only [List.cons_append]
      rw [trimL_first p _ [32, 9] y (by rw [ca]; exact hp) (by rw [cb]; exact hy)]
theorem run_rep (c : UInt8) (r : List UInt8) (h : r.head? ≠ some c) : ∀ k, run c (List.replicate k c ++ r) = k
  | 0 => by
    cases r with
    | nil => rfl
    | cons b t => rw [List.replicate_zero, List.nil_append, run, if_neg (by simpa using h)]
  | k + 1 => by rw [List.replicate_succ, List.cons_append, run, if_pos rfl, run_rep c r h k]
theorem drop_rep (c : UInt8) (r : List UInt8) (k : Nat) : (List.replicate k c ++ r).drop k = r := by
  have : (List.replicate k c ++ r).drop (List.replicate k c).length = r := List.drop_left
  rw [List.length_replicate] at this
  exact this
/-- THE LAW 'ScanHeads', in plain lists. -/
structure Heads (k : Nat) (l : List UInt8) : Prop where
  a : atx (List.replicate k 35 ++ (32 :: l)) = (k, l)
  b : atx (List.replicate k 35 ++ ([32, 9] ++ l ++ [32, 35, 35, 32])) = (k, l)
  c : 3 ≤ k → fence (List.replicate k 126 ++ l) = (126, k, l)
  d : k < 3 → fence (List.replicate k 126 ++ l) = (0, 0, [])
  e : closes (List.replicate k 126) 126 k = true
  f : closes (List.replicate k 126) 126 (k + 1) = false
theorem heads_law (k : Nat) (l : List UInt8) (h1 : 1 ≤ k) (h6 : k ≤ 6) (h0 : l ≠ []) (hl : ∀ b ∈ l, low_ b = true) : Heads k l := by
  have nb : ∀ b ∈ l, blank b = false := fun b hb => by
    have e1 := low_ne (hl b hb) (n := 32) (by decide); have e2 := low_ne (hl b hb) (n := 9) (by decide)
    unfold blank; simp [e1, e2]
  have hlast := List.dropLast_concat_getLast h0
  have gl := hl _ (List.getLast_mem h0)
  have g35 : ([35] : List UInt8).contains (l.getLast h0) = false := by
    have e := low_ne gl (n := 35) (by decide); simp [e]
  have g32 : ([32, 9] : List UInt8).contains (l.getLast h0) = false := by
    have e := low_ne gl (n := 32) (by decide); have e2 := low_ne gl (n := 9) (by decide); simp [e, e2]
  have t35 : trimR l [35] = l := by
    have := trimR_last l.dropLast [] [35] (l.getLast h0) rfl g35
    rw [List.append_nil, hlast] at this; exact this
  have t32 : trimR l [32, 9] = l := by
    have := trimR_last l.dropLast [] [32, 9] (l.getLast h0) rfl g32
    rw [List.append_nil, hlast] at this; exact this
  have hh : l.head? ≠ some 126 := by
    cases l with
    | nil => exact absurd rfl h0
    | cons y t => have := low_ne (hl y (by simp)) (n := 126) (by decide); simpa using this
  have fe : ∀ k', k = k' + 1 → fence (List.replicate k 126 ++ l) = if k < 3 then (0, 0, []) else (126, k, trim l) := by
    rintro k' rfl
    have R := run_rep 126 l hh (k' + 1)
    have Dr := drop_rep 126 l (k' + 1)
    rw [List.replicate_succ, List.cons_append] at R Dr ⊢
    simp only [fence]
    rw [R, Dr]
    simp
  obtain ⟨k', hk⟩ : ∃ k', k = k' + 1 := ⟨k - 1, by omega⟩
  have tl : trim l = l := by
    have := (trim_mid [] [] l rfl rfl h0 nb [] 35 (by decide)).1
    simpa using this
  have R1 := fun r (h : r.head? ≠ some (35 : UInt8)) => run_rep 35 r h k
  refine ⟨?_, ?_, ?_, ?_, ?_, ?_⟩
  · unfold atx
    have R := R1 (32 :: l) (by simp)
    have Dr := drop_rep 35 (32 :: l) k
    have T : trim (32 :: l) = l := by
      have := (trim_mid [32] [] l (by decide) rfl h0 nb [] 35 (by decide)).1
      simpa using this
    rw [R, Dr, T, if_neg (by rintro (h | h | h); omega; omega; simp [ends, blank] at h)]
    show (k, if trimR l [35] = [] ∨ trimR (trimR l [35]) [32, 9] ≠ trimR l [35] then trimR (trimR l [35]) [32, 9] else l) = (k, l)
    rw [t35, if_neg (by rintro (h | h); exact h0 h; exact h t32)]
  · unfold atx
    have R := R1 ([32, 9] ++ l ++ [32, 35, 35, 32]) (by simp)
    have Dr := drop_rep 35 ([32, 9] ++ l ++ [32, 35, 35, 32]) k
    have T : trim ([32, 9] ++ l ++ [32, 35, 35, 32]) = l ++ [32, 35] ++ [35] := by
      have := (trim_mid [32, 9] [32] l (by decide) (by decide) h0 nb [32, 35] 35 (by decide)).2
      simpa using this
    have T1 : trimR (l ++ [32, 35] ++ [35]) [35] = l ++ [32] := by
      have := trimR_last l [35, 35] [35] 32 (by decide) (by decide)
      simpa [trimR] using this
    have T2 : trimR (l ++ [32]) [32, 9] = l := by
      have := trimR_last l.dropLast [32] [32, 9] (l.getLast h0) (by decide) g32
      rw [hlast] at this; exact this
    rw [R, Dr, T, if_neg (by rintro (h | h | h); omega; omega; simp [ends, blank] at h)]
    show (k, if trimR (l ++ [32, 35] ++ [35]) [35] = [] ∨ trimR (trimR (l ++ [32, 35] ++ [35]) [35]) [32, 9] ≠ trimR (l ++ [32, 35] ++ [35]) [35] then trimR (trimR (l ++ [32, 35] ++ [35]) [35]) [32, 9] else l ++ [32, 35] ++ [35]) = (k, l)
    rw [T1, T2, if_pos (.inr (by intro h; have := congrArg List.length h; simp at this))]
  · intro h3
    rw [fe k' hk, if_neg (by omega), tl]
  · intro h3
    rw [fe k' hk, if_pos h3]
  · unfold closes
    have R := run_rep 126 [] (by simp) k
    have Dr := drop_rep 126 [] k
    rw [List.append_nil] at R Dr
    rw [R, Dr]
    simp [blanks, h1]
  · unfold closes
    have R := run_rep 126 [] (by simp) k
    rw [List.append_nil] at R
    rw [R]
    have : ¬ ((k : Int) + 1 ≤ (k : Int)) := by omega
    simp [this]
end Sc
end Go.Proofs.YtokhibghnpcogaaGreatDoor
