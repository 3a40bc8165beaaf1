/- The plain laws of ScanOne and ScanIndents: the first byte decides. No program in sight. -/
import Derived.Test.YtokhibghnpcogaaGreatDoorLaw1
set_option linter.unusedVariables false
set_option linter.unusedSimpArgs false
set_option maxRecDepth 100000
namespace Go.Proofs.YtokhibghnpcogaaGreatDoor
namespace Sc
/-- The first byte decides what a line may be. -/
theorem run_head {c b : UInt8} {t : List UInt8} (h : b ≠ c) : run c (b :: t) = 0 := by simp [run, h]
theorem atx_head {b : UInt8} {t : List UInt8} (h : b ≠ 35) : (atx (b :: t)) = (0, []) := by simp [atx, run_head h]
theorem fence_head {b : UInt8} {t : List UInt8} (h : b ≠ 96) (h' : b ≠ 126) : fence (b :: t) = (0, 0, []) := by simp [fence, h, h']
theorem ordered_head {b : UInt8} {t : List UInt8} (h : digit b = false) : ordered (b :: t) = (0, 0, 0) := by simp [ordered, orderedAt, h]
theorem rule_head {b : UInt8} {t : List UInt8} (h1 : b ≠ 42) (h2 : b ≠ 45) (h3 : b ≠ 95) : rule (b :: t) = false := by simp [rule, h1, h2, h3]
theorem html_head {b : UInt8} {t : List UInt8} (h : b ≠ 60) : htmlStart (b :: t) = 0 := by simp [htmlStart, Lib.hasPrefix, Ne.symm h]
theorem bullet_head {b : UInt8} {t : List UInt8} (h1 : b ≠ 42) (h2 : b ≠ 45) (h3 : b ≠ 43) : bullet (b :: t) = 0 := by simp [bullet, h1, h2, h3]
theorem setext_head {b : UInt8} {t : List UInt8} (h1 : b ≠ 61) (h2 : b ≠ 45) : setext (b :: t) = 0 := by simp [setext, run_head h1, run_head h2]
theorem setext_one {b : UInt8} {t : List UInt8} (h1 : b ≠ 61) : setext (b :: t) ≠ 1 := by
  unfold setext; rw [run_head h1]; simp; split <;> simp
theorem tag_head {b : UInt8} {t : List UInt8} (h : b ≠ 60) : tag (b :: t) = 0 := by simp [tag, tagRest, sign, h]
/-- A line that no sign begins is none of these things. -/
structure None_ (l : List UInt8) : Prop where
  atx : atx l = (0, [])
  fence : fence l = (0, 0, [])
  ordered : ordered l = (0, 0, 0)
  rule : rule l = false
  html : htmlStart l = 0
  bullet : bullet l = 0
  setext : setext l = 0
  tag : tag l = 0
theorem none_nil : None_ [] := ⟨rfl, rfl, rfl, rfl, rfl, rfl, rfl, rfl⟩
theorem none_of {b : UInt8} {t : List UInt8} (hd : digit b = false) (h : b ∉ ([35, 96, 126, 42, 45, 95, 60, 43, 61] : List UInt8)) : None_ (b :: t) := by
  simp only [List.mem_cons, List.not_mem_nil, or_false, not_or] at h
  obtain ⟨h1, h2, h3, h4, h5, h6, h7, h8, h9⟩ := h
  exact ⟨atx_head h1, fence_head h2 h3, ordered_head hd, rule_head h4 h5 h6, html_head h7, bullet_head h4 h5 h8, setext_head h9 h5, tag_head h7⟩
/-- THE LAW 'ScanOne', in plain lists: at most one of the five, a bullet's line is no other but a rule, and a line of "=" is none. -/
inductive One (l : List UInt8) : Prop where
  | none (h1 : (atx l).1 = 0) (h2 : (fence l).2.1 = 0) (h3 : (ordered l).2.2 = 0) (h4 : rule l = false) (h5 : htmlStart l = 0)
  | atx (h1 : 0 < (atx l).1) (h2 : (fence l).2.1 = 0) (h3 : (ordered l).2.2 = 0) (h4 : rule l = false) (h5 : htmlStart l = 0) (h6 : bullet l = 0) (h7 : setext l ≠ 1)
  | fence (h1 : (atx l).1 = 0) (h2 : 0 < (fence l).2.1) (h3 : (ordered l).2.2 = 0) (h4 : rule l = false) (h5 : htmlStart l = 0) (h6 : bullet l = 0) (h7 : setext l ≠ 1)
  | ordered (h1 : (atx l).1 = 0) (h2 : (fence l).2.1 = 0) (h3 : 0 < (ordered l).2.2) (h4 : rule l = false) (h5 : htmlStart l = 0) (h6 : bullet l = 0) (h7 : setext l ≠ 1)
  | rule (h1 : (atx l).1 = 0) (h2 : (fence l).2.1 = 0) (h3 : (ordered l).2.2 = 0) (h4 : rule l = true) (h5 : htmlStart l = 0) (h7 : setext l ≠ 1)
  | html (h1 : (atx l).1 = 0) (h2 : (fence l).2.1 = 0) (h3 : (ordered l).2.2 = 0) (h4 : rule l = false) (h5 : 0 < htmlStart l) (h6 : bullet l = 0) (h7 : setext l ≠ 1)
theorem one_law (l : List UInt8) : One l := by
  cases l with
  | nil => exact .none rfl rfl rfl rfl rfl
  | cons b t =>
    by_cases c1 : b = 35
    · subst c1
      have e2 : (Sc.fence (35 :: t)).2.1 = 0 := by rw [fence_head (by decide) (by decide)]
      have e3 : (Sc.ordered (35 :: t)).2.2 = 0 := by rw [ordered_head (by decide)]
      have e4 := rule_head (b := 35) (t := t) (by decide) (by decide) (by decide)
      have e5 := html_head (b := 35) (t := t) (by decide)
      rcases Nat.eq_zero_or_pos (Sc.atx (35 :: t)).1 with h | h
      · exact .none h e2 e3 e4 e5
      · exact .atx h e2 e3 e4 e5 (bullet_head (by decide) (by decide) (by decide)) (setext_one (by decide))
    have e1 : (Sc.atx (b :: t)).1 = 0 := by rw [atx_head c1]
    by_cases c2 : b = 96 ∨ b = 126
    · have hb : b ≠ 42 ∧ b ≠ 45 ∧ b ≠ 95 ∧ b ≠ 60 ∧ b ≠ 43 ∧ b ≠ 61 ∧ digit b = false := by rcases c2 with rfl | rfl <;> decide
      obtain ⟨d1, d2, d3, d4, d5, d6, d7⟩ := hb
      have e3 : (Sc.ordered (b :: t)).2.2 = 0 := by rw [ordered_head d7]
      rcases Nat.eq_zero_or_pos (Sc.fence (b :: t)).2.1 with h | h
      · exact .none e1 h e3 (rule_head d1 d2 d3) (html_head d4)
      · exact .fence e1 h e3 (rule_head d1 d2 d3) (html_head d4) (bullet_head d1 d2 d5) (setext_one d6)
    have e2 : (Sc.fence (b :: t)).2.1 = 0 := by rw [fence_head (fun h => c2 (.inl h)) (fun h => c2 (.inr h))]
    cases c3 : digit b with
    | true =>
      have hb : ∀ n : UInt8, digit n = false → b ≠ n := fun n hn e => by rw [e, hn] at c3; cases c3
      have e4 := rule_head (b := b) (t := t) (hb _ (by decide)) (hb _ (by decide)) (hb _ (by decide))
      have e5 := html_head (b := b) (t := t) (hb _ (by decide))
      rcases Nat.eq_zero_or_pos (Sc.ordered (b :: t)).2.2 with h | h
      · exact .none e1 e2 h e4 e5
      · exact .ordered e1 e2 h e4 e5 (bullet_head (hb _ (by decide)) (hb _ (by decide)) (hb _ (by decide))) (setext_one (hb _ (by decide)))
    | false =>
      have e3 : (Sc.ordered (b :: t)).2.2 = 0 := by rw [ordered_head c3]
      by_cases c4 : b = 60
      · subst c4
        have e4 := rule_head (b := 60) (t := t) (by decide) (by decide) (by decide)
        rcases Nat.eq_zero_or_pos (htmlStart (60 :: t)) with h | h
        · exact .none e1 e2 e3 e4 h
        · exact .html e1 e2 e3 e4 h (bullet_head (by decide) (by decide) (by decide)) (setext_one (by decide))
      have e5 := html_head (t := t) c4
      cases h : Sc.rule (b :: t) with
      | false => exact .none e1 e2 e3 h e5
      | true =>
        refine .rule e1 e2 e3 h e5 ?_
        by_cases c5 : b = 61
        · subst c5; rw [rule_head (by decide) (by decide) (by decide)] at h; cases h
        · exact setext_one c5
end Sc
end Go.Proofs.YtokhibghnpcogaaGreatDoor
