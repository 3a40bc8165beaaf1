/- The plain law of ScanEnds: a tag is its own bytes. No program in sight. -/
import Derived.Test.YtokhibghnpcogaaDoorSc
set_option linter.unusedVariables false
set_option linter.unusedSimpArgs false
set_option maxRecDepth 100000
namespace Go.Proofs.YtokhibghnpcogaaDoor
namespace Sc
/-- Some byte of it is not white. -/
def Inked (y : List UInt8) : Prop := y.dropWhile white ≠ []
theorem Inked.ne {y : List UInt8} (h : Inked y) : y ≠ [] := by rintro rfl; exact h rfl
theorem Inked.more {y : List UInt8} (h : Inked y) (a : List UInt8) : Inked (a ++ y) := by
  unfold Inked at *
  rw [List.dropWhile_append]
  cases e : a.dropWhile white with
  | nil => simpa using h
  | cons b t => simp
theorem loc_dropWhile {p : UInt8 → Bool} {x m y : List UInt8} (h : (x ++ m).dropWhile p = y ++ m) (hy : y ≠ []) (m' : List UInt8) : (x ++ m').dropWhile p = y ++ m' := by
  rw [List.dropWhile_append] at h ⊢
  cases e : (x.dropWhile p) with
  | nil =>
    rw [e] at h
    have := len_dropWhile (p := p) m
    simp at h
    rw [h] at this
    cases y with
    | nil => exact absurd rfl hy
    | cons b t => simp at this; omega
  | cons b t =>
    rw [e] at h
    simp only [List.isEmpty_cons, Bool.false_eq_true, if_false] at h ⊢
    rw [List.append_cancel_right h]
theorem suf_behind {c : UInt8} : ∀ {l r : List UInt8}, behind c l = some r → r <:+ l
  | [], _, h => by simp [behind] at h
  | b :: t, r, h => by
    simp only [behind] at h
    split at h
    · cases h; exact List.suffix_cons _ _
    · exact (suf_behind h).trans (List.suffix_cons _ _)
theorem loc_behind {c : UInt8} {m y : List UInt8} : ∀ {x : List UInt8}, behind c (x ++ m) = some (y ++ m) → ∀ m', behind c (x ++ m') = some (y ++ m')
  | [], h, m' => by have := behind_len h; simp at this; omega
  | b :: t, h, m' => by
    simp only [List.cons_append, behind] at h ⊢
    split at h
    · rename_i hb; rw [if_pos hb]; rw [List.append_cancel_right (Option.some.inj h)]
    · rename_i hb; rw [if_neg hb]; exact loc_behind h m'
theorem suf_value {l r : List UInt8} (h : value l = some r) : r <:+ l := by
  cases l with
  | nil => simp [value] at h
  | cons b t =>
    simp only [value] at h
    split at h
    · exact (suf_behind h).trans (List.suffix_cons _ _)
    · split at h
      · exact (suf_behind h).trans (List.suffix_cons _ _)
      · split at h
        · cases h; exact (List.dropWhile_suffix _).trans (List.suffix_cons _ _)
        · cases h
theorem loc_value {x m y : List UInt8} (h : value (x ++ m) = some (y ++ m)) (hy : y ≠ []) (m' : List UInt8) : value (x ++ m') = some (y ++ m') := by
  cases x with
  | nil => have := value_len h; simp at this; omega
  | cons b t =>
    simp only [List.cons_append, value] at h ⊢
    split at h
    · rename_i hb; rw [if_pos hb]; exact loc_behind h m'
    · rename_i hb; rw [if_neg hb]
      split at h
      · rename_i hc; rw [if_pos hc]; exact loc_behind h m'
      · rename_i hc; rw [if_neg hc]
        split at h
        · rename_i hd; rw [if_pos hd, loc_dropWhile (Option.some.inj h) hy m']
        · cases h
theorem suf_attr {l r : List UInt8} (h : attr l = some (some r)) : r <:+ l := by
  cases l with
  | nil => simp [attr] at h
  | cons w l' =>
    simp only [attr] at h
    split at h
    · refine List.IsSuffix.trans ?_ (List.dropWhile_suffix white)
      cases e : (w :: l').dropWhile white with
      | nil => rw [e] at h; simp [attrAt] at h
      | cons b t =>
        rw [e] at h
        refine List.IsSuffix.trans ?_ (List.suffix_cons _ _)
        simp only [attrAt] at h
        split at h
        · have h1 : (t.dropWhile later) <:+ t := List.dropWhile_suffix _
          refine List.IsSuffix.trans ?_ h1
          cases e2 : (t.dropWhile later).dropWhile white with
          | nil => rw [e2] at h; simp only [attrRest] at h; rw [← Option.some.inj (Option.some.inj h)]; exact List.suffix_refl _
          | cons e3 v =>
            rw [e2] at h
            simp only [attrRest] at h
            split at h
            · refine List.IsSuffix.trans ?_ (List.dropWhile_suffix white)
              rw [e2]
              exact (suf_value (Option.some.inj h)).trans ((List.dropWhile_suffix _).trans (List.suffix_cons _ _))
            · rw [← Option.some.inj (Option.some.inj h)]; exact List.suffix_refl _
        · cases h
    · cases h
theorem suf_split {y m r : List UInt8} (h : y ++ m <:+ r) : ∃ a, r = (a ++ y) ++ m := by
  obtain ⟨a, rfl⟩ := h; exact ⟨a, by simp⟩
theorem inked_head {x : List UInt8} (h : Inked x) (m : List UInt8) : ∃ b t, x.dropWhile white = b :: t ∧ (x ++ m).dropWhile white = b :: (t ++ m) := by
  unfold Inked at h
  cases e : x.dropWhile white with
  | nil => exact absurd e h
  | cons b t => refine ⟨b, t, rfl, ?_⟩; rw [List.dropWhile_append, e]; rfl
theorem loc_attr_none {x m : List UInt8} (hx : Inked x) (h : attr (x ++ m) = none) (m' : List UInt8) : attr (x ++ m') = none := by
  obtain ⟨b, t, hb, h1⟩ := inked_head hx m
  obtain ⟨b', t', hb', h2⟩ := inked_head hx m'
  rw [hb] at hb'; cases hb'
  cases x with
  | nil => exact absurd rfl hx.ne
  | cons w x' =>
    simp only [List.cons_append, attr] at h h1 h2 ⊢
    rw [h1] at h; rw [h2]
    split at h
    · rename_i hw; rw [if_pos hw]
      simp only [attrAt] at h ⊢
      split at h
      · rename_i hf
        exfalso
        cases e2 : ((t ++ m).dropWhile later).dropWhile white with
        | nil => rw [e2] at h; simp [attrRest] at h
        | cons e3 v => rw [e2] at h; simp only [attrRest] at h; split at h <;> cases h
      · rename_i hf; rw [if_neg hf]
    · rename_i hw; rw [if_neg hw]
theorem loc_attr {x m y : List UInt8} (h : attr (x ++ m) = some (some (y ++ m))) (hy : Inked y) (m' : List UInt8) : attr (x ++ m') = some (some (y ++ m')) := by
  cases x with
  | nil => have := attr_len h; simp at this; omega
  | cons w x' =>
    simp only [List.cons_append, attr] at h ⊢
    split at h
    · rename_i hw; rw [if_pos hw]
      cases e : (w :: (x' ++ m)).dropWhile white with
      | nil => rw [e] at h; simp [attrAt] at h
      | cons b t =>
        rw [e] at h
        simp only [attrAt] at h
        split at h
        · rename_i hf
          -- what is left behind the name
          have key : ∃ z, t.dropWhile later = z ++ m ∧ z ≠ [] ∧ ((z = y ∧ (∀ e3 v, (z ++ m).dropWhile white = e3 :: v → e3 ≠ 61)) ∨ (∃ u v, (z ++ m).dropWhile white = 61 :: u ∧ u.dropWhile white = v ++ m ∧ v ≠ [] ∧ value (v ++ m) = some (y ++ m))) := by
            cases e2 : (t.dropWhile later).dropWhile white with
            | nil =>
              rw [e2] at h; simp only [attrRest] at h
              have h' := Option.some.inj (Option.some.inj h)
              refine ⟨y, h', hy.ne, .inl ⟨rfl, ?_⟩⟩
              rw [← h', e2]; intro e3 v h; cases h
            | cons e3 v =>
              rw [e2] at h
              simp only [attrRest] at h
              split at h
              · rename_i h61
                subst h61
                have hv := Option.some.inj h
                obtain ⟨a, ha⟩ := suf_split (suf_value hv)
                have hs : (a ++ y) ++ m <:+ t.dropWhile later := by
                  rw [← ha]; exact (List.dropWhile_suffix _).trans ((List.suffix_cons _ _).trans (e2 ▸ List.dropWhile_suffix white))
                obtain ⟨c, hc⟩ := suf_split hs
                refine ⟨c ++ (a ++ y), hc, by simp [hy.ne], .inr ⟨v, a ++ y, by rw [← hc, e2], ha, by simp [hy.ne], by rw [← ha]; exact hv⟩⟩
              · rename_i h61
                have h' := Option.some.inj (Option.some.inj h)
                refine ⟨y, h', hy.ne, .inl ⟨rfl, ?_⟩⟩
                rw [← h', e2]; intro e4 v4 h; cases h; exact h61
          obtain ⟨z, hz, hzn, K⟩ := key
          have hs : z ++ m <:+ t := hz ▸ List.dropWhile_suffix later
          obtain ⟨a, ha⟩ := suf_split hs
          subst ha
          have e' : (w :: x' ++ m).dropWhile white = (b :: (a ++ z)) ++ m := by simpa using e
          have f := loc_dropWhile e' (by simp) m'
          have f' : (w :: (x' ++ m')).dropWhile white = b :: ((a ++ z) ++ m') := by simpa using f
          rw [f']
          simp only [attrAt]
          rw [if_pos hf, loc_dropWhile hz hzn m']
          rcases K with ⟨rfl, K⟩ | ⟨u, v, k1, k2, k3, k4⟩
          · obtain ⟨b2, t2, hb2, h1⟩ := inked_head hy m
            obtain ⟨b3, t3, hb3, h2⟩ := inked_head hy m'
            rw [hb2] at hb3; cases hb3
            rw [h2]; simp only [attrRest]; rw [if_neg (K _ _ h1)]
          · obtain ⟨c, hc⟩ := suf_split (k2 ▸ List.dropWhile_suffix white : v ++ m <:+ u)
            subst hc
            have k1' : (z ++ m).dropWhile white = (61 :: (c ++ v)) ++ m := by simpa using k1
            have g := loc_dropWhile k1' (by simp) m'
            rw [g]
            simp only [List.cons_append, attrRest, if_true]
            rw [loc_dropWhile k2 k3 m', loc_value k4 hy.ne m']
        · cases h
    · cases h
theorem suf_attrs : ∀ (n : Nat) {l r : List UInt8}, attrs n l = some r → r <:+ l
  | 0, _, _, h => by cases h
  | n + 1, l, r, h => by
    simp only [attrs] at h
    split at h
    · cases h; exact List.suffix_refl _
    · cases h
    · rename_i q hq; exact (suf_attrs n h).trans (suf_attr hq)
theorem loc_attrs : ∀ (n : Nat) {x m y : List UInt8}, attrs n (x ++ m) = some (y ++ m) → Inked y → ∀ m', attrs n (x ++ m') = some (y ++ m')
  | 0, _, _, _, h, _, _ => by cases h
  | n + 1, x, m, y, h, hy, m' => by
    simp only [attrs] at h ⊢
    split at h
    · rename_i ha
      obtain rfl := List.append_cancel_right (Option.some.inj h)
      rw [loc_attr_none hy ha m']
    · cases h
    · rename_i q hq
      obtain ⟨a, rfl⟩ := suf_split (suf_attrs n h)
      rw [loc_attr hq (hy.more a) m']
      exact loc_attrs n h hy m'
theorem suf_body {c : Bool} {q r : List UInt8} (h : tagBody c q = some r) : r <:+ q := by
  unfold tagBody at h
  split at h
  · cases h; exact List.suffix_refl _
  · exact suf_attrs _ h
theorem loc_body {c : Bool} {x m y : List UInt8} (h : tagBody c (x ++ m) = some (y ++ m)) (hy : Inked y) (m' : List UInt8) : tagBody c (x ++ m') = some (y ++ m') := by
  unfold tagBody at *
  split at h
  · rename_i hc; rw [if_pos hc, List.append_cancel_right (Option.some.inj h)]
  · rename_i hc
    rw [if_neg hc]
    rw [← attrs_more ((x ++ m).length + m'.length + 1) _ (by omega)] at h
    rw [← attrs_more ((x ++ m).length + m'.length + 1) _ (by simp; omega)]
    exact loc_attrs _ h hy m'
theorem suf_sign (c : UInt8) (l : List UInt8) : (sign c l).2 <:+ l := by
  cases l with
  | nil => exact List.suffix_refl _
  | cons b t =>
    simp only [sign]
    split
    · exact List.suffix_cons _ _
    · exact List.suffix_refl _
/-- A sign in front of what is left: the byte was there. -/
theorem loc_sign {c : UInt8} {x m y : List UInt8} {b : Bool} (h : sign c (x ++ m) = (b, y ++ m)) (hx : x ≠ []) (m' : List UInt8) : sign c (x ++ m') = (b, y ++ m') := by
  cases x with
  | nil => exact absurd rfl hx
  | cons d t =>
    simp only [List.cons_append, sign] at h ⊢
    split at h
    · rename_i hd; rw [if_pos hd]; obtain ⟨h1, h2⟩ := Prod.mk.inj h; rw [List.append_cancel_right h2, h1]
    · rename_i hd; rw [if_neg hd]; obtain ⟨h1, h2⟩ := Prod.mk.inj h
      have h3 : (d :: t) ++ m = y ++ m := h2
      obtain rfl := List.append_cancel_right h3
      rw [h1]; rfl
theorem suf_named (l : List UInt8) : (named l).2 <:+ l := by
  cases l with
  | nil => exact List.suffix_refl _
  | cons b t =>
    simp only [named]
    split
    · exact (List.dropWhile_suffix _).trans (List.suffix_cons _ _)
    · exact List.suffix_refl _
theorem loc_named {x m y : List UInt8} (h : (named (x ++ m)).2 = y ++ m) (h1 : (named (x ++ m)).1 ≠ []) (hy : y ≠ []) (m' : List UInt8) : (named (x ++ m')).2 = y ++ m' ∧ (named (x ++ m')).1 ≠ [] ∧ y.length < x.length := by
  cases x with
  | nil =>
    have := (suf_named m).length_le
    rw [show [] ++ m = m from rfl] at h
    rw [h] at this
    cases y with
    | nil => exact absurd rfl hy
    | cons b t => simp at this; omega
  | cons b t =>
    simp only [List.cons_append, named] at h h1 ⊢
    split at h
    · rename_i hb
      rw [if_pos hb]
      have h2 : (t ++ m).dropWhile nameByte = y ++ m := h
      have h3 := loc_dropWhile h2 hy m'
      have h4 := len_dropWhile (p := nameByte) (t ++ m)
      rw [h2] at h4
      simp at h4
      exact ⟨h3, by simp, by simp; omega⟩
    · rename_i hb
      rw [if_neg hb] at h1
      exact absurd rfl h1
/-- A tag's end: its sign, and what is left. -/
theorem end_some {c : Bool} {r z : List UInt8} (h : tagEnd c r = some z) : 62 :: z <:+ r.dropWhile white ∧ (c = true → r.dropWhile white = 62 :: z) ∧ (c = false → r.dropWhile white = 62 :: z ∨ r.dropWhile white = 47 :: 62 :: z) := by
  unfold tagEnd at h
  have key : ∀ d : List UInt8, (if (sign 62 d).1 = true then some (sign 62 d).2 else none) = some z → d = 62 :: z := by
    intro d hd
    cases d with
    | nil => simp [sign] at hd
    | cons b t =>
      by_cases hb : b = 62
      · subst hb; rw [show sign 62 (62 :: t) = (true, t) from rfl] at hd; simpa using hd
      · have e : sign 62 (b :: t) = (false, b :: t) := by simp [sign, hb]
        rw [e] at hd; simp at hd
  have h := key _ h
  cases c with
  | true =>
    simp only [if_true] at h
    rw [h]
    exact ⟨List.suffix_refl _, fun _ => rfl, (fun h => by cases h)⟩
  | false =>
    simp only [Bool.false_eq_true, if_false] at h
    cases e : r.dropWhile white with
    | nil => rw [e] at h; simp [sign] at h
    | cons b t =>
      rw [e] at h
      simp only [sign] at h
      by_cases hb : b = 47
      · rw [if_pos hb] at h
        have h : t = 62 :: z := h
        subst hb h
        exact ⟨List.suffix_cons _ _, (fun h => by cases h), fun _ => .inr rfl⟩
      · rw [if_neg hb] at h
        have h : b :: t = 62 :: z := h
        rw [h]
        exact ⟨List.suffix_refl _, (fun h => by cases h), fun _ => .inl rfl⟩
theorem end_of {c : Bool} {r z : List UInt8} (h : r.dropWhile white = 62 :: z ∨ (c = false ∧ r.dropWhile white = 47 :: 62 :: z)) : tagEnd c r = some z := by
  unfold tagEnd
  rcases h with h | ⟨rfl, h⟩
  · rw [h]; cases c <;> simp [sign]
  · rw [h]; simp [sign]
theorem suf_end {c : Bool} {r z : List UInt8} (h : tagEnd c r = some z) : 62 :: z <:+ r := (end_some h).1.trans (List.dropWhile_suffix _)
theorem loc_end {c : Bool} {x m y : List UInt8} (h : tagEnd c (x ++ m) = some (y ++ m)) (m' : List UInt8) : tagEnd c (x ++ m') = some (y ++ m') ∧ Inked x := by
  obtain ⟨h1, h2, h3⟩ := end_some h
  have hi : ∀ d, (x ++ m).dropWhile white = d ++ m → d ≠ [] → (x ++ m').dropWhile white = d ++ m' ∧ Inked x := by
    intro d hd hn
    refine ⟨loc_dropWhile hd hn m', ?_⟩
    intro hx
    rw [List.dropWhile_append, hx] at hd
    simp at hd
    have := len_dropWhile (p := white) m
    rw [hd] at this
    cases d with
    | nil => exact hn rfl
    | cons b t => simp at this; omega
  have : (x ++ m).dropWhile white = 62 :: (y ++ m) ∨ (c = false ∧ (x ++ m).dropWhile white = 47 :: 62 :: (y ++ m)) := by
    cases c with
    | true => exact .inl (h2 rfl)
    | false => rcases h3 rfl with h | h; exact .inl h; exact .inr ⟨rfl, h⟩
  rcases this with h | ⟨hc, h⟩
  · obtain ⟨k1, k2⟩ := hi (62 :: y) (by simpa using h) (by simp)
    exact ⟨end_of (.inl (by simpa using k1)), k2⟩
  · obtain ⟨k1, k2⟩ := hi (47 :: 62 :: y) (by simpa using h) (by simp)
    exact ⟨end_of (.inr ⟨hc, by simpa using k1⟩), k2⟩
/-- A TAG IS ITS OWN BYTES: what stands behind it says nothing. -/
theorem rest_some {l r : List UInt8} (h : tagRest l = some r) : ∃ p, l = p ++ r ∧ 3 ≤ p.length ∧ p.head? = some 60 ∧ (∃ a, p = a ++ [62]) ∧ ∀ m, tagRest (p ++ m) = some m := by
  unfold tagRest at h
  cases l with
  | nil => simp [sign] at h
  | cons b q =>
  have hb : b = 60 := by
    by_cases hb : b = 60
    · exact hb
    · rw [show sign 60 (b :: q) = (false, b :: q) by simp [sign, hb]] at h; simp at h
  subst hb
  have e1 : ∀ q : List UInt8, sign 60 (60 :: q) = (true, q) := fun q => by simp [sign]
  rw [e1] at h
  simp only [Bool.not_true, Bool.false_eq_true, if_false] at h
  split at h
  · cases h
  rename_i hn
  obtain ⟨r2, hr2, hr3⟩ := Option.bind_eq_some_iff.mp h
  -- the chain of what is left, from the end to the beginning
  have s3 := suf_end hr3
  have s2 := suf_body hr2
  have s1 := suf_named (sign 47 q).2
  have s0 := suf_sign 47 q
  obtain ⟨a3, ha3⟩ := suf_split (y := [62]) (m := r) (r := r2) (by simpa using s3)
  rw [ha3] at hr2 hr3 s2
  obtain ⟨a2, ha2⟩ := suf_split s2
  rw [ha2] at hr2 s1
  obtain ⟨a1, ha1⟩ := suf_split s1
  rw [ha1] at ha2 s0 hn
  obtain ⟨a0, ha0⟩ := suf_split s0
  subst ha0
  have A3 := fun m => loc_end (x := a3 ++ [62]) (m := r) (y := []) hr3 m
  have A2 := fun m => loc_body hr2 (A3 []).2 m
  have A1 := fun m => loc_named ha2 hn (by simp) m
  have A0 := fun m => loc_sign (b := (sign 47 ((a0 ++ (a1 ++ (a2 ++ (a3 ++ [62])))) ++ r)).1) (Prod.ext rfl ha1) (by simp) m
  refine ⟨60 :: (a0 ++ (a1 ++ (a2 ++ (a3 ++ [62])))), by simp, ?_, rfl, ⟨60 :: (a0 ++ (a1 ++ (a2 ++ a3))), by simp⟩, ?_⟩
  · have := (A1 []).2.2
    simp at this
    simp
    omega
  · intro m
    unfold tagRest
    rw [List.cons_append, e1]
    simp only [Bool.not_true, Bool.false_eq_true, if_false]
    rw [A0 m]
    simp only
    rw [if_neg (A1 m).2.1, (A1 m).1, A2 m]
    simpa using (A3 m).1
/-- THE LAW 'ScanEnds', in plain lists. -/
theorem ends_law {l : List UInt8} (h : tag l ≠ 0) : 3 ≤ tag l ∧ tag l ≤ l.length ∧ l.head? = some 60 ∧ l[tag l - 1]? = some 62 ∧ (∀ m, tag (l.take (tag l) ++ m) = tag l) ∧ tag (l.take (tag l - 1)) = 0 := by
  have hT : ∃ r, tagRest l = some r ∧ tag l = l.length - r.length := by
    unfold tag at h ⊢
    cases e : tagRest l with
    | none => rw [e] at h; exact absurd rfl h
    | some r => exact ⟨r, rfl, rfl⟩
  obtain ⟨r, hr, ht⟩ := hT
  obtain ⟨p, rfl, h3, h60, ⟨a, rfl⟩, hE⟩ := rest_some hr
  have ht : tag ((a ++ [62]) ++ r) = a.length + 1 := by rw [ht]; simp; omega
  rw [ht]
  have hp : ∀ m, tag ((a ++ [62]) ++ m) = a.length + 1 := fun m => by unfold tag; rw [hE m]; simp; omega
  have hl : (a ++ [62]).length = a.length + 1 := by simp
  have hk : ((a ++ [62]) ++ r).take (a.length + 1) = a ++ [62] := by rw [← hl, List.take_left]
  have hk0 : ((a ++ [62]) ++ r).take a.length = a := by rw [List.append_assoc, List.take_left]
  refine ⟨by omega, by simp, ?_, ?_, ?_, ?_⟩
  · cases a with
    | nil => simp at h3
    | cons b t => simpa using h60
  · simp
  · intro m; rw [hk]; exact hp m
  · rw [Nat.add_sub_cancel, hk0]
    unfold tag
    cases e : tagRest a with
    | none => rfl
    | some z =>
      obtain ⟨p, rfl, _, _, _, hE'⟩ := rest_some e
      have h1 := hE' (z ++ [62])
      have h2 := hE []
      rw [List.append_nil, List.append_assoc] at h2
      rw [h1] at h2
      simp at h2
end Sc
end Go.Proofs.YtokhibghnpcogaaDoor
