/- The scan layer in plain Lean: what each function of package scan (and of its reference) answers, on lists of bytes. No program in sight. -/
import GoSem.Core.Utf8
import Derived.Lib.SpaceU
import Derived.Lib.SlTrimSet
namespace Go.Proofs.YtokhibghnpcogaaGreatDoor
namespace Sc

def blank (b : UInt8) : Bool := b == 32 || b == 9
def white (b : UInt8) : Bool := b == 32 || b == 9 || b == 10
def letter (b : UInt8) : Bool := (decide (97 ≤ b.toNat) && decide (b.toNat ≤ 122)) || (decide (65 ≤ b.toNat) && decide (b.toNat ≤ 90))
def digit (b : UInt8) : Bool := decide (48 ≤ b.toNat) && decide (b.toNat ≤ 57)
def ends : List UInt8 → Bool
  | [] => true
  | b :: _ => blank b
def run (c : UInt8) : List UInt8 → Nat
  | [] => 0
  | b :: t => if b = c then run c t + 1 else 0
def nameByte (b : UInt8) : Bool := letter b || digit b || b == 45
def named : List UInt8 → List UInt8 × List UInt8
  | [] => ([], [])
  | b :: t => if letter b then (b :: t.takeWhile nameByte, t.dropWhile nameByte) else ([], b :: t)
def first (b : UInt8) : Bool := letter b || b == 95 || b == 58
def later (b : UInt8) : Bool := first b || digit b || b == 46 || b == 45
def bare (b : UInt8) : Bool := !([32, 9, 10, 34, 39, 61, 60, 62, 96] : List UInt8).contains b
/-- What is left behind the first c; none: c is not there. -/
def behind (c : UInt8) : List UInt8 → Option (List UInt8)
  | [] => none
  | b :: t => if b = c then some t else behind c t
/-- What is left behind an attribute's value. -/
def value : List UInt8 → Option (List UInt8)
  | [] => none
  | b :: t => if b = 34 then behind 34 t else if b = 39 then behind 39 t else if bare b then some (t.dropWhile bare) else none
def attrRest (r u : List UInt8) : Option (Option (List UInt8)) :=
  match u with
  | [] => some (some r)
  | e :: v => if e = 61 then some (value (v.dropWhile white)) else some (some r)
def attrAt (d : List UInt8) : Option (Option (List UInt8)) :=
  match d with
  | [] => none
  | b :: t => if first b then attrRest (t.dropWhile later) ((t.dropWhile later).dropWhile white) else none
/-- An attribute: none: there is none; some none: it can't be ended. -/
def attr (l : List UInt8) : Option (Option (List UInt8)) :=
  match l with
  | [] => none
  | w :: _ => if white w then attrAt (l.dropWhile white) else none
def attrs : Nat → List UInt8 → Option (List UInt8)
  | 0, _ => none
  | n + 1, l =>
    match attr l with
    | none => some l
    | some none => none
    | some (some r) => attrs n r
def sign (c : UInt8) : List UInt8 → Bool × List UInt8
  | [] => (false, [])
  | b :: t => if b = c then (true, t) else (false, b :: t)
/-- What is left behind a tag's name, and its attributes. -/
def tagBody (closing : Bool) (q : List UInt8) : Option (List UInt8) := if closing then some q else attrs (q.length + 1) q
def tagEnd (closing : Bool) (r : List UInt8) : Option (List UInt8) :=
  let c := sign 62 (if closing then r.dropWhile white else (sign 47 (r.dropWhile white)).2)
  if c.1 then some c.2 else none
/-- What is left behind a tag. -/
def tagRest (l : List UInt8) : Option (List UInt8) :=
  if !(sign 60 l).1 then none
  else if (named (sign 47 (sign 60 l).2).2).1 = [] then none
  else (tagBody (sign 47 (sign 60 l).2).1 (named (sign 47 (sign 60 l).2).2).2).bind (tagEnd (sign 47 (sign 60 l).2).1)
def tag (l : List UInt8) : Nat :=
  match tagRest l with
  | none => 0
  | some r => l.length - r.length

/-! ### small facts -/
theorem len_dropWhile {p : UInt8 → Bool} : ∀ l : List UInt8, (l.dropWhile p).length ≤ l.length
  | [] => by simp
  | b :: t => by
    rw [List.dropWhile_cons]
    split
    · have := len_dropWhile (p := p) t; simp; omega
    · simp
theorem behind_len {c : UInt8} : ∀ {l r : List UInt8}, behind c l = some r → r.length < l.length
  | [], _, h => by simp [behind] at h
  | b :: t, r, h => by
    simp only [behind] at h
    split at h
    · cases h; simp
    · have := behind_len h; simp; omega
theorem value_len {l r : List UInt8} (h : value l = some r) : r.length < l.length := by
  cases l with
  | nil => simp [value] at h
  | cons b t =>
    simp only [value] at h
    split at h
    · have := behind_len h; simp; omega
    · split at h
      · have := behind_len h; simp; omega
      · split at h
        · cases h; have := len_dropWhile (p := bare) t; simp; omega
        · cases h
theorem attrRest_len {r u x : List UInt8} {n : Nat} (hr : r.length < n) (hu : u.length < n) (h : attrRest r u = some (some x)) : x.length < n := by
  cases u with
  | nil => simp [attrRest] at h; rw [← h]; exact hr
  | cons e v =>
    simp only [attrRest] at h
    have h3 := len_dropWhile (p := white) v
    simp only [List.length_cons] at hu
    split at h
    · have := value_len (Option.some.inj h); omega
    · simp at h; rw [← h]; exact hr
theorem attr_len {l r : List UInt8} (h : attr l = some (some r)) : r.length < l.length := by
  cases l with
  | nil => simp [attr] at h
  | cons w l' =>
    simp only [attr] at h
    split at h
    · have h0 := len_dropWhile (p := white) (w :: l')
      cases e : (w :: l').dropWhile white with
      | nil => rw [e] at h; simp [attrAt] at h
      | cons b t =>
        rw [e] at h h0
        simp only [List.length_cons] at h0
        have h1 := len_dropWhile (p := later) t
        have h2 := len_dropWhile (p := white) (t.dropWhile later)
        simp only [attrAt] at h
        split at h
        · exact attrRest_len (by simp; omega) (by simp; omega) h
        · cases h
    · cases h
/-- More rounds than there are bytes: the same. -/
theorem attrs_more : ∀ (n : Nat) (l : List UInt8), l.length < n → attrs n l = attrs (l.length + 1) l
  | 0, l, h => by omega
  | n + 1, l, h => by
    cases n with
    | zero => have : l.length = 0 := by omega
              rw [this]
    | succ n =>
      unfold attrs
      split
      · rfl
      · rfl
      · rename_i r hr
        have := attr_len hr
        rw [attrs_more (n + 1) r (by omega), attrs_more l.length r (by omega)]

/-- A byte of a text. -/
theorem drop_at (s : ByteArray) (k : Nat) (h : k < s.size) : s.data.toList.drop k = s[k] :: s.data.toList.drop (k + 1) := by
  rw [List.drop_eq_getElem_cons (by simpa using h)]; rfl
theorem len_size (s : ByteArray) : s.data.toList.length = s.size := by simp
theorem at_of (s : ByteArray) (k : Nat) (h : k < s.size) : s.data.toList[k]'(by simpa using h) = s[k] := rfl
/-- From k0 on up to k all bytes of s are so. -/
structure Upto (p : UInt8 → Bool) (s : ByteArray) (k0 k : Nat) : Prop where
  ge : k0 ≤ k
  le : k ≤ s.size
  tw : (s.data.toList.drop k0).takeWhile p = (s.data.toList.drop k0).take (k - k0) ++ (s.data.toList.drop k).takeWhile p
  dw : (s.data.toList.drop k0).dropWhile p = (s.data.toList.drop k).dropWhile p
theorem Upto.start {p : UInt8 → Bool} {s : ByteArray} {k0 : Nat} (h : k0 ≤ s.size) : Upto p s k0 k0 := ⟨Nat.le_refl _, h, by simp, rfl⟩
theorem Upto.step {p : UInt8 → Bool} {s : ByteArray} {k0 k : Nat} (u : Upto p s k0 k) (h : k < s.size) (hp : p s[k] = true) : Upto p s k0 (k + 1) := by
  obtain ⟨h1, h2, h3, h4⟩ := u
  have e := drop_at s k h
  refine ⟨by omega, h, ?_, ?_⟩
  · rw [h3, e, List.takeWhile_cons, if_pos hp]
    have e2 : k + 1 - k0 = (k - k0) + 1 := by omega
    have hl : k - k0 < (s.data.toList.drop k0).length := by simp; omega
    rw [e2, List.take_succ_eq_append_getElem hl, List.append_assoc]
    congr 1
    rw [List.getElem_drop]
    have e3 : s.data.toList[k0 + (k - k0)]'(by simp; omega) = s[k] := by
      have : k0 + (k - k0) = k := by omega
      simp only [this]; rfl
    rw [e3]; rfl
  · rw [h4, e, List.dropWhile_cons, if_pos hp]
theorem Upto.stop {p : UInt8 → Bool} {s : ByteArray} {k0 k : Nat} (u : Upto p s k0 k) (h : ∀ h : k < s.size, p s[k] = false) :
    (s.data.toList.drop k0).takeWhile p = (s.data.toList.drop k0).take (k - k0) ∧ (s.data.toList.drop k0).dropWhile p = s.data.toList.drop k := by
  obtain ⟨h1, h2, h3, h4⟩ := u
  by_cases hk : k < s.size
  · have e := drop_at s k hk
    have hp := h hk
    rw [e, List.takeWhile_cons, hp] at h3
    rw [e, List.dropWhile_cons, hp] at h4
    exact ⟨by simpa using h3, by rw [e]; simpa using h4⟩
  · have e : s.data.toList.drop k = [] := List.drop_eq_nil_of_le (by simp; omega)
    rw [e] at h3 h4 ⊢
    exact ⟨by simpa using h3, by simpa using h4⟩
theorem size_pos {s : ByteArray} (h : s.data.toList ≠ []) : 0 < s.size := by
  have := len_size s
  cases e : s.data.toList with
  | nil => exact absurd e h
  | cons b t => rw [e] at this; simp at this; omega
theorem head_of {s : ByteArray} (h : 0 < s.size) : s.data.toList = s[0] :: s.data.toList.drop 1 := by have := drop_at s 0 h; simpa using this
theorem take_data (s : ByteArray) (k : Nat) : (s.extract 0 k).data.toList = s.data.toList.take k := by
  obtain ⟨⟨l⟩⟩ := s
  rw [ByteArray.extract_mk]; simp
theorem drop_data (s : ByteArray) (k : Nat) : (s.extract k s.size).data.toList = s.data.toList.drop k := by
  obtain ⟨⟨l⟩⟩ := s
  rw [ByteArray.extract_mk]
  show List.take (l.length - k) (List.drop k l) = List.drop k l
  exact List.take_of_length_le (by simp)
end Sc
end Go.Proofs.YtokhibghnpcogaaGreatDoor
