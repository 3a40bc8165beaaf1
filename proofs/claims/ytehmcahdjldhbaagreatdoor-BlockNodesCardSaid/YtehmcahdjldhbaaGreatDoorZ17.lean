/- Parts of this session's proof, one behind the other: E3 E4 Shelf2 E5. -/
import Derived.Test.YtehmcahdjldhbaaGreatDoorZ16
import Derived.Shelf.Strings.Builder1
import Derived.Shelf.Strings.Builder2
import Derived.Shelf.Strings.OnBuilder
import Derived.Shelf.Strings.Trim
import Derived.Shelf.Small.Utf8
import Derived.Shelf.Small.Strs
import Derived.Shelf.Small.Wraps
import Derived.Shelf.Strings.BuilderF
import Derived.Shelf.Strings.BuilderK
import Derived.Shelf.Strings.BuilderRune
import Derived.Shelf.Utf8.AppendRune
import Derived.Shelf.Strconv.Atoi
import Derived.Shelf.Strconv.Itoa0
import Derived.Shelf.Strconv.AtoiErrFast
import Derived.Shelf.Strconv.ParseIntEmpty
import Derived.Shelf.Strconv.AtoiFail
import Derived.Shelf.LaysM
import Derived.Shelf.Strconv.Clone
import Derived.Shelf.Strconv.SyntaxError
import Derived.Shelf.LaysC
import Derived.Shelf.Strconv.ToError
import Derived.Shelf.Strconv.Lower
import Derived.Shelf.Strconv.ParseUint10
import Derived.Shelf.Strconv.ParseUint10Empty
import Derived.Shelf.Strconv.ParseUint10Any
import Derived.Shelf.Strconv.ParseInt10
import Derived.Shelf.Strconv.AtoiLong
import Derived.Shelf.Strconv.AtoiInnerAll
import Derived.Shelf.Strconv.RangeError
import Derived.Shelf.Strconv.ToErrorRange
import Derived.Shelf.Strconv.AtoiAll
import Derived.Shelf.Strconv.ParseUintEmpty
import Derived.Shelf.Strconv.ParseUint10b64
import Derived.Shelf.Strconv.ParseUint10b32
import Derived.Shelf.Strconv.ParseUint10b16
import Derived.Shelf.Strconv.ParseUint10b8
import Derived.Shelf.Strconv.ParseUint10At
import Derived.Shelf.Strconv.ParseInt10At64
import Derived.Shelf.Strconv.ParseInt10At32
import Derived.Shelf.Strconv.ParseInt10At16
import Derived.Shelf.Strconv.ParseInt10At8
import Derived.Shelf.Strconv.ParseInt10All
import Derived.Shelf.Strconv.ParseIntPublic10
import Derived.Shelf.Strconv.ErrVarParseInt
import Derived.Shelf.Strings.Search1
import Derived.Shelf.Strings.Search2
import Derived.Shelf.Strings.Search3
import Derived.Shelf.Strings.Cut
import Derived.Shelf.Strings.Count
import Derived.Shelf.Strings.Shaped
import Derived.Shelf.Strings.Prefix
import Derived.Shelf.Strings.Split
import Derived.Shelf.Strings.SplitShaped
import Derived.Shelf.Unicode.Decode
import Derived.Shelf.Strings.Runes
import Derived.Shelf.Strings.RuneCount
import Derived.Shelf.Strings.IndexAny
import Derived.Shelf.Strings.AsciiSet
import Derived.Shelf.Strings.IndexAnyAll
import Derived.Shelf.Bits.Mul64
import Derived.Shelf.Strings.Repeat
import Derived.Shelf.Unicode.DecodeSlow
import Derived.Shelf.Unicode.DecodeAny
import Derived.Shelf.Unicode.DecodeLast
import Derived.Shelf.Strings.FieldsFuncAny
import Derived.Test.YtehmcahdjldhbaaGreatDoorProg
import Derived.Test.YtehmcahdjldhbaaGreatDoorZ02
import Derived.Test.YtehmcahdjldhbaaGreatDoorZ05
section
/- Package link: each, at the closures of Title and of Dest. -/
open Go Go.RowKit
set_option linter.unusedVariables false
set_option linter.unusedSimpArgs false
set_option maxRecDepth 100000
namespace Go.Proofs.YtehmcahdjldhbaaGreatDoor
open Wk
namespace Tx
/-- Block g holds one byte. -/
structure AtB (g : Nat) (c : UInt8) (w : World) : Prop where
  blk : w.heap[g]? = some (.cells #[.int .u8 c.toNat] 5 (0, 0))
namespace AtB
variable {g : Nat} {c : UInt8} {w w' : World}
theorem lt (h : AtB g c w) : g < w.heap.size := (Array.getElem?_eq_some_iff.1 h.blk).1
theorem cell (h : AtB g c w) : w.cell? ⟨g, 0, none⟩ = some (.int .u8 c.toNat) := by simp [World.cell?, h.blk]
theorem below (h : AtB g c w) (hb : Below w.heap.size w w') : AtB g c w' := ⟨(hb.block g h.lt).trans h.blk⟩
end AtB
def stopTB (c b : UInt8) : Bool := b == c || (b == 40 && c == 41)
def stopT (c : UInt8) (u : Unit) (b : UInt8) : Option Unit := if stopTB c b then none else some ()
theorem stopT_any {g : Nat} {c : UInt8} (b : UInt8) (w : World) (h : AtB g c w) :
    Calls Tryz.prog 211 #[.int .u8 b.toNat, .pointer (some ⟨g, 0, none⟩)] w fun e w' => e = .returned (.bool (stopTB c b)) ∧ Below w.heap.size w w' := by
  have e1 : ∀ b c : UInt8, ((b.toNat : Int) == c.toNat) = (b == c) := fun b c => beq_uu b c
  have e2 : ∀ b : UInt8, ((b.toNat : Int) == 40) = (b == 40) := fun b => beq_u8 b 40 (by decide)
  have e3 : ∀ b : UInt8, ((b.toNat : Int) == 41) = (b == 41) := fun b => beq_u8 b 41 (by decide)
  have hc := h.cell
  have hp : Hid (stopTB c b = (b == c || (b == 40 && c == 41))) := Lib.hid rfl
  generalize stopTB c b = r at *
  go_enter Tryz.func211, Tryz.ntmps211
  go_wp2
  all_goals go_ret
  all_goals refine ⟨ret_bool ?_, Below.refl _ _⟩
  all_goals rw [hp.out]
  all_goals clear hp e1 e2 e3 hc h
  all_goals simp_all
/-! ### Dest -/
/-- Block g holds a truth. -/
structure AtT (g : Nat) (d : Bool) (w : World) : Prop where
  blk : w.heap[g]? = some (.cells #[.bool d] 4 (0, 0))
namespace AtT
variable {g : Nat} {d : Bool} {w w' : World}
theorem lt (h : AtT g d w) : g < w.heap.size := (Array.getElem?_eq_some_iff.1 h.blk).1
theorem cell (h : AtT g d w) : w.cell? ⟨g, 0, none⟩ = some (.bool d) := by simp [World.cell?, h.blk]
theorem free (h : AtT g d w) : w.frozen? ⟨g, 0, none⟩ = false := by simp [World.frozen?, h.blk]
theorem set (h : AtT g d w) (r : Bool) : AtT g r (w.setCell ⟨g, 0, none⟩ (.bool r)) := ⟨by simp [World.setCell, Array.getElem?_modify, h.blk]⟩
theorem far (h : AtT g d w) {p : Addr} (hp : g ≠ p.block) (u : Value) : AtT g d (w.setCell p u) := ⟨(Below.heap_setCell w p u g hp).trans h.blk⟩
theorem below (h : AtT g d w) (hb : Below w.heap.size w w') : AtT g d w' := ⟨(hb.block g h.lt).trans h.blk⟩
end AtT
/-- The two variables of Dest. -/
structure AtD (B go gd o : Nat) (d : Bool) (w : World) : Prop where
  ao : Bk.AtI go o w
  ad : AtT gd d w
  b1 : B ≤ go
  b2 : B ≤ gd
  ne : go ≠ gd
theorem AtD.below {B go gd o : Nat} {d : Bool} {w w' : World} (h : AtD B go gd o d w) (hb : Below w.heap.size w w') : AtD B go gd o d w' := { h with ao := h.ao.below hb, ad := h.ad.below hb }
def stopD (s : Nat × Bool) (b : UInt8) : Option (Nat × Bool) :=
  if b.toNat ≤ 32 ∨ b = 127 ∨ (b = 41 ∧ s.1 = 0) then none
  else if b = 41 then some (s.1 - 1, s.2) else if b = 40 then some (s.1 + 1, s.2 || decide (32 < s.1 + 1)) else some s
def DPost (B go gd : Nat) (s : Nat × Bool) (b : UInt8) (w : World) (e : Ending) (w' : World) : Prop :=
  e = .returned (.bool (stopD s b).isNone) ∧ AtD B go gd ((stopD s b).getD s).1 ((stopD s b).getD s).2 w' ∧ Below B w w'
theorem stopD_any {B go gd o : Nat} {d : Bool} (b : UInt8) (w : World) (h : AtD B go gd o d w) (ho : o ≤ 4000000000) :
    Calls Tryz.prog 185 #[.int .u8 b.toNat, .pointer (some ⟨go, 0, none⟩), .pointer (some ⟨gd, 0, none⟩)] w (DPost B go gd (o, d) b w) := by
  have e1 : ∀ b : UInt8, ((b.toNat : Int) == 127) = (b == 127) := fun b => beq_u8 b 127 (by decide)
  have e2 : ∀ b : UInt8, ((b.toNat : Int) == 40) = (b == 40) := fun b => beq_u8 b 40 (by decide)
  have e3 : ∀ b : UInt8, ((b.toNat : Int) == 41) = (b == 41) := fun b => beq_u8 b 41 (by decide)
  have h1 := h.ao.cell
  have h2 := h.ao.free
  have h3 := h.ad.cell
  have h4 := h.ad.free
  have hne := h.ne
  unfold DPost
  by_cases q1 : b.toNat ≤ 32
  · have S : stopD (o, d) b = none := by unfold stopD; rw [if_pos (.inl q1)]
    rw [S]
    have q : decide ((b.toNat : Int) ≤ 32) = true := by rw [decide_eq_true_iff]; omega
    clear S
    go_enter Tryz.func185, Tryz.ntmps185
    go_wp2
    go_ret
    exact ⟨rfl, h, Below.refl _ _⟩
  have q : decide ((b.toNat : Int) ≤ 32) = false := by rw [decide_eq_false_iff_not]; omega
  by_cases q2 : b = 127
  · have S : stopD (o, d) b = none := by unfold stopD; rw [if_pos (.inr (.inl q2))]
    rw [S]
    have q3 : (b == 127) = true := by simpa using q2
    clear S q2
    go_enter Tryz.func185, Tryz.ntmps185
    go_wp2
    go_ret
    exact ⟨rfl, h, Below.refl _ _⟩
  have q3 : (b == 127) = false := by simpa using q2
  by_cases q4 : b = 41
  · have q5 : (b == 41) = true := by simpa using q4
    by_cases q6 : o = 0
    · have S : stopD (o, d) b = none := by unfold stopD; rw [if_pos (.inr (.inr ⟨q4, q6⟩))]
      rw [S]
      have q7 : ((o : Int) == 0) = true := by simpa using q6
      clear S q2 q4
      go_enter Tryz.func185, Tryz.ntmps185
      go_wp2
      go_ret
      exact ⟨rfl, h, Below.refl _ _⟩
    · have S : stopD (o, d) b = some (o - 1, d) := by unfold stopD; rw [if_neg (by rintro (x | x | x); exact q1 x; exact q2 x; exact q6 x.2), if_pos q4]
      rw [S]
      have q7 : ((o : Int) == 0) = false := by rw [beq_eq_false_iff_ne]; omega
      have ec : Hid (((o : Int) - 1) = ((o - 1 : Nat) : Int)) := by apply Lib.hid; omega
      clear S q2 q4
      go_enter Tryz.func185, Tryz.ntmps185
      go_wp2
      go_ret
      refine ⟨rfl, ?_, (Below.refl B w).setCell h.b1 _⟩
      first
        | exact ⟨h.ao.set (o - 1), h.ad.far hne.symm _, h.b1, h.b2, hne⟩
        | (rw [ec.out]; exact ⟨h.ao.set (o - 1), h.ad.far hne.symm _, h.b1, h.b2, hne⟩)
  have q5 : (b == 41) = false := by simpa using q4
  have hno : ¬ (b.toNat ≤ 32 ∨ b = 127 ∨ (b = 41 ∧ (o, d).1 = 0)) := by rintro (x | x | x); exact q1 x; exact q2 x; exact q4 x.1
  by_cases q6 : b = 40
  · have S : stopD (o, d) b = some (o + 1, d || decide (32 < o + 1)) := by unfold stopD; rw [if_neg hno, if_neg q4, if_pos q6]
    rw [S]
    have q7 : (b == 40) = true := by simpa using q6
    have hd : Hid ((d || decide (32 < o + 1)) = (d || decide (32 < o + 1))) := Lib.hid rfl
    clear S q2 q4 q6 hno
    by_cases q8 : 32 < o + 1
    · have q9 : decide ((32 : Int) < (o : Int) + 1) = true := by rw [decide_eq_true_iff]; omega
      have e9 : (d || decide (32 < o + 1)) = true := by simp [q8]
      show Calls _ _ _ _ fun e w' => _ ∧ AtD B go gd (o + 1) (d || decide (32 < o + 1)) w' ∧ _
      rw [e9]
      clear e9 hd
      go_enter Tryz.func185, Tryz.ntmps185
      cases d
      · go_wp2
        go_ret
        refine ⟨rfl, ?_, ((Below.refl B w).setCell h.b1 _).setCell h.b2 _⟩
        exact ⟨(h.ao.set (o + 1)).far hne _, (h.ad.far hne.symm _).set true, h.b1, h.b2, hne⟩
      · go_wp2
        go_ret
        refine ⟨rfl, ?_, ((Below.refl B w).setCell h.b1 _).setCell h.b2 _⟩
        exact ⟨(h.ao.set (o + 1)).far hne _, (h.ad.far hne.symm _).set true, h.b1, h.b2, hne⟩
    · have q9 : decide ((32 : Int) < (o : Int) + 1) = false := by rw [decide_eq_false_iff_not]; omega
      have e9 : (d || decide (32 < o + 1)) = d := by simp [q8]
      show Calls _ _ _ _ fun e w' => _ ∧ AtD B go gd (o + 1) (d || decide (32 < o + 1)) w' ∧ _
      rw [e9]
      clear e9 hd
      go_enter Tryz.func185, Tryz.ntmps185
      cases d
      · go_wp2
        go_ret
        refine ⟨rfl, ?_, ((Below.refl B w).setCell h.b1 _).setCell h.b2 _⟩
        exact ⟨(h.ao.set (o + 1)).far hne _, (h.ad.far hne.symm _).set false, h.b1, h.b2, hne⟩
      · go_wp2
        go_ret
        refine ⟨rfl, ?_, ((Below.refl B w).setCell h.b1 _).setCell h.b2 _⟩
        exact ⟨(h.ao.set (o + 1)).far hne _, (h.ad.far hne.symm _).set true, h.b1, h.b2, hne⟩
  · have S : stopD (o, d) b = some (o, d) := by unfold stopD; rw [if_neg hno, if_neg q4, if_neg q6]
    rw [S]
    have q7 : (b == 40) = false := by simpa using q6
    clear S q2 q4 q6 hno
    go_enter Tryz.func185, Tryz.ntmps185
    go_wp2
    go_ret
    exact ⟨rfl, h, Below.refl _ _⟩
set_option maxHeartbeats 4000000 in
theorem eachT_any {g : Nat} {c : UInt8} (s : ByteArray) (n : Nat) (w : World) (hs : s.size ≤ 4000000000) (hn : n ≤ s.size) (hg : AtB g c w) :
    Calls Tryz.prog 181 #[.string s, .int .i64 n, .func (.func 211) #[] #[.pointer (some ⟨g, 0, none⟩)]] w fun e w' => e = .returned (.int .i64 ((n + (eachG (stopT c) () (s.data.toList.drop n)).1 : Nat) : Int)) ∧ Below w.heap.size w w' := by
  have e92 : ∀ b : UInt8, ((b.toNat : Int) == 92) = (b == 92) := fun b => beq_u8 b 92 (by decide)
  have hlen := Sc.len_size s
  generalize hR : n + (eachG (stopT c) () (s.data.toList.drop n)).1 = R
  have SG := fun (b : UInt8) w => Sign_any b w
  go_enter Tryz.func181, Tryz.ntmps181
  go_wp2
  go_loopw [7] (fun kk wr => ∃ k : Nat, kk = .int .i64 k ∧ k ≤ s.size ∧ Hid (k + (eachG (stopT c) () (s.data.toList.drop k)).1 = R) ∧ Below w.heap.size w wr) (fun kk _ => s.size - (Lib.intOf kk).toNat)
  case atStart => exact ⟨n, rfl, hn, Lib.hid hR, Below.refl _ _⟩
  case round =>
    obtain ⟨k, rfl, hk, hA, hb⟩ := hrel
    by_cases hlt : k < s.size
    · have hd := Sc.drop_at s k hlt
      have hA := Lib.hid (hd ▸ hA.out)
      clear hd hR
      have H0 : (s[k] = 92 → ∀ c r, s.data.toList.drop (k + 1) = c :: r → sign c = false) → stopTB c s[k] = true → Hid (k = R) := fun h g => by
        apply Lib.hid
        have := hA.out
        rw [eachG_stop (stopT c) () _ _ h (by unfold stopT; rw [g]; rfl)] at this
        exact this
      have H1 : (s[k] = 92 → ∀ c r, s.data.toList.drop (k + 1) = c :: r → sign c = false) → stopTB c s[k] = false → Hid (k + 1 + (eachG (stopT c) () (s.data.toList.drop (k + 1))).1 = R) := fun h g => by
        apply Lib.hid
        have := hA.out
        rw [eachG_go (stopT c) () () _ _ h (by unfold stopT; rw [g]; rfl)] at this
        have this : k + ((eachG (stopT c) () (s.data.toList.drop (k + 1))).1 + 1) = R := this
        omega
      by_cases q : s[k] = 92
      · have q1 : (s[k] == 92) = true := by simpa using q
        by_cases h2 : k + 1 < s.size
        · have hd2 := Sc.drop_at s (k + 1) h2
          cases hg : sign s[k + 1] with
          | true =>
            have H2 : Hid (k + 2 + (eachG (stopT c) () (s.data.toList.drop (k + 2))).1 = R) := by
              apply Lib.hid
              have := hA.out
              rw [q, hd2, eachG_esc _ _ _ _ hg] at this
              have this : k + ((eachG (stopT c) () (s.data.toList.drop (k + 2))).1 + 2) = R := this
              omega
            have SG1 := SG s[k + 1]
            rw [hg] at SG1
            clear H0 H1 hA q hd2 SG hg
            go_wp2_with (go_at_call 112; (with_reducible refine (SG1 _).mono ?_); rintro e w1 ⟨rfl, b1⟩; have hb2 := below_tr hb b1)
            go_roundw
            case rel => exact ⟨k + 2, by go_num, by omega, H2, hb2⟩
            case measure => simp [Lib.intOf]; omega
          | false =>
            have hn2 : s[k] = 92 → ∀ c r, s.data.toList.drop (k + 1) = c :: r → sign c = false := fun _ c r e => by rw [hd2] at e; cases e; exact hg
            have H0 := H0 hn2
            have H1 := H1 hn2
            have SG1 := SG s[k + 1]
            rw [hg] at SG1
            clear hA q hd2 hn2 SG hg
            have ST : ∀ w1, Below w.heap.size w w1 → Calls Tryz.prog 211 #[.int .u8 s[k].toNat, .pointer (some ⟨g, 0, none⟩)] w1 fun e w' => e = .returned (.bool (stopTB c s[k])) ∧ Below w1.heap.size w1 w' := fun w1 hw => stopT_any s[k] w1 (hg.below hw)
            cases hst : stopTB c s[k] with
            | true =>
              have E := H0 hst
              rw [hst] at ST
              clear H0 H1 hst
              go_wp2_with (first
                | (go_at_call 112; (with_reducible refine (SG1 _).mono ?_); rintro e w1 ⟨rfl, b1⟩; have hb1 := below_tr hb b1)
                | (go_at_call 211; (with_reducible refine (ST _ hb1).mono ?_); rintro e w2 ⟨rfl, b2⟩; have hb2 := below_tr hb1 b2))
              go_ret
              exact ⟨ret_int (by rw [← E.out]), hb2⟩
            | false =>
              have E := H1 hst
              rw [hst] at ST
              clear H0 H1 hst
              go_wp2_with (first
                | (go_at_call 112; (with_reducible refine (SG1 _).mono ?_); rintro e w1 ⟨rfl, b1⟩; have hb1 := below_tr hb b1)
                | (go_at_call 211; (with_reducible refine (ST _ hb1).mono ?_); rintro e w2 ⟨rfl, b2⟩; have hb2 := below_tr hb1 b2))
              go_roundw
              case rel => exact ⟨k + 1, by go_num, by omega, E, hb2⟩
              case measure => simp [Lib.intOf]; omega
        · have hn2 : s[k] = 92 → ∀ c r, s.data.toList.drop (k + 1) = c :: r → sign c = false := fun _ c r e => by rw [List.drop_eq_nil_of_le (by omega)] at e; cases e
          have H0 := H0 hn2
          have H1 := H1 hn2
          clear hA q hn2 SG
          have ST : ∀ w1, Below w.heap.size w w1 → Calls Tryz.prog 211 #[.int .u8 s[k].toNat, .pointer (some ⟨g, 0, none⟩)] w1 fun e w' => e = .returned (.bool (stopTB c s[k])) ∧ Below w1.heap.size w1 w' := fun w1 hw => stopT_any s[k] w1 (hg.below hw)
          cases hst : stopTB c s[k] with
          | true =>
            have E := H0 hst
            rw [hst] at ST
            clear H0 H1 hst
            go_wp2_with (go_at_call 211; (with_reducible refine (ST _ hb).mono ?_); rintro e w2 ⟨rfl, b2⟩; have hb2 := below_tr hb b2)
            go_ret
            exact ⟨ret_int (by rw [← E.out]), hb2⟩
          | false =>
            have E := H1 hst
            rw [hst] at ST
            clear H0 H1 hst
            go_wp2_with (go_at_call 211; (with_reducible refine (ST _ hb).mono ?_); rintro e w2 ⟨rfl, b2⟩; have hb2 := below_tr hb b2)
            go_roundw
            case rel => exact ⟨k + 1, by go_num, by omega, E, hb2⟩
            case measure => simp [Lib.intOf]; omega
      · have q1 : (s[k] == 92) = false := by simpa using q
        have H0 := H0 fun e => absurd e q
        have H1 := H1 fun e => absurd e q
        clear hA q SG
        have ST : ∀ w1, Below w.heap.size w w1 → Calls Tryz.prog 211 #[.int .u8 s[k].toNat, .pointer (some ⟨g, 0, none⟩)] w1 fun e w' => e = .returned (.bool (stopTB c s[k])) ∧ Below w1.heap.size w1 w' := fun w1 hw => stopT_any s[k] w1 (hg.below hw)
        cases hst : stopTB c s[k] with
        | true =>
          have E := H0 hst
          rw [hst] at ST
          clear H0 H1 hst
          go_wp2_with (go_at_call 211; (with_reducible refine (ST _ hb).mono ?_); rintro e w2 ⟨rfl, b2⟩; have hb2 := below_tr hb b2)
          go_ret
          exact ⟨ret_int (by rw [← E.out]), hb2⟩
        | false =>
          have E := H1 hst
          rw [hst] at ST
          clear H0 H1 hst
          go_wp2_with (go_at_call 211; (with_reducible refine (ST _ hb).mono ?_); rintro e w2 ⟨rfl, b2⟩; have hb2 := below_tr hb b2)
          go_roundw
          case rel => exact ⟨k + 1, by go_num, by omega, E, hb2⟩
          case measure => simp [Lib.intOf]; omega
    · have hE : k = R := by
        have := hA.out
        rw [List.drop_eq_nil_of_le (by omega)] at this
        exact this
      have hk2 : k = s.size := by omega
      clear hA hR
      go_wp2
      go_ret
      exact ⟨ret_int (by rw [← hE, hk2]), hb⟩
end Tx
end Go.Proofs.YtehmcahdjldhbaaGreatDoor
end
section
/- Package link: each, at the closure of Dest. -/
open Go Go.RowKit
set_option linter.unusedVariables false
set_option linter.unusedSimpArgs false
set_option maxRecDepth 100000
namespace Go.Proofs.YtehmcahdjldhbaaGreatDoor
open Wk
namespace Tx
theorem stopD_le {o o' : Nat} {d d' : Bool} {b : UInt8} (h : stopD (o, d) b = some (o', d')) : o' ≤ o + 1 := by
  unfold stopD at h
  split at h
  · cases h
  · split at h
    · cases h; show o - 1 ≤ _; omega
    · split at h
      · cases h; exact Nat.le_refl _
      · cases h; omega
/-- How far, and the state then. -/
def EachD (B go gd : Nat) (R : Nat × Nat × Bool) (w : World) (e : Ending) (w' : World) : Prop :=
  ∃ r : Nat, e = .returned (.int .i64 r) ∧ ∃ o d, Hid (r = R.1 ∧ (o, d) = R.2) ∧ AtD B go gd o d w' ∧ Below B w w'
set_option maxHeartbeats 8000000 in
theorem eachD_any {B go gd : Nat} (s : ByteArray) (w : World) (hs : s.size ≤ 1000000000) (hD0 : AtD B go gd 0 false w) (hBw : B ≤ w.heap.size) :
    Calls Tryz.prog 181 #[.string s, .int .i64 0, .func (.func 185) #[] #[.pointer (some ⟨go, 0, none⟩), .pointer (some ⟨gd, 0, none⟩)]] w (EachD B go gd (eachG stopD (0, false) s.data.toList) w) := by
  have e92 : ∀ b : UInt8, ((b.toNat : Int) == 92) = (b == 92) := fun b => beq_u8 b 92 (by decide)
  have hlen := Sc.len_size s
  generalize hR : eachG stopD (0, false) s.data.toList = R
  have SG := fun (b : UInt8) w => Sign_any b w
  unfold EachD
  go_enter Tryz.func181, Tryz.ntmps181
  go_wp2
  go_loopw [7] (fun kk wr => ∃ (k o : Nat) (d : Bool), kk = .int .i64 k ∧ k ≤ s.size ∧ o ≤ k ∧ Hid (k + (eachG stopD (o, d) (s.data.toList.drop k)).1 = R.1 ∧ (eachG stopD (o, d) (s.data.toList.drop k)).2 = R.2) ∧ AtD B go gd o d wr ∧ Below B w wr) (fun kk _ => s.size - (Lib.intOf kk).toNat)
  case atStart => exact ⟨0, 0, false, rfl, Nat.zero_le _, Nat.le_refl _, Lib.hid ⟨by rw [← hR]; simp, by rw [← hR]; simp⟩, hD0, Below.refl _ _⟩
  case round =>
    obtain ⟨k, o, d, rfl, hk, hok, hA, hD, hb⟩ := hrel
    by_cases hlt : k < s.size
    · have hd := Sc.drop_at s k hlt
      have hA := Lib.hid (hd ▸ hA.out)
      clear hd hR
      have H0 : (s[k] = 92 → ∀ c r, s.data.toList.drop (k + 1) = c :: r → sign c = false) → stopD (o, d) s[k] = none → Hid (k = R.1 ∧ (o, d) = R.2) ∧ True := fun h g => by
        refine ⟨Lib.hid ?_, trivial⟩
        have := hA.out
        rw [eachG_stop stopD (o, d) _ _ h g] at this
        exact this
      have H1 : (s[k] = 92 → ∀ c r, s.data.toList.drop (k + 1) = c :: r → sign c = false) → ∀ o' d', stopD (o, d) s[k] = some (o', d') → Hid (k + 1 + (eachG stopD (o', d') (s.data.toList.drop (k + 1))).1 = R.1 ∧ (eachG stopD (o', d') (s.data.toList.drop (k + 1))).2 = R.2) := fun h o' d' g => by
        apply Lib.hid
        have := hA.out
        rw [eachG_go stopD (o, d) (o', d') _ _ h g] at this
        have t1 : k + ((eachG stopD (o', d') (s.data.toList.drop (k + 1))).1 + 1) = R.1 := this.1
        exact ⟨by omega, this.2⟩
      by_cases q : s[k] = 92
      · have q1 : (s[k] == 92) = true := by simpa using q
        by_cases h2 : k + 1 < s.size
        · have hd2 := Sc.drop_at s (k + 1) h2
          cases hg : sign s[k + 1] with
          | true =>
            have H2 : Hid (k + 2 + (eachG stopD (o, d) (s.data.toList.drop (k + 2))).1 = R.1 ∧ (eachG stopD (o, d) (s.data.toList.drop (k + 2))).2 = R.2) := by
              apply Lib.hid
              have := hA.out
              rw [q, hd2, eachG_esc _ _ _ _ hg] at this
              have t1 : k + ((eachG stopD (o, d) (s.data.toList.drop (k + 2))).1 + 2) = R.1 := this.1
              exact ⟨by omega, this.2⟩
            have SG1 := SG s[k + 1]
            rw [hg] at SG1
            clear H0 H1 hA q hd2 SG hg
            go_wp2_with (go_at_call 112; (with_reducible refine (SG1 _).mono ?_); rintro e w1 ⟨rfl, b1⟩; have hD1 := hD.below b1; have hb1 := hb.trans (b1.mono (Nat.le_trans hBw hb.size)))
            go_roundw
            case rel => exact ⟨k + 2, o, d, by go_num, by omega, by omega, H2, hD1, hb1⟩
            case measure => simp [Lib.intOf]; omega
          | false =>
            have hn2 : s[k] = 92 → ∀ c r, s.data.toList.drop (k + 1) = c :: r → sign c = false := fun _ c r e => by rw [hd2] at e; cases e; exact hg
            have H0 := H0 hn2
            have H1 := H1 hn2
            have SG1 := SG s[k + 1]
            rw [hg] at SG1
            clear hA q hd2 hn2 SG hg
            cases hst : stopD (o, d) s[k] with
            | none =>
              have E := H0 hst
              have DS : ∀ w1, AtD B go gd o d w1 → Calls Tryz.prog 185 #[.int .u8 s[k].toNat, .pointer (some ⟨go, 0, none⟩), .pointer (some ⟨gd, 0, none⟩)] w1 fun e w' => e = .returned (.bool true) ∧ AtD B go gd o d w' ∧ Below B w1 w' := fun w1 hD => by
                have := stopD_any s[k] w1 hD (by omega)
                unfold DPost at this
                rw [hst] at this
                exact this
              clear H0 H1 hst
              go_wp2_with (first
                | (go_at_call 112; (with_reducible refine (SG1 _).mono ?_); rintro e w1 ⟨rfl, b1⟩; have hD1 := hD.below b1; have hb1 := hb.trans (b1.mono (Nat.le_trans hBw hb.size)))
                | (go_at_call 185; (with_reducible refine (DS _ hD1).mono ?_); rintro e w2 ⟨rfl, D2, b2⟩; have hb2 := hb1.trans b2))
              go_ret
              exact ⟨_, rfl, o, d, E.1, D2, hb2⟩
            | some st =>
              obtain ⟨o', d'⟩ := st
              have E := H1 o' d' hst
              have ho' : o' ≤ o + 1 := stopD_le hst
              have DS : ∀ w1, AtD B go gd o d w1 → Calls Tryz.prog 185 #[.int .u8 s[k].toNat, .pointer (some ⟨go, 0, none⟩), .pointer (some ⟨gd, 0, none⟩)] w1 fun e w' => e = .returned (.bool false) ∧ AtD B go gd o' d' w' ∧ Below B w1 w' := fun w1 hD => by
                have := stopD_any s[k] w1 hD (by omega)
                unfold DPost at this
                rw [hst] at this
                exact this
              clear H0 H1 hst
              go_wp2_with (first
                | (go_at_call 112; (with_reducible refine (SG1 _).mono ?_); rintro e w1 ⟨rfl, b1⟩; have hD1 := hD.below b1; have hb1 := hb.trans (b1.mono (Nat.le_trans hBw hb.size)))
                | (go_at_call 185; (with_reducible refine (DS _ hD1).mono ?_); rintro e w2 ⟨rfl, D2, b2⟩; have hb2 := hb1.trans b2))
              go_roundw
              case rel => exact ⟨k + 1, o', d', by go_num, by omega, by omega, E, D2, hb2⟩
              case measure => simp [Lib.intOf]; omega
        · have hn2 : s[k] = 92 → ∀ c r, s.data.toList.drop (k + 1) = c :: r → sign c = false := fun _ c r e => by rw [List.drop_eq_nil_of_le (by omega)] at e; cases e
          have H0 := H0 hn2
          have H1 := H1 hn2
          clear hA q hn2
          have SG1 := SG s[k]
          cases hst : stopD (o, d) s[k] with
          | none =>
            have E := H0 hst
            have DS : ∀ w1, AtD B go gd o d w1 → Calls Tryz.prog 185 #[.int .u8 s[k].toNat, .pointer (some ⟨go, 0, none⟩), .pointer (some ⟨gd, 0, none⟩)] w1 fun e w' => e = .returned (.bool true) ∧ AtD B go gd o d w' ∧ Below B w1 w' := fun w1 hD => by
              have := stopD_any s[k] w1 hD (by omega)
              unfold DPost at this
              rw [hst] at this
              exact this
            clear H0 H1 hst
            go_wp2_with (first
              | (go_at_call 112; (with_reducible refine (SG1 _).mono ?_); rintro e w1 ⟨rfl, b1⟩; have hD1 := hD.below b1; have hb1 := hb.trans (b1.mono (Nat.le_trans hBw hb.size)))
              | (go_at_call 185; (with_reducible refine (DS _ hD).mono ?_); rintro e w2 ⟨rfl, D2, b2⟩; have hb2 := hb.trans b2))
            go_ret
            exact ⟨_, rfl, o, d, E.1, D2, hb2⟩
          | some st =>
            obtain ⟨o', d'⟩ := st
            have E := H1 o' d' hst
            have ho' : o' ≤ o + 1 := stopD_le hst
            have DS : ∀ w1, AtD B go gd o d w1 → Calls Tryz.prog 185 #[.int .u8 s[k].toNat, .pointer (some ⟨go, 0, none⟩), .pointer (some ⟨gd, 0, none⟩)] w1 fun e w' => e = .returned (.bool false) ∧ AtD B go gd o' d' w' ∧ Below B w1 w' := fun w1 hD => by
              have := stopD_any s[k] w1 hD (by omega)
              unfold DPost at this
              rw [hst] at this
              exact this
            clear H0 H1 hst
            go_wp2_with (first
              | (go_at_call 112; (with_reducible refine (SG1 _).mono ?_); rintro e w1 ⟨rfl, b1⟩; have hD1 := hD.below b1; have hb1 := hb.trans (b1.mono (Nat.le_trans hBw hb.size)))
              | (go_at_call 185; (with_reducible refine (DS _ hD).mono ?_); rintro e w2 ⟨rfl, D2, b2⟩; have hb2 := hb.trans b2))
            go_roundw
            case rel => exact ⟨k + 1, o', d', by go_num, by omega, by omega, E, D2, hb2⟩
            case measure => simp [Lib.intOf]; omega
      · have q1 : (s[k] == 92) = false := by simpa using q
        have H0 := H0 fun e => absurd e q
        have H1 := H1 fun e => absurd e q
        clear hA q
        have SG1 := SG s[k]
        cases hst : stopD (o, d) s[k] with
        | none =>
          have E := H0 hst
          have DS : ∀ w1, AtD B go gd o d w1 → Calls Tryz.prog 185 #[.int .u8 s[k].toNat, .pointer (some ⟨go, 0, none⟩), .pointer (some ⟨gd, 0, none⟩)] w1 fun e w' => e = .returned (.bool true) ∧ AtD B go gd o d w' ∧ Below B w1 w' := fun w1 hD => by
            have := stopD_any s[k] w1 hD (by omega)
            unfold DPost at this
            rw [hst] at this
            exact this
          clear H0 H1 hst
          go_wp2_with (first
            | (go_at_call 112; (with_reducible refine (SG1 _).mono ?_); rintro e w1 ⟨rfl, b1⟩; have hD1 := hD.below b1; have hb1 := hb.trans (b1.mono (Nat.le_trans hBw hb.size)))
            | (go_at_call 185; (with_reducible refine (DS _ hD).mono ?_); rintro e w2 ⟨rfl, D2, b2⟩; have hb2 := hb.trans b2))
          go_ret
          exact ⟨_, rfl, o, d, E.1, D2, hb2⟩
        | some st =>
          obtain ⟨o', d'⟩ := st
          have E := H1 o' d' hst
          have ho' : o' ≤ o + 1 := stopD_le hst
          have DS : ∀ w1, AtD B go gd o d w1 → Calls Tryz.prog 185 #[.int .u8 s[k].toNat, .pointer (some ⟨go, 0, none⟩), .pointer (some ⟨gd, 0, none⟩)] w1 fun e w' => e = .returned (.bool false) ∧ AtD B go gd o' d' w' ∧ Below B w1 w' := fun w1 hD => by
            have := stopD_any s[k] w1 hD (by omega)
            unfold DPost at this
            rw [hst] at this
            exact this
          clear H0 H1 hst
          go_wp2_with (first
            | (go_at_call 112; (with_reducible refine (SG1 _).mono ?_); rintro e w1 ⟨rfl, b1⟩; have hD1 := hD.below b1; have hb1 := hb.trans (b1.mono (Nat.le_trans hBw hb.size)))
            | (go_at_call 185; (with_reducible refine (DS _ hD).mono ?_); rintro e w2 ⟨rfl, D2, b2⟩; have hb2 := hb.trans b2))
          go_roundw
          case rel => exact ⟨k + 1, o', d', by go_num, by omega, by omega, E, D2, hb2⟩
          case measure => simp [Lib.intOf]; omega
    · have hE : Hid (s.size = R.1 ∧ (o, d) = R.2) := by
        apply Lib.hid
        have := hA.out
        rw [List.drop_eq_nil_of_le (by omega)] at this
        exact ⟨by have : k = R.1 := this.1; omega, this.2⟩
      clear hA hR
      go_wp2
      go_ret
      exact ⟨_, rfl, o, d, hE, hD, hb⟩
end Tx
end Go.Proofs.YtehmcahdjldhbaaGreatDoor
end
section
/- Contracts of Go's library, laid at this seat's translation by the kit's own tools (lay-shelf.mjs, lay-plain.mjs), picked by a small program of the session. -/
namespace Go.Proofs
open Go.Shelf
def Tryz.lays146_ren : Go.Shelf.Ren := ⟨fun | 146 => 221 | 221 => 226 | 268 => 229 | 138 => 119 | 143 => 139 | 195 => 148 | 197 => 154 | 218 => 149 | 219 => 164 | 260 => 179 | 217 => 102 | 225 => 72 | 224 => 71 | 267 => 191 | 266 => 138 | 314 => 213 | n => n, fun | 9 => 9 | 31 => 22 | 3 => 3 | 4 => 4 | 0 => 0 | 105 => 155 | 21 => 21 | 5 => 5 | 46 => 99 | 119 => 198 | 139 => 201 | 138 => 200 | 146 => 175 | 51 => 174 | n => n, fun | 1 => 0 | 3 => 1 | 4 => 2 | n => n⟩
theorem Tryz.lays146 : Go.Proofs.Lays.n146 Tryz.prog Tryz.lays146_ren := {
  mixed := by kernel_rfl
  f138 := Tryz.func119.trans (congrArg some (by kernel_rfl))
  f143 := Tryz.func139.trans (congrArg some (by kernel_rfl))
  f146 := Tryz.func221.trans (congrArg some (by kernel_rfl))
  f195 := Tryz.func148.trans (congrArg some (by kernel_rfl))
  f197 := Tryz.func154.trans (congrArg some (by kernel_rfl))
  f217 := Tryz.func102.trans (congrArg some (by kernel_rfl))
  f218 := Tryz.func149.trans (congrArg some (by kernel_rfl))
  f219 := Tryz.func164.trans (congrArg some (by kernel_rfl))
  f221 := Tryz.func226.trans (congrArg some (by kernel_rfl))
  f224 := Tryz.func71.trans (congrArg some (by kernel_rfl))
  f225 := Tryz.func72.trans (congrArg some (by kernel_rfl))
  f260 := Tryz.func179.trans (congrArg some (by kernel_rfl))
  f266 := Tryz.func138.trans (congrArg some (by kernel_rfl))
  f267 := Tryz.func191.trans (congrArg some (by kernel_rfl))
  f268 := Tryz.func229.trans (congrArg some (by kernel_rfl))
  f314 := Tryz.func213.trans (congrArg some (by kernel_rfl))
  t0 := Tryz.underlying0
  a0 := Tryz.isAgg0
  z0 := Tryz.sizeOf0
  v0 := Tryz.zeroValue0
  t3 := Tryz.underlying3
  a3 := Tryz.isAgg3
  z3 := Tryz.sizeOf3
  v3 := Tryz.zeroValue3
  t4 := Tryz.underlying4
  a4 := Tryz.isAgg4
  z4 := Tryz.sizeOf4
  v4 := Tryz.zeroValue4
  t5 := Tryz.underlying5
  a5 := Tryz.isAgg5
  z5 := Tryz.sizeOf5
  v5 := Tryz.zeroValue5
  t9 := Tryz.underlying9
  a9 := Tryz.isAgg9
  z9 := Tryz.sizeOf9
  v9 := Tryz.zeroValue9
  t21 := Tryz.underlying21
  a21 := Tryz.isAgg21
  z21 := Tryz.sizeOf21
  v21 := Tryz.zeroValue21
  t31 := Tryz.underlying22
  a31 := Tryz.isAgg22
  z31 := Tryz.sizeOf22
  v31 := Tryz.zeroValue22
  t46 := Tryz.underlying99
  a46 := Tryz.isAgg99
  z46 := Tryz.sizeOf99
  v46 := Tryz.zeroValue99
  t51 := Tryz.underlying174
  a51 := Tryz.isAgg174
  z51 := Tryz.sizeOf174
  v51 := Tryz.zeroValue174
  t105 := Tryz.underlying155
  a105 := Tryz.isAgg155
  z105 := Tryz.sizeOf155
  v105 := Tryz.zeroValue155
  t119 := Tryz.underlying198
  a119 := Tryz.isAgg198
  z119 := Tryz.sizeOf198
  t138 := Tryz.underlying200
  a138 := Tryz.isAgg200
  z138 := Tryz.sizeOf200
  v138 := Tryz.zeroValue200
  t139 := Tryz.underlying201
  a139 := Tryz.isAgg201
  z139 := Tryz.sizeOf201
  v139 := Tryz.zeroValue201
  t146 := Tryz.underlying175
  a146 := Tryz.isAgg175
  z146 := Tryz.sizeOf175
  v146 := Tryz.zeroValue175
  g1 := by kernel_rfl
  g3 := by kernel_rfl
  g4 := by kernel_rfl }
open Go.RowKit Go.Lib in
theorem Tryz.strings_Split (s sep : ByteArray) (m : Int) (w : World) (hs : s.size < 4294967281) (hm : w.cell? ⟨0, 0, none⟩ = some (.int .i64 m)) (h1 : 1 ≤ sep.size) :
    Calls Tryz.prog 221 #[.string s, .string sep] w fun e w' =>
      e = .returned (.slice (some ⟨w.heap.size, 0, none⟩) (Lib.countB s sep + 1) (Lib.countB s sep + 1)) ∧ w' = w.alloc (.cells ((Lib.splitB sep 0 (Lib.countB s sep) s).map Value.string).toArray 9) := Any.strings_Split Tryz.lays146 (by kernel_rfl) s sep m w hs hm h1
def Tryz.lays229_ren : Go.Shelf.Ren := ⟨fun | 229 => 187 | n => n, fun | 9 => 9 | 40 => 97 | 31 => 22 | 152 => 205 | 3 => 3 | 0 => 0 | 4 => 4 | 21 => 21 | 154 => 207 | n => n, fun | n => n⟩
theorem Tryz.lays229 : Go.Proofs.Lays.n229 Tryz.prog Tryz.lays229_ren := {
  mixed := by kernel_rfl
  f229 := Tryz.func187.trans (congrArg some (by kernel_rfl))
  t0 := Tryz.underlying0
  a0 := Tryz.isAgg0
  z0 := Tryz.sizeOf0
  v0 := Tryz.zeroValue0
  t3 := Tryz.underlying3
  a3 := Tryz.isAgg3
  z3 := Tryz.sizeOf3
  v3 := Tryz.zeroValue3
  t4 := Tryz.underlying4
  a4 := Tryz.isAgg4
  z4 := Tryz.sizeOf4
  v4 := Tryz.zeroValue4
  t9 := Tryz.underlying9
  a9 := Tryz.isAgg9
  z9 := Tryz.sizeOf9
  v9 := Tryz.zeroValue9
  t21 := Tryz.underlying21
  a21 := Tryz.isAgg21
  z21 := Tryz.sizeOf21
  v21 := Tryz.zeroValue21
  t31 := Tryz.underlying22
  a31 := Tryz.isAgg22
  z31 := Tryz.sizeOf22
  v31 := Tryz.zeroValue22
  t40 := Tryz.underlying97
  a40 := Tryz.isAgg97
  z40 := Tryz.sizeOf97
  v40 := Tryz.zeroValue97
  t152 := Tryz.underlying205
  a152 := Tryz.isAgg205
  z152 := Tryz.sizeOf205
  v152 := Tryz.zeroValue205
  t154 := Tryz.underlying207
  a154 := Tryz.isAgg207
  z154 := Tryz.sizeOf207
  v154 := Tryz.zeroValue207 }
open Go.RowKit Go.Lib in
theorem Tryz.strings_FieldsFunc_runes (g : Nat) (lb : Array Value) (eg : ∀ args w, (callFunc g args).run Tryz.prog w = .ok (.enter g args) w) (p : Nat → Bool) (s : ByteArray) (w : World) (hs : s.size ≤ 4294967296) (hp : PredAtRunes Tryz.prog g lb p w) :
    Calls Tryz.prog 187 #[.string s, .func (.func g) #[] lb] w fun e w' => ∃ A, e = .returned (.slice (some ⟨A, 0, none⟩) (Lib.goFieldsP p s).length (Lib.goFieldsP p s).length) ∧ w.heap.size ≤ A ∧
      w'.ownsRow w.heap.size 9 1 (.slice (some ⟨A, 0, none⟩) (Lib.goFieldsP p s).length (Lib.goFieldsP p s).length) (Lib.goFieldsP p s).length ((Lib.goFieldsP p s).map Value.string) ∧ Below w.heap.size w w' := Any.strings_FieldsFunc_runes Tryz.lays229 g lb eg p s w hs hp (by kernel_rfl) (by kernel_rfl)
end Go.Proofs
end
section
/- Package link: closing, gap, Label. -/
open Go Go.RowKit
set_option linter.unusedVariables false
set_option linter.unusedSimpArgs false
set_option maxRecDepth 100000
namespace Go.Proofs.YtehmcahdjldhbaaGreatDoor
open Wk
namespace Tx
theorem cell_far {w w1 : World} (h : Below w.heap.size w w1) {a : Addr} (ha : a.block < w.heap.size) : w1.cell? a = w.cell? a := by unfold World.cell?; rw [h.block _ ha]
theorem splitB_size (sep : ByteArray) (save : Nat) : ∀ (k : Nat) (s x : ByteArray), x ∈ Lib.splitB sep save k s → x.size ≤ s.size
  | 0, s, x, h => by
    rw [Lib.splitB_zero] at h
    rw [List.mem_singleton.1 h]; exact Nat.le_refl _
  | k + 1, s, x, h => by
    unfold Lib.splitB at h
    split at h
    · rw [List.mem_singleton.1 h]; exact Nat.le_refl _
    · rcases List.mem_cons.1 h with h | h
      · rw [h, ByteArray.size_extract]; omega
      · have := splitB_size sep save k _ x h
        rw [ByteArray.size_extract] at this; omega
theorem trimE1 (l : Bs) : (mk (Sc.trim l)).toList.isEmpty = Sc.blanks l := by
  rw [empty_iff, mk_data, Bool.eq_iff_iff, decide_eq_true_iff, Sc.trim_nil]
def closing : Bs → UInt8
  | [] => 0
  | b :: _ => if b = 34 ∨ b = 39 then b else if b = 40 then 41 else 0
theorem closing_any (s : ByteArray) (w : World) :
    Calls Tryz.prog 210 #[.string s] w fun e w' => e = .returned (.int .u8 (closing s.data.toList).toNat) ∧ Below w.heap.size w w' := by
  have e1 : ∀ b : UInt8, ((b.toNat : Int) == 34) = (b == 34) := fun b => beq_u8 b 34 (by decide)
  have e2 : ∀ b : UInt8, ((b.toNat : Int) == 39) = (b == 39) := fun b => beq_u8 b 39 (by decide)
  have e3 : ∀ b : UInt8, ((b.toNat : Int) == 40) = (b == 40) := fun b => beq_u8 b 40 (by decide)
  by_cases hz : s.data.toList = []
  · have h1 : s.toList = [] := by rw [toList_data, hz]
    rw [hz]
    clear hz
    go_enter Tryz.func210, Tryz.ntmps210
    go_wp2
    go_ret
    exact ⟨rfl, Below.refl _ _⟩
  · have hsz := Sc.size_pos hz
    have hne : (s.toList == ([] : List UInt8)) = false := by rw [toList_data, beq_eq_false_iff_ne]; exact hz
    have hh := Lib.hid (Sc.head_of hsz)
    have F : Hid (closing s.data.toList = if s[0] = 34 ∨ s[0] = 39 then s[0] else if s[0] = 40 then 41 else 0) := by apply Lib.hid; rw [hh.out]; rfl
    generalize closing s.data.toList = r at *
    clear hz
    go_enter Tryz.func210, Tryz.ntmps210
    go_wp2
    all_goals go_ret
    all_goals refine ⟨ret_int ?_, Below.refl _ _⟩
    all_goals rw [F.out]
    all_goals clear F hh hne e1 e2 e3
    all_goals simp_all
def nl : ByteArray := ⟨#[10]⟩
def rowsB (s : ByteArray) : List ByteArray := Lib.splitB nl 0 (Lib.countB s nl) s
def rowBlank (s : ByteArray) : Bool := Sc.blanks s.data.toList
/-- link.gap: has a text a line of blanks alone, other than its first and last? -/
def lgap (s : ByteArray) : Bool := ((rowsB s).drop 1).dropLast.any rowBlank
set_option maxHeartbeats 4000000 in
theorem gap_any (s : ByteArray) (w : World) (hE : Env w) (hs : s.size ≤ 4000000000) :
    Calls Tryz.prog 212 #[.string s] w fun e w' => e = .returned (.bool (lgap s)) ∧ Below w.heap.size w w' := by
  obtain ⟨m, hm⟩ := hE.ml
  have SP := Tryz.strings_Split s nl m w (by omega) hm (by decide)
  have hle := Lib.countB_le nl (by decide) _ s (Nat.le_refl _)
  have hL : (rowsB s).length = Lib.countB s nl + 1 := Lib.splitB_all nl (by decide) 0 _ s rfl
  have hF : lgap s = ((rowsB s).drop 1).dropLast.any rowBlank := rfl
  rw [show Lib.splitB nl 0 (Lib.countB s nl) s = rowsB s from rfl] at SP
  have hZ : ∀ x ∈ rowsB s, x.size ≤ s.size := fun x hx => splitB_size _ _ _ _ _ hx
  generalize lgap s = r at *
  generalize rowsB s = R at *
  generalize Lib.countB s nl = n at *
  have SP2 : Calls Tryz.prog 221 #[.string s, .string ⟨#[10]⟩] w fun e w' => e = .returned (.slice (some ⟨w.heap.size, 0, none⟩) (n + 1) (n + 1)) ∧ (∀ k x, R[k]? = some x → w'.cell? ⟨w.heap.size, k, none⟩ = some (.string x)) ∧ Below w.heap.size w w' := by
    refine SP.mono ?_
    rintro e w1 ⟨rfl, rfl⟩
    refine ⟨rfl, fun k x hk => ?_, (Below.refl _ _).alloc (Nat.le_refl _) _⟩
    rw [cell_blk (heap_alloc_new w _)]
    simp [hk]
  clear SP hm
  go_enter Tryz.func212, Tryz.ntmps212
  go_wp2_with (go_at_call 221; (with_reducible refine SP2.mono ?_); rintro e w1 ⟨rfl, hc, b1⟩)
  have hcl : ∀ k x, R[k]? = some x → w.heap.size < w1.heap.size := fun k x hk => cell_lt (hc k x hk)
  go_loopw [4] (fun kk wr => ∃ k : Nat, kk = .int .i64 k ∧ 1 ≤ k ∧ k ≤ n + 1 ∧ Hid (r = (R.drop k).dropLast.any rowBlank) ∧ Below w1.heap.size w1 wr) (fun kk _ => n + 1 - (Lib.intOf kk).toNat)
  case atStart => exact ⟨1, rfl, Nat.le_refl _, by omega, Lib.hid hF, Below.refl _ _⟩
  case round =>
    obtain ⟨k, rfl, hk1, hk, hA, hb⟩ := hrel
    by_cases hlt : k < n
    · have hkR : k < R.length := by omega
      have hx : R[k]? = some R[k] := List.getElem?_eq_getElem hkR
      have hcx := hc k _ hx
      have hsz : w.heap.size < w1.heap.size := cell_lt hcx
      have hcw : wr.cell? ⟨w.heap.size, k, none⟩ = some (.string R[k]) := by rw [cell_far hb hsz]; exact hcx
      have hS : Hid (r = (rowBlank R[k] || (R.drop (k + 1)).dropLast.any rowBlank)) := by
        apply Lib.hid
        rw [hA.out, List.drop_eq_getElem_cons hkR]
        have : R.drop (k + 1) ≠ [] := by intro e; have := congrArg List.length e; simp at this; omega
        rw [List.dropLast_cons_of_ne_nil this, List.any_cons]
      have hz := hZ _ (List.getElem_mem hkR)
      have TR := fun w => trim_v R[k] w (by unfold Small; omega)
      have TE := Lib.hid (trimE1 R[k].data.toList)
      generalize R[k] = x at *
      clear hA hx hcx hF hZ hc hcl
      go_wp2_with (go_at_call 95; (with_reducible refine (TR _).mono ?_); rintro e w2 ⟨rfl, b2⟩; have hb2 := below_tr hb b2)
      · have q : (mk (Sc.trim x.data.toList)).toList.isEmpty = true := by assumption
        have q2 : rowBlank x = true := by rw [← q, TE.out]; rfl
        go_ret
        exact ⟨ret_bool (by rw [hS.out, q2]; rfl), b1.trans (hb2.mono b1.size)⟩
      · have q : (mk (Sc.trim x.data.toList)).toList.isEmpty = false := by assumption
        have q2 : rowBlank x = false := by rw [← q, TE.out]; rfl
        go_roundw
        case rel => exact ⟨k + 1, by go_num, by omega, by omega, by apply Lib.hid; rw [hS.out, q2]; rfl, hb2⟩
        case measure => simp [Lib.intOf]; omega
    · have hE2 : r = false := by
        rw [hA.out]
        have : ((R.drop k).dropLast).length = 0 := by simp; omega
        rw [List.length_eq_zero_iff.1 this]; rfl
      clear hA hF
      go_wp2
      go_ret
      exact ⟨ret_bool hE2.symm, b1.trans (hb.mono b1.size)⟩
theorem eachG_at {S : Type} (f : S → UInt8 → Option S) : ∀ (s : S) (l : Bs), (eachG f s l).1 < l.length → ∃ b r s', l.drop (eachG f s l).1 = b :: r ∧ f s' b = none
  | s, [], h => by simp at h
  | s, [b], h => by
    cases e : f s b with
    | none => exact ⟨b, [], s, by unfold eachG; rw [e]; rfl, e⟩
    | some s' => unfold eachG at h; rw [e] at h; simp at h
  | s, b :: c :: t, h => by
    by_cases q : b = 92 ∧ sign c = true
    · obtain ⟨x, r, s', e1, e2⟩ := eachG_at f s t (by unfold eachG at h; rw [if_pos q] at h; simp at h; omega)
      refine ⟨x, r, s', ?_, e2⟩
      unfold eachG; rw [if_pos q]; exact e1
    · cases e : f s b with
      | none => exact ⟨b, c :: t, s, by unfold eachG; rw [if_neg q, e]; rfl, e⟩
      | some s1 =>
        obtain ⟨x, r, s', e1, e2⟩ := eachG_at f s1 (c :: t) (by unfold eachG at h; rw [if_neg q, e] at h; simp at h ⊢; omega)
        refine ⟨x, r, s', ?_, e2⟩
        unfold eachG; rw [if_neg q, e]; exact e1
/-- link.Label. -/
def lab : Bs → Bs × Nat
  | 91 :: t =>
    let k := (eachG stopL () t).1
    match t.drop k with
    | b :: _ => if b ≠ 93 ∨ 999 < k ∨ whiteN (t.take k) = k then ([], 0) else (t.take k, k + 2)
    | [] => ([], 0)
  | _ => ([], 0)
theorem HasPrefix1 (l : Bs) (c : UInt8) (w : World) : Calls Tryz.prog 30 #[.string (mk l), .string ⟨#[c]⟩] w fun e w' => e = .returned (.bool (Lib.hasPrefix l [c])) ∧ w' = w := by
  have := Tryz.strings_HasPrefix (mk l) ⟨#[c]⟩ w
  rw [mk_data] at this
  exact this
theorem hasPrefix_one (l : Bs) (c : UInt8) : Lib.hasPrefix l [c] = match l with | [] => false | b :: _ => b == c := by
  cases l with
  | nil => rfl
  | cons b t => unfold Lib.hasPrefix; simp [List.isPrefixOf, BEq.comm]
set_option maxHeartbeats 8000000 in
theorem Label_any (s : ByteArray) (w : World) (hs : s.size ≤ 4000000000) :
    Calls Tryz.prog 158 #[.string s] w fun e w' => e = .returned (.tuple #[.string (mk (lab s.data.toList).1), .int .i64 (lab s.data.toList).2]) ∧ Below w.heap.size w w' := by
  have HP := fun w => Tryz.strings_HasPrefix s ⟨#[91]⟩ w
  cases hp : Lib.hasPrefix s.data.toList [91] with
  | false =>
    have F : lab s.data.toList = ([], 0) := by
      rw [hasPrefix_one] at hp
      cases hl : s.data.toList with
      | nil => rfl
      | cons b t =>
        rw [hl] at hp
        have : b ≠ 91 := by simpa using hp
        unfold lab; split
        · rename_i e; cases e; exact absurd rfl this
        · rfl
    rw [F]
    rw [show (⟨#[91]⟩ : ByteArray).data.toList = [91] from rfl, hp] at HP
    clear hp F
    go_enter Tryz.func158, Tryz.ntmps158
    go_wp2_with (go_at_call 30; (with_reducible refine (HP _).mono ?_); rintro e w1 ⟨rfl, rfl⟩)
    go_ret2
    exact ⟨rfl, Below.refl _ _⟩
  | true =>
    rw [show (⟨#[91]⟩ : ByteArray).data.toList = [91] from rfl, hp] at HP
    obtain ⟨t, hl⟩ : ∃ t, s.data.toList = 91 :: t := by
      rw [hasPrefix_one] at hp
      cases hl : s.data.toList with
      | nil => rw [hl] at hp; cases hp
      | cons b t => rw [hl] at hp; exact ⟨t, by rw [show b = 91 by simpa using hp]⟩
    have hsz : s.size = t.length + 1 := by rw [← Sc.len_size, hl]; rfl
    have hd1 : s.data.toList.drop 1 = t := by rw [hl]; rfl
    have EA : ∀ w, Calls Tryz.prog 181 #[.string s, .int .i64 1, .func (.func 182) #[] #[]] w fun e w' => e = .returned (.int .i64 ((1 + (eachG stopL () (s.data.toList.drop 1)).1 : Nat) : Int)) ∧ Below w.heap.size w w' := fun w => eachL_any s 1 w hs (by omega)
    rw [hd1] at EA
    have hle := eachG_le stopL () t
    have F : Hid (lab s.data.toList = match t.drop (eachG stopL () t).1 with
      | b :: _ => if b ≠ 93 ∨ 999 < (eachG stopL () t).1 ∨ whiteN (t.take (eachG stopL () t).1) = (eachG stopL () t).1 then ([], 0) else (t.take (eachG stopL () t).1, (eachG stopL () t).1 + 2)
      | [] => ([], 0)) := by apply Lib.hid; rw [hl]; rfl
    generalize hk : (eachG stopL () t).1 = k at *
    generalize lab s.data.toList = r at *
    have he : Hid ((s.extract 1 (1 + k)).data.toList = t.take k) := by
      apply Lib.hid
      rw [← hd1]
      obtain ⟨⟨l⟩⟩ := s
      rw [ByteArray.extract_mk]; simp
    have WH := fun w => White_any (s.extract 1 (1 + k)) w (by rw [ByteArray.size_extract]; omega)
    rw [he.out] at WH
    have hwl := whiteN_le (t.take k)
    by_cases h1 : k = t.length
    · have F2 : r = ([], 0) := by rw [F.out, List.drop_eq_nil_of_le (by omega)]
      rw [F2]
      have hk1 : (((1 + k : Nat) : Int) == (s.size : Int)) = true := by rw [beq_iff_eq]; omega
      clear F F2 he hp hd1 hl hk WH
      go_enter Tryz.func158, Tryz.ntmps158
      go_wp2_with (first
        | (go_at_call 30; (with_reducible refine (HP _).mono ?_); rintro e w1 ⟨rfl, rfl⟩)
        | (go_at_call 181; (with_reducible refine (EA _).mono ?_); rintro e w1 ⟨rfl, b1⟩))
      go_ret2
      exact ⟨rfl, b1⟩
    · have hlt : 1 + k < s.size := by omega
      have hkt : k < t.length := by omega
      have hbt : s[1 + k] = t[k] := by
        have := Sc.at_of s (1 + k) hlt
        rw [← this]
        have : s.data.toList[1 + k]'(by rw [Sc.len_size]; exact hlt) = (s.data.toList.drop 1)[k]'(by rw [hd1]; exact hkt) := by rw [List.getElem_drop]
        rw [this]
        congr 1
      have hdk : t.drop k = t[k] :: t.drop (k + 1) := List.drop_eq_getElem_cons hkt
      have hk1 : (((1 + k : Nat) : Int) == (s.size : Int)) = false := by rw [beq_eq_false_iff_ne]; omega
      have e91 : ∀ b : UInt8, ((b.toNat : Int) == 91) = (b == 91) := fun b => beq_u8 b 91 (by decide)
      have hor : t[k] = 91 ∨ t[k] = 93 := by
        obtain ⟨b, rr, u, x1, x2⟩ := eachG_at stopL () t (by rw [hk]; exact hkt)
        rw [hk, hdk] at x1
        cases x1
        unfold stopL stopLB at x2
        split at x2
        · rename_i h; simpa using h
        · cases x2
      rw [← hbt] at hor hdk
      clear hbt hp hd1 hl hk
      rcases hor with q | q
      · have F2 : r = ([], 0) := by rw [F.out, hdk, q]; exact if_pos (.inl (by decide))
        have q1 : (s[1 + k] == 91) = true := by simpa using q
        rw [F2]
        clear F F2 he WH q hdk
        go_enter Tryz.func158, Tryz.ntmps158
        go_wp2_with (first
          | (go_at_call 30; (with_reducible refine (HP _).mono ?_); rintro e w1 ⟨rfl, rfl⟩)
          | (go_at_call 181; (with_reducible refine (EA _).mono ?_); rintro e w1 ⟨rfl, b1⟩))
        go_ret2
        exact ⟨rfl, b1⟩
      · have F2 : Hid (r = if 999 < k ∨ whiteN (t.take k) = k then ([], 0) else (t.take k, k + 2)) := by
          apply Lib.hid; rw [F.out, hdk, q]
          by_cases z : 999 < k ∨ whiteN (t.take k) = k
          · rw [if_pos z]; exact if_pos (.inr z)
          · rw [if_neg z]; exact if_neg (by rintro (x | x); exact x rfl; exact z x)
        have q1 : (s[1 + k] == 91) = false := by rw [q]; rfl
        clear F q hdk
        by_cases h9 : 999 < k
        · have F3 : r = ([], 0) := by rw [F2.out, if_pos (.inl h9)]
          have d9 : decide ((999 : Int) < ((k : Nat) : Int)) = true := by rw [decide_eq_true_iff]; omega
          rw [F3]
          clear F2 F3 he WH
          go_enter Tryz.func158, Tryz.ntmps158
          go_wp2_with (first
            | (go_at_call 30; (with_reducible refine (HP _).mono ?_); rintro e w1 ⟨rfl, rfl⟩)
            | (go_at_call 181; (with_reducible refine (EA _).mono ?_); rintro e w1 ⟨rfl, b1⟩))
          go_ret2
          exact ⟨rfl, b1⟩
        · generalize hN : whiteN (t.take k) = N at *
          by_cases hw : N = k
          · have F3 : r = ([], 0) := by rw [F2.out, if_pos (.inr hw)]
            rw [F3]
            clear F2 F3 he
            go_enter Tryz.func158, Tryz.ntmps158
            go_wp2_with (first
              | (go_at_call 30; (with_reducible refine (HP _).mono ?_); rintro e w1 ⟨rfl, rfl⟩)
              | (go_at_call 183; (with_reducible refine (WH _).mono ?_); rintro e w2 ⟨rfl, b2⟩; have b3 := below_tr b1 b2)
              | (go_at_call 181; (with_reducible refine (EA _).mono ?_); rintro e w1 ⟨rfl, b1⟩))
            all_goals first
              | (go_ret2; exact ⟨rfl, b3⟩)
              | (exfalso; rename_i hq; have hq2 := hq.2; rw [beq_eq_false_iff_ne] at hq2; omega)
          · have F3 : Hid (r = (t.take k, k + 2)) := by apply Lib.hid; rw [F2.out, if_neg (by omega)]
            clear F2
            have hNk : ((N : Int) == (k : Int)) = false := by rw [beq_eq_false_iff_ne]; omega
            have hx : Hid (s.extract 1 (1 + k) = mk (t.take k)) := Lib.hid (mk_of he.out)
            go_enter Tryz.func158, Tryz.ntmps158
            go_wp2_with (first
              | (go_at_call 30; (with_reducible refine (HP _).mono ?_); rintro e w1 ⟨rfl, rfl⟩)
              | (go_at_call 183; (with_reducible refine (WH _).mono ?_); rintro e w2 ⟨rfl, b2⟩; have b3 := below_tr b1 b2)
              | (go_at_call 181; (with_reducible refine (EA _).mono ?_); rintro e w1 ⟨rfl, b1⟩))
            all_goals first
              | (exfalso; rename_i hq; rcases hq with (hq | hq) | hq <;> first | (rw [beq_iff_eq] at hq; omega) | omega)
              | (go_ret2
                 refine ⟨?_, b3⟩
                 rw [F3.out, show ((k + 2 : Nat) : Int) = 1 + (k : Int) + 1 by omega, ← hx.out]
                 rfl)
end Tx
end Go.Proofs.YtehmcahdjldhbaaGreatDoor
end
