/- Parts of this session's proof, one behind the other: LA. -/
import Derived.Test.YtehmcahdjldhbaaGreatDoorZ33
import Derived.Test.YtehmcahdjldhbaaGreatDoorZ34
import Derived.Test.YtehmcahdjldhbaaGreatDoorZ22
section
/- Law 11: BlockApart answers true. -/
open Go Go.RowKit Go.Proofs.YtehmcahdjldhbaaGreatDoorW.PrintWords
set_option linter.unusedVariables false
set_option linter.unusedSimpArgs false
set_option maxRecDepth 100000
namespace Go.Proofs.YtehmcahdjldhbaaGreatDoor
open Wk
namespace Tx
open Bk (strV TS LinesAt NilOk ParsePost parse toSs toBs k32 k63 TBk Tr wpList_lines)
/-- theirs, shift, Same: what is asked of the calls. -/
theorem theirs_any (X : List Tr) (hS : Bk.Small X) (w : World) (A : Option Addr) (c : Nat) (hA : Kd.C k32 w A (toSs X).length (toSs X)) (hc : (toSs X).length ≤ c) :
    Calls Tryz.prog 17 #[.slice A (toSs X).length c] w fun e w' => ∃ A' c', e = .returned (.slice A' (toBs 0 X).length c') ∧ (toBs 0 X).length ≤ c' ∧ Kd.C k63 w' A' (toBs 0 X).length (toBs 0 X) ∧ Below w.heap.size w w' := by
  obtain ⟨k, hk⟩ := Bk.theirs_f hS
  refine (Bk.incipitlaw11_theirs.calls k A c (toSs X) (toBs 0 X) w hA hc hk).mono ?_
  rintro e w' ⟨v, rfl, R, b⟩
  obtain ⟨A', c', rfl, hc', C⟩ := Kd.R_reads R
  exact ⟨A', c', rfl, hc', C, b⟩
theorem shift_any (X : List Tr) (hS : Bk.Small X) (w : World) (A : Option Addr) (c : Nat) (hA : Kd.C k63 w A (toBs 0 X).length (toBs 0 X)) (hc : (toBs 0 X).length ≤ c) :
    Calls Tryz.prog 19 #[.slice A (toBs 0 X).length c, .int .i64 2] w fun e w' => ∃ A' c', e = .returned (.slice A' (toBs 2 X).length c') ∧ (toBs 2 X).length ≤ c' ∧ Kd.C k63 w' A' (toBs 2 X).length (toBs 2 X) ∧ Below w.heap.size w w' := by
  obtain ⟨k, hk⟩ := Bk.shift_f hS
  refine (Bk.incipitlaw11_shift.calls k A c (toBs 0 X) 2 (toBs 2 X) w hA hc hk).mono ?_
  rintro e w' ⟨v, rfl, R, b⟩
  obtain ⟨A', c', rfl, hc', C⟩ := Kd.R_reads R
  exact ⟨A', c', rfl, hc', C, b⟩
theorem same_any (X : List Bk.S63) (w : World) (A A' : Option Addr) (c c' : Nat) (hA : Kd.C k63 w A X.length X) (hB : Kd.C k63 w A' X.length X) :
    Calls Tryz.prog 16 #[.slice A X.length c, .slice A' X.length c'] w fun e w' => e = .returned (.bool true) ∧ Below w.heap.size w w' :=
  Bk.same_eq (SizeOf.sizeOf X + 1) X (Nat.lt_succ_self _) w A A' c c' hA.2.1 hA hB
theorem small_parse (nt : Bool) (l : List Bs) (hs : ∀ s ∈ l, s.length ≤ 200) (hl : l.length ≤ 200) : Bk.Small (parse FF unescF nt l).1 :=
  (Bk.parse_ins FF unescF nt l (fun s h => by have := hs s h; have := phi_four s; omega) hl).small (by omega)
theorem trSs_len (dl : Nat) : ∀ l : List Tr, (Bk.trSs dl l).length = l.length
  | [] => by simp only [Bk.trSs]
  | t :: r => by simp only [Bk.trSs, List.length_cons, trSs_len dl r]
set_option maxHeartbeats 16000000 in
theorem apart_row (v : Value) (l : List Bs) (mask : Int) (w : World) (hE : Env w) (hv : LinesAt w v l) (hn : NilOk v) (h3 : -9223372036854775808 ≤ mask) (h4 : mask ≤ 9223372036854775807) :
    Calls Tryz.prog 9 #[v, .int .i64 mask] w fun e w' => e = .returned (.bool true) ∧ Below w.heap.size w w' := by
  obtain ⟨A, c, rfl⟩ := hv.form
  have AW := awake_any w hE
  have FE := fun w1 (hb : Below w.heap.size w w1) => few_any w1 _ l (hv.below hb)
  cases hf : few l with
  | false =>
    rw [hf] at FE
    go_enter Tryz.func9, Tryz.ntmps9
    go_wp2_with (first
      | (go_at_call 11; (with_reducible refine AW.mono ?_); rintro e w1 ⟨rfl, b1⟩)
      | (go_at_call 12; (with_reducible refine (FE _ b1).mono ?_); rintro e w2 ⟨rfl, b2⟩; have b3 := b1.trans (b2.mono b1.size)))
    go_ret
    exact ⟨rfl, b3⟩
  | true =>
    rw [hf] at FE
    have hf2 : l.length ≤ 40 ∧ ∀ s ∈ l, s.length ≤ 80 := by
      unfold few at hf
      simpa using hf
    have hCL := fun w1 (h : Below w.heap.size w w1) => (hv.below h).cells
    have hNo : A = none → l.length = 0 ∧ c = 0 := fun e => by subst e; exact hn _ _ rfl
    have hs1 : ∀ s ∈ l, s.length ≤ 200 := fun s h => by have := hf2.2 s h; omega
    have hs2 : ∀ s ∈ ([42, 42, 42] :: [] :: l : List Bs), s.length ≤ 200 := fun s h => by
      rcases List.mem_cons.1 h with rfl | h
      · decide
      · rcases List.mem_cons.1 h with rfl | h
        · decide
        · exact hs1 s h
    have PA := fun w1 (hb : Below w.heap.size w w1) => parse_at w1 (hE.below hb) l _ (hv.below hb) mask (by omega) hs1
    have PB := fun w1 (hb : Below w.heap.size w w1) v' (hl : LinesAt w1 v' ([42, 42, 42] :: [] :: l)) => parse_at w1 (hE.below hb) _ v' hl mask (by simp; omega) hs2
    obtain ⟨pS, pT, pN, pM, pf, pF, pL, hp⟩ := Bk.parse_apart FF unescF (Bk.notesOf mask) l
    have q1 := small_parse (Bk.notesOf mask) l hs1 (by omega)
    have q2 := small_parse (Bk.notesOf mask) _ hs2 (by simp; omega)
    unfold ParsePost at PA PB
    unfold FF at hp PA PB q1 q2
    rw [hp] at PB q2
    have q3 : Bk.Small (Bk.trSs 2 (parse (allR unescF) unescF (Bk.notesOf mask) l).1) := by
      cases q2 with
      | cons _ _ _ h _ => exact h
    clear q2
    generalize (parse (allR unescF) unescF (Bk.notesOf mask) l).1 = X at *
    generalize (parse (allR unescF) unescF (Bk.notesOf mask) l).2 = Y at *
    have hl40 : l.length ≤ 40 := hf2.1
    have hsh : toBs 0 (Bk.trSs 2 X) = toBs 2 X := Bk.toBs_shift 2 X
    replace hsh := Lib.hid hsh
    replace q1 := Lib.hid q1
    replace q3 := Lib.hid q3
    replace hNo := Lib.hid hNo
    clear hf2 hf hs1 hs2 hv hn hp
    go_enter Tryz.func9, Tryz.ntmps9
    go_wp2_with (first
      | (go_at_call 11; (with_reducible refine AW.mono ?_); rintro e w1 ⟨rfl, b1⟩)
      | (go_at_call 12; (with_reducible refine (FE _ b1).mono ?_); rintro e w2 ⟨rfl, b2⟩; have b3 := b1.trans (b2.mono b1.size))
      | (go_at_call 13; (with_reducible refine (PA _ b3).mono ?_); rintro e w3 ⟨v1, v2, rfl, R1, S1, b4⟩; have b5 := b3.trans (b4.mono b3.size); obtain ⟨A1, c1, rfl, hc1, C1⟩ := Kd.R_reads R1; obtain ⟨Ar, cr, rfl, hcr⟩ := Bk.own_form S1.1; have hs5 := b5.size)
      | (at_builtin; refine wpList_lines rfl (.tmp 22) (.tmp 23) rfl w.heap.size w3.heap.size 2 2 [.string ⟨#[42, 42, 42]⟩, .string ⟨#[]⟩] rfl ?own (by decide) A c l rfl hNo.out ?cc ?bd ?base ?go))
    case own => exact World.ownsRow_lit (size := 1) _ #[.string ⟨#[42, 42, 42]⟩, .string ⟨#[]⟩] 2 hs5 (by decide) rfl
    case cc => exact hCL _ (b5.alloc hs5 _)
    case bd => omega
    case base => simp; omega
    case go =>
    intro g4 cap4 w4 hown4 hgr4
    have b6 : Below w.heap.size w w4 := (b5.alloc hs5 _).grown hgr4 (by simp; omega) (fun k hk => by cases hk; exact hs5)
    have b6' : Below w3.heap.size w3 w4 := ((Below.refl _ w3).alloc (Nat.le_refl _) _).grown hgr4 (by simp) (fun k hk => by cases hk; exact Nat.le_refl _)
    have hall : ([.string ⟨#[42, 42, 42]⟩, .string ⟨#[]⟩] ++ l.map strV : List Value) = ([42, 42, 42] :: [] :: l : List Bs).map strV := rfl
    have hL : LinesAt w4 (.slice (some ⟨g4, 0, none⟩) (2 + l.length) cap4) ([42, 42, 42] :: [] :: l) := (Bk.LinesAt0.of_own (B := w.heap.size) (by
      have e : ([42, 42, 42] :: [] :: l : List Bs).length = 2 + l.length := by simp; omega
      rw [e, ← hall]; exact hown4)).gen
    replace PB := PB w4 b6 _ hL
    replace C1 := Kd.C_below C1 b6'
    clear hgr4 hown4 hall hL b6' PA FE AW hCL R1
    have hz : (Bk.toSs (Tr.mk 9 pS pT pN pM pf pF pL [] :: Bk.trSs 2 X)).length = (toSs X).length + 1 := by
      rw [Bk.toSs_length, Bk.toSs_length, List.length_cons, trSs_len]
    replace hz := Lib.hid hz
    have hnX : (toSs X).length ≤ 1000000000000 := by rw [Bk.toSs_length]; exact q1.out.len
    generalize hn : (toSs X).length = nX at *
    generalize hm : Y.length = nY at *
    replace hn := Lib.hid hn
    replace hm := Lib.hid hm
    go_upto_region 8 with (go_at_call 13; (with_reducible refine PB.mono ?_); rintro e w5 ⟨v3, v4, rfl, R3, S3, b7⟩; have b8 := b6.trans (b7.mono b6.size); obtain ⟨A3, c3, rfl, hc3, C3⟩ := Kd.R_reads R3; obtain ⟨As, cs, rfl, hcs⟩ := Bk.own_form S3.1; replace C1 := Kd.C_below C1 b7; obtain ⟨ad, A8, c8, rfl, a0, -, -, -, -⟩ := row0 C3 (by rw [hz.out]; omega); rw [hz.out] at hc3 C3 ⊢; rw [hm.out] at hcs ⊢; replace a0 : w5.cell? ad = some (.int .i64 9) := a0; replace C3 := Lib.hid C3; replace C1 := Lib.hid C1; replace hm := Lib.hid hm; clear R3 S3 S1 PB)
    have e1 : (toBs 0 X).length = (toSs X).length := by rw [Bk.toBs_len, Bk.toSs_length]
    have e2 : (toBs 2 X).length = (toSs X).length := by rw [Bk.toBs_len, Bk.toSs_length]
    have e3 : (toSs (Bk.trSs 2 X)).length = (toSs X).length := by rw [Bk.toSs_length, Bk.toSs_length, trSs_len]
    have T1 : ∀ w6, Below w5.heap.size w5 w6 → Calls Tryz.prog 17 #[.slice A1 nX c1] w6 fun e w' => ∃ A' c', e = .returned (.slice A' nX c') ∧ nX ≤ c' ∧ Hid (Kd.C k63 w' A' nX (toBs 0 X)) ∧ Below w6.heap.size w6 w' := fun w6 h => by
      have := theirs_any X q1.out w6 A1 c1 (by rw [hn.out]; exact Kd.C_below C1.out h) (by rw [hn.out]; exact hc1)
      rw [hn.out] at this
      rw [e1, hn.out] at this
      exact this.mono fun e w' ⟨A', c', x1, x2, x3, x4⟩ => ⟨A', c', x1, x2, Lib.hid x3, x4⟩
    have T2 : ∀ w6 A' c', nX ≤ c' → Hid (Kd.C k63 w6 A' nX (toBs 0 X)) → Calls Tryz.prog 19 #[.slice A' nX c', .int .i64 2] w6 fun e w' => ∃ A' c', e = .returned (.slice A' nX c') ∧ nX ≤ c' ∧ Hid (Kd.C k63 w' A' nX (toBs 2 X)) ∧ Below w6.heap.size w6 w' := fun w6 A' c' h1 h2 => by
      have := shift_any X q1.out w6 A' c' (by rw [e1, hn.out]; exact h2.out) (by rw [e1, hn.out]; exact h1)
      rw [e1, e2, hn.out] at this
      exact this.mono fun e w' ⟨A', c', x1, x2, x3, x4⟩ => ⟨A', c', x1, x2, Lib.hid x3, x4⟩
    have T3 : ∀ w6, Below w5.heap.size w5 w6 → Calls Tryz.prog 17 #[.slice (if c3 = 1 then some ad else some (ad.add 9)) nX (c3 - 1)] w6 fun e w' => ∃ A' c', e = .returned (.slice A' nX c') ∧ nX ≤ c' ∧ Hid (Kd.C k63 w' A' nX (toBs 2 X)) ∧ Below w6.heap.size w6 w' := fun w6 h => by
      have hc := Kd.C_drop (m := 1) (c := c3) (show Kd.C k32 w5 (some ad) (toSs (Tr.mk 9 pS pT pN pM pf pF pL [] :: Bk.trSs 2 X)).length _ by rw [hz.out]; exact C3.out) (by rw [hz.out]; omega) (by rw [hz.out]; exact hc3)
      have := theirs_any (Bk.trSs 2 X) q3.out w6 (if c3 = 1 then some ad else some (ad.add 9)) (c3 - 1) (Kd.C_below hc h) (by rw [e3, hn.out]; omega)
      rw [hsh.out, e2, e3, hn.out] at this
      exact this.mono fun e w' ⟨A', c', x1, x2, x3, x4⟩ => ⟨A', c', x1, x2, Lib.hid x3, x4⟩
    have T4 : ∀ w6 A' c' A'' c'', Hid (Kd.C k63 w6 A' nX (toBs 2 X)) → Hid (Kd.C k63 w6 A'' nX (toBs 2 X)) → Calls Tryz.prog 16 #[.slice A' nX c', .slice A'' nX c''] w6 fun e w' => e = .returned (.bool true) ∧ Below w6.heap.size w6 w' := fun w6 A' c' A'' c'' h1 h2 => by
      have := same_any (toBs 2 X) w6 A' A'' c' c'' (by rw [e2, hn.out]; exact h1.out) (by rw [e2, hn.out]; exact h2.out)
      rw [e2, hn.out] at this
      exact this
    clear e1 e2 e3
    by_cases hc31 : c3 = 1
    · replace T3 : ∀ w6, Below w5.heap.size w5 w6 → Calls Tryz.prog 17 #[.slice (some ad) nX 0] w6 fun e w' => ∃ A' c', e = .returned (.slice A' nX c') ∧ nX ≤ c' ∧ Hid (Kd.C k63 w' A' nX (toBs 2 X)) ∧ Below w6.heap.size w6 w' := fun w6 h => by have := T3 w6 h; rw [if_pos hc31, hc31] at this; exact this
      go_region_with (first
        | (go_at_call 17; (with_reducible refine (T1 _ ((Below.refl _ _).drew)).mono ?_); rintro e w6 ⟨A6, c6, rfl, hc6, C6, b9⟩; replace b9 : Below w5.heap.size w5 w6 := ⟨b9.os, b9.tape, b9.output, b9.size, b9.block⟩)
        | (go_at_call 19; (with_reducible refine (T2 _ _ _ hc6 C6).mono ?_); rintro e w7 ⟨A7, c7, rfl, hc7, C7, b10⟩; have b11 := b9.trans (b10.mono b9.size))
        | (go_at_call 17; (with_reducible refine (T3 _ b11).mono ?_); rintro e w8 ⟨A8', c8', rfl, hc8, C8, b12⟩; have b13 := b11.trans (b12.mono b11.size); replace C7 := Lib.hid (Kd.C_below C7.out b12))
        | (go_at_call 16; (with_reducible refine (T4 _ _ _ _ _ C7 C8).mono ?_); rintro e w9 ⟨rfl, b14⟩; have b15 := b13.trans (b14.mono b13.size)))
      all_goals (
        go_wp2
        go_ret
        exact ⟨rfl, b8.trans (b15.mono b8.size)⟩)
    · replace T3 : ∀ w6, Below w5.heap.size w5 w6 → Calls Tryz.prog 17 #[.slice (some ⟨ad.block, ad.off + 9, none⟩) nX (c3 - 1)] w6 fun e w' => ∃ A' c', e = .returned (.slice A' nX c') ∧ nX ≤ c' ∧ Hid (Kd.C k63 w' A' nX (toBs 2 X)) ∧ Below w6.heap.size w6 w' := fun w6 h => by have := T3 w6 h; rw [if_neg hc31] at this; exact this
      go_region_with (first
        | (go_at_call 17; (with_reducible refine (T1 _ ((Below.refl _ _).drew)).mono ?_); rintro e w6 ⟨A6, c6, rfl, hc6, C6, b9⟩; replace b9 : Below w5.heap.size w5 w6 := ⟨b9.os, b9.tape, b9.output, b9.size, b9.block⟩)
        | (go_at_call 19; (with_reducible refine (T2 _ _ _ hc6 C6).mono ?_); rintro e w7 ⟨A7, c7, rfl, hc7, C7, b10⟩; have b11 := b9.trans (b10.mono b9.size))
        | (go_at_call 17; (with_reducible refine (T3 _ b11).mono ?_); rintro e w8 ⟨A8', c8', rfl, hc8, C8, b12⟩; have b13 := b11.trans (b12.mono b11.size); replace C7 := Lib.hid (Kd.C_below C7.out b12))
        | (go_at_call 16; (with_reducible refine (T4 _ _ _ _ _ C7 C8).mono ?_); rintro e w9 ⟨rfl, b14⟩; have b15 := b13.trans (b14.mono b13.size)))
      all_goals (
        go_wp2
        go_ret
        exact ⟨rfl, b8.trans (b15.mono b8.size)⟩)
end Tx
end Go.Proofs.YtehmcahdjldhbaaGreatDoor
end
