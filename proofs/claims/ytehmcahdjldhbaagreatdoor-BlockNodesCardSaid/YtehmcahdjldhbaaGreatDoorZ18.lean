/- Parts of this session's proof, one behind the other: E6 E7 E8 E9 E10. -/
import Derived.Test.YtehmcahdjldhbaaGreatDoorZ17
import Derived.StillTailTactics
import Derived.Test.YtehmcahdjldhbaaGreatDoorZ12
import Derived.Deep.WholeRow
section
/- Package link: angled, Dest, Title. -/
open Go Go.RowKit
set_option linter.unusedVariables false
set_option linter.unusedSimpArgs false
set_option maxRecDepth 100000
namespace Go.Proofs.YtehmcahdjldhbaaGreatDoor
open Wk
namespace Tx
/-- escape.Unescape at a text. -/
def UnC (U : Bs → Bs) (s : Bs) : Prop := ∀ w, Env w → Calls Tryz.prog 80 #[.string (mk s)] w fun e w' => e = .returned (.string (mk (U s))) ∧ Below w.heap.size w w'
end Tx
namespace Bk
/-- A part of a text. -/
def Suf0 (l x : List UInt8) : Prop := ∃ a k, x = (l.drop a).take k
theorem blk_below' {w w1 : World} {g : Nat} {o : Obj} (h : w.heap[g]? = some o) (hb : Below w.heap.size w w1) : w1.heap[g]? = some o := (hb.block g (Array.getElem?_eq_some_iff.1 h).1).trans h
theorem Suf0.of_take (l : List UInt8) (k : Nat) : Suf0 l (l.take k) := ⟨0, k, rfl⟩
theorem Suf0.of_take1 (b : UInt8) (t : List UInt8) (k : Nat) : Suf0 (b :: t) (t.take k) := ⟨1, k, rfl⟩
end Bk
namespace Tx
section
variable (U : Bs → Bs)
def angled (t : Bs) : Bs × Nat × Bool :=
  let k := (eachG stopA () t).1
  match t.drop k with
  | b :: _ => if b ≠ 62 then ([], 0, false) else (U (t.take k), k + 2, true)
  | [] => ([], 0, false)
def dest0 (l : Bs) : Bs × Nat × Bool :=
  let r := eachG stopD (0, false) l
  if r.1 = 0 ∨ 0 < r.2.1 ∨ r.2.2 = true then ([], 0, false) else (U (l.take r.1), r.1, true)
def dest (l : Bs) : Bs × Nat × Bool :=
  match l with
  | [] => dest0 U []
  | b :: t => if b = 60 then angled U t else dest0 U (b :: t)
def title (l : Bs) : Bs × Nat :=
  if closing l = 0 then ([], 0) else
  let k := (eachG (stopT (closing l)) () (l.drop 1)).1
  match (l.drop 1).drop k with
  | b :: _ => if b ≠ closing l ∨ lgap (mk ((l.drop 1).take k)) = true then ([], 0) else (U ((l.drop 1).take k), k + 2)
  | [] => ([], 0)
end
theorem extract1 (s : ByteArray) (t : Bs) (k : Nat) (hd : s.data.toList.drop 1 = t) : s.extract 1 (1 + k) = mk (t.take k) := by
  apply mk_of
  rw [← hd]
  obtain ⟨⟨l⟩⟩ := s
  rw [ByteArray.extract_mk]; simp
theorem byte1 (s : ByteArray) (t : Bs) (k : Nat) (hd : s.data.toList.drop 1 = t) (h : 1 + k < s.size) : ∃ r, t.drop k = s[1 + k] :: r := by
  refine ⟨s.data.toList.drop (1 + k + 1), ?_⟩
  rw [← hd, List.drop_drop]
  exact Sc.drop_at s (1 + k) h
set_option maxHeartbeats 8000000 in
theorem angled_any (U : Bs → Bs) (s : ByteArray) (t : Bs) (hl : s.data.toList = 60 :: t) (w : World) (hE : Env w) (hs : s.size ≤ 4000000000) (hU : ∀ k, UnC U (t.take k)) :
    Calls Tryz.prog 184 #[.string s] w fun e w' => e = .returned (.tuple #[.string (mk (angled U t).1), .int .i64 (angled U t).2.1, .bool (angled U t).2.2]) ∧ Below w.heap.size w w' := by
  have hsz : s.size = t.length + 1 := by rw [← Sc.len_size, hl]; rfl
  have hd1 : s.data.toList.drop 1 = t := by rw [hl]; rfl
  have EA : ∀ w, Calls Tryz.prog 181 #[.string s, .int .i64 1, .func (.func 205) #[] #[]] w fun e w' => e = .returned (.int .i64 ((1 + (eachG stopA () (s.data.toList.drop 1)).1 : Nat) : Int)) ∧ Below w.heap.size w w' := fun w => eachA_any s 1 w hs (by omega)
  rw [hd1] at EA
  have hle := eachG_le stopA () t
  have F : Hid (angled U t = match t.drop (eachG stopA () t).1 with
    | b :: _ => if b ≠ 62 then ([], 0, false) else (U (t.take (eachG stopA () t).1), (eachG stopA () t).1 + 2, true)
    | [] => ([], 0, false)) := Lib.hid rfl
  generalize (eachG stopA () t).1 = k at *
  generalize angled U t = r at *
  have hx : Hid (s.extract 1 (1 + k) = mk (t.take k)) := Lib.hid (extract1 s t k hd1)
  have UN := hU k
  by_cases h1 : k = t.length
  · have F2 : r = ([], 0, false) := by rw [F.out, List.drop_eq_nil_of_le (by omega)]
    rw [F2]
    have hk1 : (((1 + k : Nat) : Int) == (s.size : Int)) = true := by rw [beq_iff_eq]; omega
    clear F F2 hd1 hl hx UN hU
    go_enter Tryz.func184, Tryz.ntmps184
    go_wp2_with (go_at_call 181; (with_reducible refine (EA _).mono ?_); rintro e w1 ⟨rfl, b1⟩)
    go_ret3
    exact ⟨rfl, b1⟩
  · have hlt : 1 + k < s.size := by omega
    obtain ⟨rr, hdk⟩ := byte1 s t k hd1 hlt
    have e62 : ∀ b : UInt8, ((b.toNat : Int) != 62) = (b != 62) := fun b => bne_u8 b 62 (by decide)
    have hk1 : (((1 + k : Nat) : Int) == (s.size : Int)) = false := by rw [beq_eq_false_iff_ne]; omega
    by_cases q : s[1 + k] = 62
    · have F2 : Hid (r = (U (t.take k), k + 2, true)) := by apply Lib.hid; rw [F.out, hdk]; exact if_neg (fun x => x q)
      have q1 : (s[1 + k] != 62) = false := by rw [q]; rfl
      unfold UnC at UN
      rw [← hx.out] at UN
      clear F q hdk hU hd1 hl
      go_enter Tryz.func184, Tryz.ntmps184
      go_wp2_with (first
        | (go_at_call 181; (with_reducible refine (EA _).mono ?_); rintro e w1 ⟨rfl, b1⟩; have hE1 := hE.below b1)
        | (go_at_call 80; (with_reducible refine (UN _ hE1).mono ?_); rintro e w2 ⟨rfl, b2⟩; have b3 := below_tr b1 b2))
      go_ret3
      refine ⟨?_, b3⟩
      rw [F2.out, show ((k + 2 : Nat) : Int) = 1 + (k : Int) + 1 by omega]
      rfl
    · have F2 : r = ([], 0, false) := by rw [F.out, hdk]; exact if_pos q
      have q1 : (s[1 + k] != 62) = true := by rw [bne_iff_ne]; exact q
      rw [F2]
      clear F F2 q hdk hU UN hd1 hl hx
      go_enter Tryz.func184, Tryz.ntmps184
      go_wp2_with (go_at_call 181; (with_reducible refine (EA _).mono ?_); rintro e w1 ⟨rfl, b1⟩)
      go_ret3
      exact ⟨rfl, b1⟩
set_option maxHeartbeats 8000000 in
theorem Dest_any (U : Bs → Bs) (s : ByteArray) (w : World) (hE : Env w) (hs : s.size ≤ 1000000000) (hU : ∀ x, Bk.Suf0 s.data.toList x → UnC U x) :
    Calls Tryz.prog 160 #[.string s] w fun e w' => e = .returned (.tuple #[.string (mk (dest U s.data.toList).1), .int .i64 (dest U s.data.toList).2.1, .bool (dest U s.data.toList).2.2]) ∧ Below w.heap.size w w' := by
  have HP := fun w => Tryz.strings_HasPrefix s ⟨#[60]⟩ w
  rw [show (⟨#[60]⟩ : ByteArray).data.toList = [60] from rfl] at HP
  by_cases hp : ∃ t, s.data.toList = 60 :: t
  · obtain ⟨t, hl⟩ := hp
    have e1 : Lib.hasPrefix s.data.toList [60] = true := by rw [hl, hasPrefix_one]; rfl
    rw [e1] at HP
    have AN := fun w hE => angled_any U s t hl w hE (by omega) (fun k => hU _ (by rw [hl]; exact Bk.Suf0.of_take1 60 t k))
    have F : Hid (dest U s.data.toList = angled U t) := by apply Lib.hid; rw [hl]; unfold dest; exact if_pos rfl
    generalize dest U s.data.toList = r at *
    generalize angled U t = r2 at *
    clear e1 hl
    go_enter Tryz.func160, Tryz.ntmps160
    go_wp2_with (first
      | (go_at_call 30; (with_reducible refine (HP _).mono ?_); rintro e w1 ⟨rfl, rfl⟩)
      | (go_at_call 184; (with_reducible refine (AN _ hE).mono ?_); rintro e w1 ⟨rfl, b1⟩))
    go_ret3
    refine ⟨?_, b1⟩
    rw [F.out]; rfl
  · have e1 : Lib.hasPrefix s.data.toList [60] = false := by
      rw [hasPrefix_one]
      cases hl : s.data.toList with
      | nil => rfl
      | cons b t => rw [beq_eq_false_iff_ne]; intro e; exact hp ⟨t, by rw [hl, e]⟩
    rw [e1] at HP
    have F : Hid (dest U s.data.toList = dest0 U s.data.toList) := by
      apply Lib.hid
      cases hl : s.data.toList with
      | nil => rfl
      | cons b t => unfold dest; exact if_neg fun e => hp ⟨t, by rw [hl, e]⟩
    generalize dest U s.data.toList = r at *
    have F2 : Hid (dest0 U s.data.toList = if (eachG stopD (0, false) s.data.toList).1 = 0 ∨ 0 < (eachG stopD (0, false) s.data.toList).2.1 ∨ (eachG stopD (0, false) s.data.toList).2.2 = true then ([], 0, false) else (U (s.data.toList.take (eachG stopD (0, false) s.data.toList).1), (eachG stopD (0, false) s.data.toList).1, true)) := Lib.hid rfl
    have hle := eachG_le stopD (0, false) s.data.toList
    rw [Sc.len_size] at hle
    have UN := hU _ (Bk.Suf0.of_take s.data.toList (eachG stopD (0, false) s.data.toList).1)
    have hx : Hid (s.extract 0 (eachG stopD (0, false) s.data.toList).1 = mk (s.data.toList.take (eachG stopD (0, false) s.data.toList).1)) := Lib.hid (mk_of (Sc.take_data s _))
    have ED := fun (B go gd : Nat) w (hD : AtD B go gd 0 false w) (hB : B ≤ w.heap.size) => eachD_any s w hs hD hB
    rw [F2.out] at F
    unfold UnC at UN
    rw [← hx.out] at UN
    have hGI : Hid (eachG stopD (0, false) s.data.toList = eachG stopD (0, false) s.data.toList) := Lib.hid rfl
    generalize eachG stopD (0, false) s.data.toList = R at *
    obtain ⟨k, o0, d0⟩ := R
    clear e1 hp hU F2 hGI
    unfold EachD at ED
    have key : ∀ w : World, Env w → Env ((w.alloc (.cells #[.int .i64 0] 3)).alloc (.cells #[.bool false] 4)) ∧ AtD w.heap.size w.heap.size (w.heap.size + 1) 0 false ((w.alloc (.cells #[.int .i64 0] 3)).alloc (.cells #[.bool false] 4)) ∧ Below w.heap.size w ((w.alloc (.cells #[.int .i64 0] 3)).alloc (.cells #[.bool false] 4)) := fun w hE => by
      have a1 := (Below.refl w.heap.size w).alloc (Nat.le_refl _) (.cells #[.int .i64 0] 3)
      have a2 := a1.alloc (by simp) (.cells #[.bool false] 4)
      refine ⟨hE.below a2, ⟨⟨?_⟩, ⟨?_⟩, Nat.le_refl _, Nat.le_succ _, by omega⟩, a2⟩
      · exact Bk.blk_below' (heap_alloc_new w _) ((Below.refl _ _).alloc (Nat.le_refl _) _)
      · have := heap_alloc_new (w.alloc (.cells #[.int .i64 0] 3)) (.cells #[.bool false] 4)
        rw [World.size_alloc] at this; exact this
    go_enter Tryz.func160, Tryz.ntmps160
    go_wp2_with (first
      | (go_at_call 30; (with_reducible refine (HP _).mono ?_); rintro e w1 ⟨rfl, rfl⟩; obtain ⟨hE1, hD0, hb0⟩ := key _ hE)
      | (go_at_call 181; (with_reducible refine (ED _ _ _ _ hD0 hb0.size).mono ?_); rintro e w2 ⟨r2, rfl, o, d, hRR, hD2, hb2⟩; obtain ⟨rfl, hod⟩ := hRR.out; cases hod; clear hRR; have c1 := hD2.ao.cell; have c2 := hD2.ad.cell; have hb3 := hb0.trans hb2; have hE3 := hE.below hb3)
      | (go_at_call 80; (with_reducible refine (UN _ hE3).mono ?_); rintro e w3 ⟨rfl, b3⟩; have b4 := below_tr hb3 b3))
    all_goals clear HP key ED UN hE hE1 hD0 hb0 hD2 c1 c2 hE3 hx
    all_goals try clear b3
    all_goals try clear hb2
    · rename_i q
      go_ret3
      refine ⟨?_, hb3⟩
      rw [F.out, if_pos (.inl q)]; rfl
    · rename_i q1 q2 q3
      have q4 : d0 = true := by
        rcases q3 with x | x
        · rw [beq_iff_eq] at x; omega
        · exact x
      go_ret3
      refine ⟨?_, hb3⟩
      rw [F.out, if_pos (.inr (.inr q4))]; rfl
    · have q4 : ¬ (r2 = 0 ∨ 0 < o0 ∨ d0 = true) := by
        rename_i q1 q2 q3
        have := q3.2
        rintro (x | x | x)
        · exact q1 x
        · omega
        · rw [x] at this; cases this
      go_ret3
      refine ⟨?_, b4⟩
      rw [F.out, if_neg q4]; rfl
    · rename_i q1 q2
      go_ret3
      refine ⟨?_, hb3⟩
      rw [F.out, if_pos (.inr (.inl (by omega)))]; rfl
set_option maxHeartbeats 8000000 in
theorem Title_any (U : Bs → Bs) (s : ByteArray) (w : World) (hE : Env w) (hs : s.size ≤ 1000000000) (hU : ∀ x, Bk.Suf0 s.data.toList x → UnC U x) :
    Calls Tryz.prog 190 #[.string s] w fun e w' => e = .returned (.tuple #[.string (mk (title U s.data.toList).1), .int .i64 (title U s.data.toList).2]) ∧ Below w.heap.size w w' := by
  have CL := fun w => closing_any s w
  have F : Hid (title U s.data.toList = if closing s.data.toList = 0 then ([], 0) else match (s.data.toList.drop 1).drop (eachG (stopT (closing s.data.toList)) () (s.data.toList.drop 1)).1 with
    | b :: _ => if b ≠ closing s.data.toList ∨ lgap (mk ((s.data.toList.drop 1).take (eachG (stopT (closing s.data.toList)) () (s.data.toList.drop 1)).1)) = true then ([], 0) else (U ((s.data.toList.drop 1).take (eachG (stopT (closing s.data.toList)) () (s.data.toList.drop 1)).1), (eachG (stopT (closing s.data.toList)) () (s.data.toList.drop 1)).1 + 2)
    | [] => ([], 0)) := Lib.hid rfl
  generalize title U s.data.toList = r at *
  by_cases h0 : closing s.data.toList = 0
  · have F2 : r = ([], 0) := by rw [F.out, if_pos h0]
    rw [F2]
    rw [h0] at CL
    clear F F2 h0 hU
    go_enter Tryz.func190, Tryz.ntmps190
    go_wp2_with (go_at_call 210; (with_reducible refine (CL _).mono ?_); rintro e w1 ⟨rfl, b1⟩)
    go_ret2
    exact ⟨rfl, below_al b1 _⟩
  · rw [if_neg h0] at F
    have hsz : 0 < s.size := by
      have := Sc.len_size s
      cases hl : s.data.toList with
      | nil => rw [hl] at h0; exact absurd rfl h0
      | cons b t => rw [hl] at this; simp at this; omega
    have hlen1 : (s.data.toList.drop 1).length = s.size - 1 := by rw [List.length_drop, Sc.len_size]
    generalize hc : closing s.data.toList = c at *
    have EA : ∀ (g : Nat) w, AtB g c w → Calls Tryz.prog 181 #[.string s, .int .i64 1, .func (.func 211) #[] #[.pointer (some ⟨g, 0, none⟩)]] w fun e w' => e = .returned (.int .i64 ((1 + (eachG (stopT c) () (s.data.toList.drop 1)).1 : Nat) : Int)) ∧ Below w.heap.size w w' := fun g w hg => eachT_any (c := c) s 1 w (by omega) (by omega) hg
    have hle := eachG_le (stopT c) () (s.data.toList.drop 1)
    have hx := fun k => Lib.hid (extract1 s _ k rfl)
    have hy := fun k => byte1 s _ k rfl
    have UN := fun k => hU _ (⟨1, k, rfl⟩ : Bk.Suf0 s.data.toList ((s.data.toList.drop 1).take k))
    clear hU
    generalize (eachG (stopT c) () (s.data.toList.drop 1)).1 = k at *
    have hx := hx k
    have hy := hy k
    have UN := UN k
    unfold UnC at UN
    rw [← hx.out] at UN F
    generalize s.data.toList.drop 1 = t at *
    have GP := fun w hE => gap_any (s.extract 1 (1 + k)) w hE (by rw [ByteArray.size_extract]; omega)
    have key : ∀ w0 w1 : World, Env w0 → Below w0.heap.size w0 w1 → Env (w1.alloc (.cells #[.int .u8 c.toNat] 5)) ∧ AtB w1.heap.size c (w1.alloc (.cells #[.int .u8 c.toNat] 5)) ∧ Below w0.heap.size w0 (w1.alloc (.cells #[.int .u8 c.toNat] 5)) := fun w0 w1 hE hb =>
      ⟨hE.below (below_al hb _), ⟨heap_alloc_new w1 _⟩, below_al hb _⟩
    have ec0 : (((c.toNat : Nat) : Int) == 0) = false := by
      rw [beq_eq_false_iff_ne]; intro e; apply h0; apply UInt8.toNat_inj.1; show c.toNat = 0; omega
    have enn : ∀ a b : UInt8, ((a.toNat : Int) != b.toNat) = (a != b) := fun a b => by simp only [bne, beq_uu]
    by_cases h1 : k = t.length
    · have F2 : r = ([], 0) := by rw [F.out, List.drop_eq_nil_of_le (by omega)]
      rw [F2]
      have hk1 : ((1 + (k : Int)) == (s.size : Int)) = true := by rw [beq_iff_eq]; omega
      clear F F2 hx UN hy GP enn h1 hlen1 hle
      go_enter Tryz.func190, Tryz.ntmps190
      go_wp2_with (first
        | (go_at_call 210; (with_reducible refine (CL _).mono ?_); rintro e w1 ⟨rfl, b1⟩; obtain ⟨hE1, hB1, hb1⟩ := key _ _ hE b1)
        | (go_at_call 181; (with_reducible refine (EA _ _ hB1).mono ?_); rintro e w2 ⟨rfl, b2⟩; have hB2 := hB1.below b2; have c4 := hB2.cell; have hb2 := below_tr hb1 b2; have hE2 := hE.below hb2))
      go_still_tail 15, (by kernel_rfl)
      change wpList _ _ _ _ _ w2.drew
      have hb3 := hb2.drew
      generalize w2.drew = w3 at *
      go_wp2
      go_ret2
      exact ⟨rfl, hb3⟩
    · have hlt : 1 + k < s.size := by omega
      obtain ⟨rr, hdk⟩ := hy hlt
      have hk1 : ((1 + (k : Int)) == (s.size : Int)) = false := by rw [beq_eq_false_iff_ne]; omega
      have hi1 : (0 : Int) ≤ 1 + (k : Int) := by omega
      have hi2 : 1 + (k : Int) < (s.size : Int) := by omega
      have hi3 : (1 + (k : Int)).toNat = 1 + k := by omega
      have hi4 : (1 : Int) ≤ 1 + (k : Int) := by omega
      have hi5 : 1 + (k : Int) ≤ (s.size : Int) := by omega
      clear hle hlen1 h1
      by_cases q : s[1 + k] = c
      · have q1 : (s[1 + k] != c) = false := by rw [q]; simp
        have F2 : Hid (r = if lgap (s.extract 1 (1 + k)) = true then ([], 0) else (U (t.take k), k + 2)) := by
          apply Lib.hid; rw [F.out, hdk, hx.out]
          by_cases z : lgap (mk (t.take k)) = true
          · rw [if_pos z]; exact if_pos (.inr z)
          · rw [if_neg z]; exact if_neg (by rintro (x | x); exact x q; exact z x)
        clear F hdk q hx
        cases hg : lgap (s.extract 1 (1 + k)) with
        | true =>
          have F3 : r = ([], 0) := by rw [F2.out, if_pos hg]
          rw [F3]
          rw [hg] at GP
          clear F2 F3 hg UN
          go_enter Tryz.func190, Tryz.ntmps190
          go_wp2_with (first
            | (go_at_call 210; (with_reducible refine (CL _).mono ?_); rintro e w1 ⟨rfl, b1⟩; obtain ⟨hE1, hB1, hb1⟩ := key _ _ hE b1)
            | (go_at_call 181; (with_reducible refine (EA _ _ hB1).mono ?_); rintro e w2 ⟨rfl, b2⟩; have hB2 := hB1.below b2; have c4 := hB2.cell; have hb2 := below_tr hb1 b2; have hE2 := hE.below hb2))
          go_still_tail 15, (by kernel_rfl)
          change wpList _ _ _ _ _ w2.drew
          have hb3 := hb2.drew
          have hE3 := hE.below hb3
          generalize w2.drew = w3 at *
          go_wp2_with (go_at_call 212; (with_reducible refine (GP _ hE3).mono ?_); rintro e w4 ⟨rfl, b4⟩; have hb4 := below_tr hb3 b4)
          go_ret2
          exact ⟨rfl, hb4⟩
        | false =>
          have F3 : Hid (r = (U (t.take k), k + 2)) := by apply Lib.hid; rw [F2.out, if_neg (by rw [hg]; decide)]
          rw [hg] at GP
          clear F2 hg
          go_enter Tryz.func190, Tryz.ntmps190
          go_wp2_with (first
            | (go_at_call 210; (with_reducible refine (CL _).mono ?_); rintro e w1 ⟨rfl, b1⟩; obtain ⟨hE1, hB1, hb1⟩ := key _ _ hE b1)
            | (go_at_call 181; (with_reducible refine (EA _ _ hB1).mono ?_); rintro e w2 ⟨rfl, b2⟩; have hB2 := hB1.below b2; have c4 := hB2.cell; have hb2 := below_tr hb1 b2; have hE2 := hE.below hb2))
          go_still_tail 15, (by kernel_rfl)
          change wpList _ _ _ _ _ w2.drew
          have hb3 := hb2.drew
          have hE3 := hE.below hb3
          generalize w2.drew = w3 at *
          go_wp2_with (first
            | (go_at_call 212; (with_reducible refine (GP _ hE3).mono ?_); rintro e w4 ⟨rfl, b4⟩; have hb4 := below_tr hb3 b4; have hE4 := hE.below hb4)
            | (go_at_call 80; (with_reducible refine (UN _ hE4).mono ?_); rintro e w5 ⟨rfl, b5⟩; have hb5 := below_tr hb4 b5))
          go_ret2
          refine ⟨?_, hb5⟩
          rw [F3.out, show ((k + 2 : Nat) : Int) = 1 + (k : Int) + 1 by omega]
          rfl
      · have F2 : r = ([], 0) := by rw [F.out, hdk]; exact if_pos (.inl q)
        have q1 : (s[1 + k] != c) = true := by rw [bne_iff_ne]; exact q
        rw [F2]
        clear F F2 q hdk UN GP hx
        go_enter Tryz.func190, Tryz.ntmps190
        go_wp2_with (first
          | (go_at_call 210; (with_reducible refine (CL _).mono ?_); rintro e w1 ⟨rfl, b1⟩; obtain ⟨hE1, hB1, hb1⟩ := key _ _ hE b1)
          | (go_at_call 181; (with_reducible refine (EA _ _ hB1).mono ?_); rintro e w2 ⟨rfl, b2⟩; have hB2 := hB1.below b2; have c4 := hB2.cell; have hb2 := below_tr hb1 b2; have hE2 := hE.below hb2))
        go_still_tail 15, (by kernel_rfl)
        change wpList _ _ _ _ _ w2.drew
        have hb3 := hb2.drew
        have hE3 := hE.below hb3
        generalize w2.drew = w3 at *
        go_wp2
        go_ret2
        exact ⟨rfl, hb3⟩
end Tx
end Go.Proofs.YtehmcahdjldhbaaGreatDoor
end
section
/- Package escape: Unescape, where entity.Read answers. -/
open Go Go.RowKit
set_option linter.unusedVariables false
set_option linter.unusedSimpArgs false
set_option maxRecDepth 100000
namespace Go.Proofs.YtehmcahdjldhbaaGreatDoor
open Wk
namespace Tx
open Bk (TB writeByte_any writeString_any builderString_any builderString_nil strCells_mk byteCells_app)
theorem builderStr_any (B b : Nat) (l : List UInt8) (w : World) (h : Lib.IsBuilder TB 5 B b (Lib.byteCells l) w) (hB : B ≤ w.heap.size) :
    Calls Tryz.prog 94 #[.pointer (some ⟨b, 0, none⟩)] w fun e w' => e = .returned (.string (mk l)) ∧ Below B w w' := by
  by_cases h0 : l = []
  · subst h0
    exact Any.Builder_String_empty (ρ := Tryz.lays156_ren) { Tryz.lays156 with } Tryz.Builder_Extra_156 B b w h hB
  · exact builderString_any B b l w h h0
theorem bld_below {T e B b : Nat} {bs : List Value} {w w1 : World} (h : Lib.IsBuilder T e B b bs w) (hb : Below w.heap.size w w1) : Lib.IsBuilder T e B b bs w1 := by
  rcases h with ⟨hB, v, h1, h2, h3⟩ | ⟨hB, v, h1, h2, h3⟩
  · exact .inl ⟨hB, v, Bk.blk_below' h1 hb, Bk.own_below h2 hb, h3⟩
  · exact .inr ⟨hB, v, Bk.blk_below' h1 hb, Bk.own_below h2 hb, h3⟩
theorem extract01 (r : ByteArray) (h : 0 < r.size) : r.extract 0 1 = mk [r[0]] := by
  apply mk_of
  rw [Sc.take_data, Sc.head_of h]; rfl
theorem extract12 (r : ByteArray) (h : 1 < r.size) : r.extract 1 2 = mk [r[1]] := by
  apply mk_of
  have e : r.extract 1 2 = (r.extract 1 r.size).extract 0 1 := by rw [ByteArray.extract_extract]; congr 1; omega
  rw [e, Sc.take_data, Sc.drop_data, Sc.drop_at r 1 h]; rfl
/-- entity.Read at a text. -/
def RdC (rd : Bs → Bs × Nat) (s : Bs) : Prop := ∀ w, Env w → Calls Tryz.prog 113 #[.string (mk s)] w fun e w' => e = .returned (.tuple #[.string (mk (rd s).1), .int .i64 (rd s).2]) ∧ Below w.heap.size w w'
/-- What a reading leaves. -/
structure RdOk (rd : Bs → Bs × Nat) : Prop where
  le : ∀ s, (rd s).2 ≤ s.length
  few : ∀ s, (rd s).1.length ≤ 4 * (rd s).2
def escHead : Bs → Bool
  | c :: _ => sign c
  | [] => false
section
variable (rd : Bs → Bs × Nat)
def piece : Bs → Bs × Nat
  | [] => ([], 1)
  | b :: t =>
    if b = 92 ∧ escHead t = true then (t.take 1, 2)
    else if b = 38 ∧ 0 < (rd (b :: t)).2 then rd (b :: t) else ([b], 1)
def unescN : Nat → Bs → Bs
  | 0, _ => []
  | n + 1, s => if s = [] then [] else (piece rd s).1 ++ unescN n (s.drop (piece rd s).2)
def unesc (s : Bs) : Bs := unescN rd s.length s
theorem piece_pos (s : Bs) : 1 ≤ (piece rd s).2 := by
  cases s with
  | nil => exact Nat.le_refl _
  | cons b t =>
    by_cases h1 : b = 92 ∧ escHead t = true
    · rw [piece, if_pos h1]; exact Nat.le_succ 1
    · by_cases h2 : b = 38 ∧ 0 < (rd (b :: t)).2
      · rw [piece, if_neg h1, if_pos h2]; exact h2.2
      · rw [piece, if_neg h1, if_neg h2]; exact Nat.le_refl _
theorem unescN_nil : ∀ n, unescN rd n [] = []
  | 0 => rfl
  | n + 1 => by unfold unescN; rw [if_pos rfl]
theorem unescN_more : ∀ (k : Nat) (s : Bs), s.length ≤ k → unescN rd (k + 1) s = unescN rd k s
  | 0, s, h => by
    have : s = [] := List.eq_nil_of_length_eq_zero (by omega)
    subst this; rw [unescN_nil, unescN_nil]
  | k + 1, s, h => by
    have e1 : unescN rd (k + 1 + 1) s = if s = [] then [] else (piece rd s).1 ++ unescN rd (k + 1) (s.drop (piece rd s).2) := rfl
    have e2 : unescN rd (k + 1) s = if s = [] then [] else (piece rd s).1 ++ unescN rd k (s.drop (piece rd s).2) := rfl
    rw [e1, e2]
    have := piece_pos rd s
    rw [unescN_more k _ (by rw [List.length_drop]; omega)]
theorem unescN_all (s : Bs) : ∀ k, s.length ≤ k → unescN rd k s = unesc rd s := by
  intro k hk
  obtain ⟨d, rfl⟩ : ∃ d, k = s.length + d := ⟨k - s.length, by omega⟩
  induction d with
  | zero => rfl
  | succ d ih => rw [← Nat.add_assoc, unescN_more rd _ s (by omega), ih (by omega)]
theorem unesc_step (s : Bs) (h : s ≠ []) : unesc rd s = (piece rd s).1 ++ unesc rd (s.drop (piece rd s).2) := by
  have hp := piece_pos rd s
  rw [← unescN_all rd s (s.length + 1) (by omega), unescN, if_neg h, unescN_all rd _ _ (by rw [List.length_drop]; omega)]
theorem unesc_nil : unesc rd [] = [] := rfl
end
set_option maxHeartbeats 16000000 in
theorem Unescape_any (rd : Bs → Bs × Nat) (K : RdOk rd) (s : ByteArray) (w : World) (hE : Env w) (hs : s.size ≤ 1000000000) (hR : ∀ k, RdC rd (s.data.toList.drop k)) :
    Calls Tryz.prog 80 #[.string s] w fun e w' => e = .returned (.string (mk (unesc rd s.data.toList))) ∧ Below w.heap.size w w' := by
  have e92 : ∀ b : UInt8, ((b.toNat : Int) == 92) = (b == 92) := fun b => beq_u8 b 92 (by decide)
  have e38 : ∀ b : UInt8, ((b.toNat : Int) == 38) = (b == 38) := fun b => beq_u8 b 38 (by decide)
  have hb1 : Below w.heap.size w (w.alloc (.cells #[.pointer none, .slice none 0 0] TB)) := (Below.refl _ w).alloc (Nat.le_refl _) _
  have I0 : Lib.IsBuilder TB 5 w.heap.size w.heap.size [] (w.alloc (.cells #[.pointer none, .slice none 0 0] TB)) := .inl ⟨Nat.le_refl _, _, heap_alloc_new w _, World.ownsRow_nil _ _ _ _, by simp [Value.ownBlock]⟩
  have hF : Hid (unesc rd s.data.toList = unesc rd s.data.toList) := Lib.hid rfl
  generalize hF2 : unesc rd s.data.toList = R at *
  have SG := fun (b : UInt8) w => Sign_any b w
  unfold TB at hb1 I0
  go_enter Tryz.func80, Tryz.ntmps80
  go_wp2
  go_loopw [0] (fun sv wr => ∃ (r : ByteArray) (out : Bs), sv = .string r ∧ Hid (∃ k, r.data.toList = s.data.toList.drop k) ∧ Hid (out ++ unesc rd r.data.toList = R) ∧ r.size ≤ s.size ∧ out.length + 4 * r.size ≤ 4 * s.size ∧ Lib.IsBuilder TB 5 w.heap.size w.heap.size (Lib.byteCells out) wr ∧ Below w.heap.size w wr)
    (fun sv _ => match sv with | .string r => r.size | _ => 0)
  case atStart => exact ⟨s, [], rfl, Lib.hid ⟨0, rfl⟩, Lib.hid hF2, Nat.le_refl _, by simp, I0, hb1⟩
  case round =>
    obtain ⟨r, out, rfl, hD, hO, hrs, hol, hI, hb⟩ := hrel
    clear I0 hb1 hF hF2
    by_cases hz : r.data.toList = []
    · have h1 : r.toList = [] := by rw [toList_data, hz]
      have hE2 : out = R := by have := hO.out; rw [hz, unesc_nil, List.append_nil] at this; exact this
      have BS := builderStr_any w.heap.size w.heap.size out wr hI hb.size
      have HE2 := Lib.hid hE2
      clear hz hO hE2
      go_wp2_with (go_at_call 94; (with_reducible refine BS.mono ?_); rintro e w1 ⟨rfl, b1⟩)
      go_ret
      exact ⟨by rw [← HE2.out]; rfl, hb.trans b1⟩
    · have hsz := Sc.size_pos hz
      have hne : r.toList.isEmpty = false := by rw [empty_iff, decide_eq_false_iff_not]; exact hz
      have hh := Lib.hid (Sc.head_of hsz)
      have hlen := Sc.len_size r
      -- one piece more
      have fin : ∀ (c : Bs) (n : Nat), piece rd r.data.toList = (c, n) → n ≤ r.size → c.length ≤ 4 * n →
          (∀ wr', Lib.IsBuilder TB 5 w.heap.size w.heap.size (Lib.byteCells out ++ Lib.strCells (mk c)) wr' → Lib.IsBuilder TB 5 w.heap.size w.heap.size (Lib.byteCells (out ++ c)) wr') ∧
          (∀ wr', Below w.heap.size w wr' → Lib.IsBuilder TB 5 w.heap.size w.heap.size (Lib.byteCells out) wr' → Calls Tryz.prog 92 #[.pointer (some ⟨w.heap.size, 0, none⟩), .string (mk c)] wr' fun e w' => e = .returned (.tuple #[.int .i64 c.length, .nilIface]) ∧ (Lib.IsBuilder TB 5 w.heap.size w.heap.size (Lib.byteCells (out ++ c)) w' ∧ Below w.heap.size wr' w')) ∧
          Hid (∃ k, (r.extract n r.size).data.toList = s.data.toList.drop k) ∧ Hid ((out ++ c) ++ unesc rd (r.extract n r.size).data.toList = R) ∧ (r.extract n r.size).size = r.size - n ∧ 1 ≤ n := by
        intro c n hp hn hc
        have hp1 := piece_pos rd r.data.toList
        rw [hp] at hp1
        have e1 : Lib.byteCells out ++ Lib.strCells (mk c) = Lib.byteCells (out ++ c) := by rw [strCells_mk, byteCells_app]
        refine ⟨fun wr' h => by rw [← e1]; exact h, fun wr' hbw h => ?_, Lib.hid ?_, Lib.hid ?_, by simp, hp1⟩
        · have := writeString_any w.heap.size w.heap.size _ (mk c) wr' h (by rw [Lib.byteCells_length, mk_size]; omega) hbw.size
          rw [mk_size] at this
          refine this.mono ?_
          rintro e w' ⟨rfl, i1, i2⟩
          exact ⟨rfl, by rw [← e1]; exact i1, i2⟩
        · obtain ⟨k, hk⟩ := hD.out
          exact ⟨k + n, by rw [Sc.drop_data, hk, List.drop_drop]⟩
        · have := unesc_step rd r.data.toList hz
          rw [hp] at this
          rw [← hO.out, this, Sc.drop_data, List.append_assoc]
      by_cases q92 : r[0] = 92
      · have q1 : (r[0] == 92) = true := by simpa using q92
        have q38 : (r[0] == 38) = false := by rw [q92]; rfl
        by_cases h2 : 1 < r.size
        · have hd := Sc.drop_at r 1 h2
          have hg1 : decide ((1 : Int) < (r.size : Int)) = true := by rw [decide_eq_true_iff]; omega
          cases hg : sign r[1] with
          | true =>
            have hp : piece rd r.data.toList = ([r[1]], 2) := by
              rw [hh.out, hd, piece, if_pos ⟨q92, hg⟩]; rfl
            have SG1 := SG r[1]
            rw [hg] at SG1
            clear SG hg q92 hd
            obtain ⟨f1, f2, f3, f4, f5, f6⟩ := fin _ _ hp h2 (by simp)
            have hx := Lib.hid (extract12 r h2)
            have WS := fun wr' hbw h => f2 wr' hbw h
            rw [← hx.out] at WS
            clear fin hp f1 f2 hx hD hO hz hh
            go_wp2_with (first
              | (go_at_call 112; (with_reducible refine (SG1 _).mono ?_); rintro e w1 ⟨rfl, b1⟩; have hb1 := hb.trans (b1.mono hb.size); have I1 := bld_below hI b1)
              | (go_at_call 92; (with_reducible refine (WS _ hb1 I1).mono ?_); rintro e w3 ⟨rfl, I3, b3⟩))
            go_roundw
            case rel => exact ⟨r.extract 2 r.size, out ++ [r[1]], rfl, f3, f4, by omega, by rw [List.length_append, f5]; simp; omega, I3, hb1.trans b3⟩
            case measure => simp; omega
          | false =>
            have hp : piece rd r.data.toList = ([r[0]], 1) := by
              rw [hh.out, hd, piece, if_neg (by rintro ⟨_, x⟩; have : sign r[1] = true := x; rw [hg] at this; cases this), if_neg (by rw [q92]; rintro ⟨x, _⟩; cases x)]
            have SG1 := SG r[1]
            rw [hg] at SG1
            clear SG hg q92 hd
            obtain ⟨f1, f2, f3, f4, f5, f6⟩ := fin _ _ hp hsz (by simp)
            have hx := Lib.hid (extract01 r hsz)
            have WS := fun wr' hbw h => f2 wr' hbw h
            rw [← hx.out] at WS
            clear fin hp f1 f2 hx hD hO hz hh
            go_wp2_with (first
              | (go_at_call 112; (with_reducible refine (SG1 _).mono ?_); rintro e w1 ⟨rfl, b1⟩; have hb1 := hb.trans (b1.mono hb.size); have I1 := bld_below hI b1)
              | (go_at_call 92; (with_reducible refine (WS _ hb1 I1).mono ?_); rintro e w3 ⟨rfl, I3, b3⟩))
            go_roundw
            case rel => exact ⟨r.extract 1 r.size, out ++ [r[0]], rfl, f3, f4, by omega, by rw [List.length_append, f5]; simp; omega, I3, hb1.trans b3⟩
            case measure => simp; omega
        · have hd : r.data.toList.drop 1 = [] := List.drop_eq_nil_of_le (by omega)
          have hg1 : decide ((1 : Int) < (r.size : Int)) = false := by rw [decide_eq_false_iff_not]; omega
          have hp : piece rd r.data.toList = ([r[0]], 1) := by
            rw [hh.out, hd, piece, if_neg (by rintro ⟨_, x⟩; cases x), if_neg (by rw [q92]; rintro ⟨x, _⟩; cases x)]
          clear SG q92 hd
          obtain ⟨f1, f2, f3, f4, f5, f6⟩ := fin _ _ hp hsz (by simp)
          have hx := Lib.hid (extract01 r hsz)
          have WS := fun wr' hbw h => f2 wr' hbw h
          rw [← hx.out] at WS
          clear fin hp f1 f2 hx hD hO hz hh
          go_wp2_with (go_at_call 92; (with_reducible refine (WS _ hb hI).mono ?_); rintro e w3 ⟨rfl, I3, b3⟩)
          go_roundw
          case rel => exact ⟨r.extract 1 r.size, out ++ [r[0]], rfl, f3, f4, by omega, by rw [List.length_append, f5]; simp; omega, I3, hb.trans b3⟩
          case measure => simp; omega
      · have q1 : (r[0] == 92) = false := by simpa using q92
        by_cases q3 : r[0] = 38
        · have q38 : (r[0] == 38) = true := by simpa using q3
          obtain ⟨k, hk⟩ := hD.out
          have RD := fun w hE => (hR k) w hE
          rw [← hk] at RD
          have hrr : mk r.data.toList = r := rfl
          rw [hrr] at RD
          clear hrr
          have hle := K.le r.data.toList
          have hfw := K.few r.data.toList
          rw [hlen] at hle
          have hp0 : piece rd r.data.toList = if 0 < (rd r.data.toList).2 then rd r.data.toList else ([r[0]], 1) := by
            have e : ∀ l : Bs, l = r[0] :: r.data.toList.drop 1 → piece rd l = if 0 < (rd l).2 then rd l else ([r[0]], 1) := by
              rintro l rfl
              rw [piece, if_neg (by rintro ⟨x, _⟩; exact q92 x)]
              by_cases z : 0 < (rd (r[0] :: r.data.toList.drop 1)).2
              · rw [if_pos ⟨q3, z⟩, if_pos z]
              · rw [if_neg (by rintro ⟨_, x⟩; exact z x), if_neg z]
            exact e _ hh.out
          have hE1 := hE.below hb
          cases hrd : rd r.data.toList with
          | mk c n =>
            rw [hrd] at hp0 RD hle hfw
            dsimp only at hp0 RD hle hfw
            by_cases hn : 0 < n
            · rw [if_pos hn] at hp0
              obtain ⟨f1, f2, f3, f4, f5, f6⟩ := fin _ _ hp0 hle hfw
              have WS := fun wr' hbw h => f2 wr' hbw h
              have hnd : decide ((0 : Int) < (n : Int)) = true := by rw [decide_eq_true_iff]; omega
              have hnl : (n : Int) ≤ (r.size : Int) := by omega
              clear fin hp0 f1 f2 hD hO hz hh hrd SG q92 q3 hk hR
              go_wp2_with (first
                | (go_at_call 113; (with_reducible refine (RD _ hE1).mono ?_); rintro e w1 ⟨rfl, b1⟩; have hb1 := hb.trans (b1.mono hb.size); have I1 := bld_below hI b1)
                | (go_at_call 92; (with_reducible refine (WS _ hb1 I1).mono ?_); rintro e w3 ⟨rfl, I3, b3⟩))
              go_roundw
              case rel => exact ⟨r.extract n r.size, out ++ c, rfl, f3, f4, by omega, by rw [List.length_append, f5]; omega, I3, hb1.trans b3⟩
              case measure => simp; omega
            · rw [if_neg hn] at hp0
              have hp := hp0
              have hn0 : n = 0 := by omega
              subst hn0
              have RD2 : ∀ w, Env w → Calls Tryz.prog 113 #[.string r] w fun e w' => e = .returned (.tuple #[.string (mk c), .int .i64 0]) ∧ Below w.heap.size w w' := RD
              clear RD hrd SG q92 q3 hk hR hp0
              obtain ⟨f1, f2, f3, f4, f5, f6⟩ := fin _ _ hp hsz (by simp)
              have hx := Lib.hid (extract01 r hsz)
              have WS := fun wr' hbw h => f2 wr' hbw h
              rw [← hx.out] at WS
              clear fin hp f1 f2 hx hD hO hz hh
              go_wp2_with (first
                | (go_at_call 113; (with_reducible refine (RD2 _ hE1).mono ?_); rintro e w1 ⟨rfl, b1⟩; have hb1 := hb.trans (b1.mono hb.size); have I1 := bld_below hI b1)
                | (go_at_call 92; (with_reducible refine (WS _ hb1 I1).mono ?_); rintro e w3 ⟨rfl, I3, b3⟩))
              go_roundw
              case rel => exact ⟨r.extract 1 r.size, out ++ [r[0]], rfl, f3, f4, by omega, by rw [List.length_append, f5]; simp; omega, I3, hb1.trans b3⟩
              case measure => simp; omega
        · have q38 : (r[0] == 38) = false := by simpa using q3
          have hp : piece rd r.data.toList = ([r[0]], 1) := by
            rw [hh.out, piece, if_neg (by rintro ⟨x, _⟩; exact q92 x), if_neg (by rintro ⟨x, _⟩; exact q3 x)]
          clear SG q92 q3
          obtain ⟨f1, f2, f3, f4, f5, f6⟩ := fin _ _ hp hsz (by simp)
          have hx := Lib.hid (extract01 r hsz)
          have WS := fun wr' hbw h => f2 wr' hbw h
          rw [← hx.out] at WS
          clear fin hp f1 f2 hx hD hO hz hh
          go_wp2_with (go_at_call 92; (with_reducible refine (WS _ hb hI).mono ?_); rintro e w3 ⟨rfl, I3, b3⟩)
          go_roundw
          case rel => exact ⟨r.extract 1 r.size, out ++ [r[0]], rfl, f3, f4, by omega, by rw [List.length_append, f5]; simp; omega, I3, hb.trans b3⟩
          case measure => simp; omega
end Tx
end Go.Proofs.YtehmcahdjldhbaaGreatDoor
end
section
/- Package entity: the table of names. -/
open Go Go.RowKit
set_option linter.unusedVariables false
set_option linter.unusedSimpArgs false
set_option maxRecDepth 1000000
namespace Go.Proofs.YtehmcahdjldhbaaGreatDoor
open Wk
namespace Tx
/-- Names, and their characters' numbers. -/
def names : List (List UInt8 × Int) := [([65, 69, 108, 105, 103], 198), ([65, 97, 99, 117, 116, 101], 193), ([65, 99, 105, 114, 99], 194), ([65, 103, 114, 97, 118, 101], 192), ([65, 108, 112, 104, 97], 913), ([65, 114, 105, 110, 103], 197), ([65, 116, 105, 108, 100, 101], 195), ([65, 117, 109, 108], 196), ([66, 101, 116, 97], 914), ([67, 99, 101, 100, 105, 108], 199), ([67, 108, 111, 99, 107, 119, 105, 115, 101, 67, 111, 110, 116, 111, 117, 114, 73, 110, 116, 101, 103, 114, 97, 108], 8754), ([68, 97, 103, 103, 101, 114], 8225), ([68, 99, 97, 114, 111, 110], 270), ([68, 101, 108, 116, 97], 916), ([68, 105, 102, 102, 101, 114, 101, 110, 116, 105, 97, 108, 68], 8518), ([69, 84, 72], 208), ([69, 97, 99, 117, 116, 101], 201), ([69, 99, 105, 114, 99], 202), ([69, 103, 114, 97, 118, 101], 200), ([69, 117, 109, 108], 203), ([71, 97, 109, 109, 97], 915), ([72, 105, 108, 98, 101, 114, 116, 83, 112, 97, 99, 101], 8459), ([73, 97, 99, 117, 116, 101], 205), ([73, 99, 105, 114, 99], 206), ([73, 103, 114, 97, 118, 101], 204), ([73, 117, 109, 108], 207), ([78, 116, 105, 108, 100, 101], 209), ([79, 69, 108, 105, 103], 338), ([79, 97, 99, 117, 116, 101], 211), ([79, 99, 105, 114, 99], 212), ([79, 103, 114, 97, 118, 101], 210), ([79, 109, 101, 103, 97], 937), ([79, 115, 108, 97, 115, 104], 216), ([79, 116, 105, 108, 100, 101], 213), ([79, 117, 109, 108], 214), ([83, 99, 97, 114, 111, 110], 352), ([84, 72, 79, 82, 78], 222), ([85, 97, 99, 117, 116, 101], 218), ([85, 99, 105, 114, 99], 219), ([85, 103, 114, 97, 118, 101], 217), ([85, 117, 109, 108], 220), ([89, 97, 99, 117, 116, 101], 221), ([89, 117, 109, 108], 376), ([97, 97, 99, 117, 116, 101], 225), ([97, 99, 105, 114, 99], 226), ([97, 99, 117, 116, 101], 180), ([97, 101, 108, 105, 103], 230), ([97, 103, 114, 97, 118, 101], 224), ([97, 108, 112, 104, 97], 945), ([97, 109, 112], 38), ([97, 112, 111, 115], 39), ([97, 114, 105, 110, 103], 229), ([97, 115, 121, 109, 112], 8776), ([97, 116, 105, 108, 100, 101], 227), ([97, 117, 109, 108], 228), ([98, 100, 113, 117, 111], 8222), ([98, 101, 116, 97], 946), ([98, 114, 118, 98, 97, 114], 166), ([98, 117, 108, 108], 8226), ([99, 97, 112], 8745), ([99, 99, 101, 100, 105, 108], 231), ([99, 101, 100, 105, 108], 184), ([99, 101, 110, 116], 162), ([99, 105, 114, 99], 710), ([99, 108, 117, 98, 115], 9827), ([99, 111, 112, 121], 169), ([99, 117, 112], 8746), ([99, 117, 114, 114, 101, 110], 164), ([100, 97, 103, 103, 101, 114], 8224), ([100, 97, 114, 114], 8595), ([100, 101, 103], 176), ([100, 101, 108, 116, 97], 948), ([100, 105, 97, 109, 115], 9830), ([100, 105, 118, 105, 100, 101], 247), ([101, 97, 99, 117, 116, 101], 233), ([101, 99, 105, 114, 99], 234), ([101, 103, 114, 97, 118, 101], 232), ([101, 109, 112, 116, 121], 8709), ([101, 109, 115, 112], 8195), ([101, 110, 115, 112], 8194), ([101, 112, 115, 105, 108, 111, 110], 949), ([101, 113, 117, 105, 118], 8801), ([101, 116, 104], 240), ([101, 117, 109, 108], 235), ([101, 117, 114, 111], 8364), ([101, 120, 105, 115, 116], 8707), ([102, 110, 111, 102], 402), ([102, 111, 114, 97, 108, 108], 8704), ([102, 114, 97, 99, 49, 50], 189), ([102, 114, 97, 99, 49, 52], 188), ([102, 114, 97, 99, 51, 52], 190), ([103, 97, 109, 109, 97], 947), ([103, 101], 8805), ([103, 116], 62), ([104, 97, 114, 114], 8596), ([104, 101, 97, 114, 116, 115], 9829), ([104, 101, 108, 108, 105, 112], 8230), ([105, 97, 99, 117, 116, 101], 237), ([105, 99, 105, 114, 99], 238), ([105, 101, 120, 99, 108], 161), ([105, 103, 114, 97, 118, 101], 236), ([105, 110, 102, 105, 110], 8734), ([105, 110, 116], 8747), ([105, 113, 117, 101, 115, 116], 191), ([105, 115, 105, 110], 8712), ([105, 117, 109, 108], 239), ([108, 97, 109, 98, 100, 97], 955), ([108, 97, 113, 117, 111], 171), ([108, 97, 114, 114], 8592), ([108, 100, 113, 117, 111], 8220), ([108, 101], 8804), ([108, 115, 97, 113, 117, 111], 8249), ([108, 115, 113, 117, 111], 8216), ([108, 116], 60), ([109, 97, 99, 114], 175), ([109, 100, 97, 115, 104], 8212), ([109, 105, 99, 114, 111], 181), ([109, 105, 100, 100, 111, 116], 183), ([109, 105, 110, 117, 115], 8722), ([109, 117], 956), ([110, 97, 98, 108, 97], 8711), ([110, 98, 115, 112], 160), ([110, 100, 97, 115, 104], 8211), ([110, 101], 8800), ([110, 105], 8715), ([110, 111, 116], 172), ([110, 116, 105, 108, 100, 101], 241), ([111, 97, 99, 117, 116, 101], 243), ([111, 99, 105, 114, 99], 244), ([111, 101, 108, 105, 103], 339), ([111, 103, 114, 97, 118, 101], 242), ([111, 109, 101, 103, 97], 969), ([111, 112, 108, 117, 115], 8853), ([111, 114, 100, 102], 170), ([111, 114, 100, 109], 186), ([111, 115, 108, 97, 115, 104], 248), ([111, 116, 105, 108, 100, 101], 245), ([111, 116, 105, 109, 101, 115], 8855), ([111, 117, 109, 108], 246), ([112, 97, 114, 97], 182), ([112, 97, 114, 116], 8706), ([112, 101, 114, 109, 105, 108], 8240), ([112, 101, 114, 112], 8869), ([112, 105], 960), ([112, 108, 117, 115, 109, 110], 177), ([112, 111, 117, 110, 100], 163), ([112, 114, 111, 100], 8719), ([113, 117, 111, 116], 34), ([114, 97, 100, 105, 99], 8730), ([114, 97, 113, 117, 111], 187), ([114, 97, 114, 114], 8594), ([114, 100, 113, 117, 111], 8221), ([114, 101, 103], 174), ([114, 115, 97, 113, 117, 111], 8250), ([114, 115, 113, 117, 111], 8217), ([115, 98, 113, 117, 111], 8218), ([115, 99, 97, 114, 111, 110], 353), ([115, 100, 111, 116], 8901), ([115, 101, 99, 116], 167), ([115, 104, 121], 173), ([115, 105, 103, 109, 97], 963), ([115, 112, 97, 100, 101, 115], 9824), ([115, 117, 98], 8834), ([115, 117, 109], 8721), ([115, 117, 112], 8835), ([115, 117, 112, 49], 185), ([115, 117, 112, 50], 178), ([115, 117, 112, 51], 179), ([115, 122, 108, 105, 103], 223), ([116, 104, 105, 110, 115, 112], 8201), ([116, 104, 111, 114, 110], 254), ([116, 105, 108, 100, 101], 732), ([116, 105, 109, 101, 115], 215), ([116, 114, 97, 100, 101], 8482), ([117, 97, 99, 117, 116, 101], 250), ([117, 97, 114, 114], 8593), ([117, 99, 105, 114, 99], 251), ([117, 103, 114, 97, 118, 101], 249), ([117, 109, 108], 168), ([117, 117, 109, 108], 252), ([121, 97, 99, 117, 116, 101], 253), ([121, 101, 110], 165), ([121, 117, 109, 108], 255)]
def nameCells : List (List UInt8 × Int) → List Value
  | [] => []
  | e :: r => .string (mk e.1) :: .int .i32 e.2 :: nameCells r
def tableCells : Array Value := (nameCells names).toArray
/-- Operations that only reckon, run one after the other. -/
def runL (P : Program) (ops : Array Oper) : List Oper → Act → World → Option (Act × World)
  | [], a, w => some (a, w)
  | o :: r, a, w =>
    if Region.wanted o (yielded ops a.tmps) then
      match (execOp a.eval o).run P w with
      | .ok (.value v) w' => runL P ops r (a.put o.dst v) w'
      | _ => none
    else runL P ops r (a.put o.dst undef) w
theorem runL_wp {P : Program} {ops : Array Oper} {Q : Exit → Act → World → Prop} {rest : List Oper} : ∀ (l : List Oper) (a a' : Act) (w w' : World), runL P ops l a w = some (a', w') → wpList P ops Q rest a' w' → wpList P ops Q (l ++ rest) a w
  | [], a, a', w, w', h, g => by cases h; exact g
  | o :: r, a, a', w, w', h, g => by
    rw [runL] at h
    show wpList P ops Q (o :: (r ++ rest)) a w
    unfold wpList
    split at h
    · rename_i hw
      rw [if_pos hw]
      left
      unfold Oper.wp
      split at h
      · rename_i v w1 e
        rw [e, Oper.upon_value]
        exact runL_wp r _ a' w1 w' h g
      · cases h
    · rename_i hw
      rw [if_neg hw]
      exact runL_wp r _ a' w w' h g

/-- A region's operations, out of the code that begins with it. -/
def opsOf : Code → List Oper
  | .region _ ops _ => ops.toList
  | .seq a _ => opsOf a
  | _ => []
noncomputable def tblOps : List Oper := match Tryz.f192.body with
  | some (.seq _ c) => opsOf c
  | _ => []
theorem tblOps_len : tblOps.length = 185 := by kernel_rfl
noncomputable def tblIn (g : Nat) : Act := { tmps := (Array.replicate 185 undef).setIfInBounds 0 (.pointer (some ⟨g, 0, none⟩)), defers := [] }
noncomputable def tblOut (g : Nat) (w : World) : Act := ((runL Tryz.prog tblOps.toArray (tblOps.take 184) (tblIn g) w).getD (tblIn g, w)).1
theorem tblRun (g : Nat) (w : World) : runL Tryz.prog tblOps.toArray (tblOps.take 184) (tblIn g) w = some (tblOut g w, w) := by kernel_rfl
theorem tblOut184 (g : Nat) (w : World) : (tblOut g w).tmps.getD 184 undef = .agg tableCells := by kernel_rfl
theorem tblOut0 (g : Nat) (w : World) : (tblOut g w).tmps.getD 0 undef = .pointer (some ⟨g, 0, none⟩) := by kernel_rfl
theorem tblOutD (g : Nat) (w : World) : (tblOut g w).defers = [] := by kernel_rfl
end Tx
end Go.Proofs.YtehmcahdjldhbaaGreatDoor
end
section
/- Package entity: the table of names, as it is told. -/
open Go Go.RowKit
set_option linter.unusedVariables false
set_option linter.unusedSimpArgs false
set_option maxRecDepth 1000000
namespace Go.Proofs.YtehmcahdjldhbaaGreatDoor
open Wk
namespace Tx
theorem tbl_wp {id : Nat} {ops : Array Oper} {Q : Exit → Act → World → Prop} {a : Act} {w : World} (g : Nat) (h1 : ops.toList = tblOps.take 184 ++ tblOps.drop 184) (h2 : ops = tblOps.toArray) (h3 : a = tblIn g)
    (h : wpList Tryz.prog tblOps.toArray Q (tblOps.drop 184) (tblOut g w) w) : (Code.region id ops false).wp Tryz.prog Q a w := by
  refine wp_region_list ?_
  rw [h1, h2, h3]
  exact runL_wp _ _ _ _ _ (tblRun g w) h
noncomputable def tblLast : Oper := tblOps.getD 184 { dst := none, op := .move (.tmp 0), type := 0, pos := "", after := #[], guard := none }
theorem tblDrop : tblOps.drop 184 = [tblLast] := by kernel_rfl
theorem tblLast1 : tblLast.op = .store 186 (.tmp 0) (.tmp 184) := by kernel_rfl
theorem tblLast2 : tblLast.guard = none := by kernel_rfl
theorem tblLast3 : tblLast.dst = none := by kernel_rfl
theorem tableSize : tableCells.size = 366 := by kernel_rfl
theorem tableOne : tableCells.all (·.oneCell') = true := by kernel_rfl
theorem infoT : (Tryz.prog.info? 186).map (·.size) = some 366 := by kernel_rfl
theorem undT : Tryz.prog.underlying 186 = some (.array 183 185) := by kernel_rfl
theorem wpList_store {P : Program} {ops : Array Oper} {Q : Exit → Act → World → Prop} {a : Act} {w w' : World} {o : Oper} {t : TypeId} {i j : Nat} (h1 : o.op = .store t (.tmp i) (.tmp j)) (h2 : o.guard = none)
    (h3 : o.dst = none) (h : (Instr.storeAt t (a.eval (.tmp i)) (a.eval (.tmp j))).run P w = .ok () w') (hq : Q .normal (a.put none undef) w') : wpList P ops Q [o] a w := by
  unfold wpList
  have hw : Region.wanted o (yielded ops a.tmps) = true := by unfold Region.wanted; rw [h2]
  rw [if_pos hw]
  left
  unfold Oper.wp
  have e : (execOp a.eval o).run P w = .ok .skip w' := by
    unfold execOp
    rw [h1]
    simp only [Sem.run_bind, h, Result.andThen]
    rfl
  rw [e, Oper.upon_skip, h3]
  exact hq
set_option maxHeartbeats 4000000 in
theorem table_any (w : World) : Calls Tryz.prog 192 #[] w fun e w' => e = .returned (.agg tableCells) ∧ Below w.heap.size w w' := by
  go_enter Tryz.func192, Tryz.ntmps192
  go_step
  go_step
  go_step
  go_step
  go_step
  go_step
  go_step
  go_step
  go_step
  refine wp_seq ?_
  refine tbl_wp w.heap.size (by kernel_rfl) (by kernel_rfl) (by kernel_rfl) ?_
  rw [tblDrop]
  have hD := tblOutD w.heap.size (w.alloc (.cells Tryz.zeroCells186 186))
  have h0 : (tblOut w.heap.size (w.alloc (.cells Tryz.zeroCells186 186))).eval (.tmp 0) = .pointer (some ⟨w.heap.size, 0, none⟩) := tblOut0 _ _
  have h1 : (tblOut w.heap.size (w.alloc (.cells Tryz.zeroCells186 186))).eval (.tmp 184) = .agg tableCells := tblOut184 _ _
  generalize tblOut w.heap.size (w.alloc (.cells Tryz.zeroCells186 186)) = A at *
  refine wpList_store tblLast1 tblLast2 tblLast3 (w' := w.alloc (.cells tableCells 186)) ?_ ?_
  · rw [h0, h1]
    exact run_storeAt_new w _ _ _ (by rw [infoT, tableSize]) (by rw [tableSize]; kernel_rfl) tableOne
  simp only [Exit.then]
  go_step
  have hp : (A.put none undef) = A := rfl
  rw [hp]
  refine bodyPost_ret (v := .agg tableCells) ?_ hD ⟨rfl, (Below.refl _ w).alloc (Nat.le_refl _) _⟩
  exact results_cell_row (fn := Tryz.f192) (by kernel_rfl) A.tmps _ w.heap.size 186 tableCells (0, 0) _ h0 (heap_alloc_new w _) undT rfl (by rw [infoT, tableSize])
end Tx
end Go.Proofs.YtehmcahdjldhbaaGreatDoor
end
section
/- Package entity: Named: the search in the table of names. -/
open Go Go.RowKit
set_option linter.unusedVariables false
set_option linter.unusedSimpArgs false
set_option maxRecDepth 100000
namespace Go.Proofs.YtehmcahdjldhbaaGreatDoor
open Wk
namespace Tx
theorem nan_any (x : ByteArray) (w : World) : Calls Tryz.prog 214 #[.string x] w fun e w' => e = .returned (.bool false) ∧ w' = w := by
  go_enter Tryz.func214, Tryz.ntmps214
  go_wp2
  go_ret
  exact ⟨rfl, rfl⟩
def cmpS (a b : Bs) : Int := if Op.bytesLess a b = true then -1 else if (a == b) = true then 0 else 1
theorem compare_any (x y : ByteArray) (w : World) : Calls Tryz.prog 195 #[.string x, .string y] w fun e w' => e = .returned (.int .i64 (cmpS x.data.toList y.data.toList)) ∧ w' = w := by
  have NA := fun x w => nan_any x w
  have F : Hid (cmpS x.data.toList y.data.toList = if Op.bytesLess x.toList y.toList = true then -1 else if (x.toList == y.toList) = true then 0 else 1) := by
    apply Lib.hid; rw [toList_data, toList_data]; rfl
  generalize cmpS x.data.toList y.data.toList = r at *
  go_enter Tryz.func195, Tryz.ntmps195
  go_wp2_with (go_at_call 214; (with_reducible refine (NA _ _).mono ?_); rintro e w1 ⟨rfl, rfl⟩)
  · have q : Op.bytesLess x.toList y.toList = true := by assumption
    go_ret
    exact ⟨ret_int (by rw [F.out, if_pos q]), rfl⟩
  · have q1 : Op.bytesLess x.toList y.toList = false := by assumption
    have q2 : (!x.toList == y.toList) = true := by assumption
    go_ret
    exact ⟨ret_int (by rw [F.out, if_neg (by rw [q1]; decide), if_neg (by intro x; rw [x] at q2; cases q2)]), rfl⟩
  · have q1 : Op.bytesLess x.toList y.toList = false := by assumption
    have q2 : (!x.toList == y.toList) = false := by assumption
    go_ret
    exact ⟨ret_int (by rw [F.out, if_neg (by rw [q1]; decide), if_pos (by simpa using q2)]), rfl⟩
theorem named1_any (x y : Bs) (n : Int) (w : World) : Calls Tryz.prog 194 #[.agg #[.string (mk x), .int .i32 n], .string (mk y)] w fun e w' => e = .returned (.int .i64 (cmpS x y)) ∧ Below w.heap.size w w' := by
  have CM := fun w => compare_any (mk x) (mk y) w
  simp only [mk_data] at CM
  go_enter Tryz.func194, Tryz.ntmps194
  go_wp2_with (go_at_call 195; (with_reducible refine (CM _).mono ?_); rintro e w1 ⟨rfl, rfl⟩)
  go_ret
  exact ⟨rfl, (Below.refl _ _).alloc (Nat.le_refl _) _⟩
/-- The k-th name, and its character. -/
def nameAt (k : Nat) : Bs × Int := names.getD k ([], 0)
def bsF (s : Bs) : Nat → Nat → Nat → Nat
  | 0, i, _ => i
  | k + 1, i, j => if i < j then (if cmpS (nameAt ((i + j) / 2)).1 s < 0 then bsF s k ((i + j) / 2 + 1) j else bsF s k i ((i + j) / 2)) else i
theorem names_len : names.length = 183 := by kernel_rfl
theorem nameCells_get : ∀ (l : List (Bs × Int)) (k : Nat) (e : Bs × Int), l[k]? = some e → (nameCells l)[k * 2]? = some (.string (mk e.1)) ∧ (nameCells l)[k * 2 + 1]? = some (.int .i32 e.2)
  | [], k, e, h => by simp at h
  | a :: l, 0, e, h => by
    have : a = e := by simpa using h
    subst this; exact ⟨rfl, rfl⟩
  | a :: l, k + 1, e, h => by
    have := nameCells_get l k e (by simpa using h)
    rw [show (k + 1) * 2 = k * 2 + 1 + 1 by omega]
    unfold nameCells
    simpa using this
/-- The table in memory. -/
def TabAt (g : Nat) (w : World) : Prop := w.heap[g]? = some (.cells tableCells 186 (0, 0))
theorem TabAt.below {g : Nat} {w w1 : World} (h : TabAt g w) (hb : Below w.heap.size w w1) : TabAt g w1 := Bk.blk_below' h hb
theorem TabAt.cell {g : Nat} {w : World} (h : TabAt g w) (k : Nat) (hk : k < 183) : w.cell? ⟨g, k * 2, none⟩ = some (.string (mk (nameAt k).1)) ∧ w.cell? ⟨g, k * 2 + 1, none⟩ = some (.int .i32 (nameAt k).2) := by
  have hl : names[k]? = some (nameAt k) := by
    unfold nameAt
    rw [List.getD_eq_getElem?_getD, List.getElem?_eq_getElem (by rw [names_len]; exact hk)]; rfl
  have := nameCells_get names k _ hl
  rw [cell_blk h, cell_blk h]
  unfold tableCells
  simpa using this
set_option maxHeartbeats 8000000 in
theorem search_any (s : Bs) (g : Nat) (w : World) (h : TabAt g w) :
    Calls Tryz.prog 193 #[.slice (some ⟨g, 0, none⟩) 183 183, .string (mk s), .func (.func 194) #[] #[]] w
      fun e w' => e = .returned (.tuple #[.int .i64 (bsF s 183 0 183), .bool (decide (bsF s 183 0 183 < 183) && decide (cmpS (nameAt (bsF s 183 0 183)).1 s = 0))]) ∧ Below w.heap.size w w' := by
  generalize hR : bsF s 183 0 183 = R
  have NM := fun x n w => named1_any x s n w
  go_enter Tryz.func193, Tryz.ntmps193
  go_wp2
  go_loopw [9, 10] (fun iv jv wr => ∃ i j k : Nat, iv = .int .i64 i ∧ jv = .int .i64 j ∧ i ≤ j ∧ j ≤ 183 ∧ j - i ≤ k ∧ Hid (bsF s k i j = R) ∧ Below w.heap.size w wr) (fun iv jv _ => (Lib.intOf jv).toNat - (Lib.intOf iv).toNat)
  case atStart => exact ⟨0, 183, 183, rfl, rfl, by omega, by omega, by omega, Lib.hid hR, Below.refl _ _⟩
  case round =>
    obtain ⟨i, j, k, rfl, rfl, hij, hj, hk, hB, hb⟩ := hrel
    by_cases hlt : i < j
    · obtain ⟨k, rfl⟩ : ∃ m, k = m + 1 := ⟨k - 1, by omega⟩
      have hS : Hid ((if cmpS (nameAt ((i + j) / 2)).1 s < 0 then bsF s k ((i + j) / 2 + 1) j else bsF s k i ((i + j) / 2)) = R) := by
        apply Lib.hid
        have := hB.out
        rw [bsF, if_pos hlt] at this
        exact this
      have hm : (i + j) / 2 < 183 := by omega
      have hm1 : i ≤ (i + j) / 2 := by omega
      have hm2 : (i + j) / 2 < j := by omega
      obtain ⟨c1, c2⟩ := (h.below hb).cell _ hm
      have hq1 : Hid (((i : Int) + j) / 2 + 1 = (((i + j) / 2 + 1 : Nat) : Int)) := by apply Lib.hid; omega
      have hq2 : Hid (((i : Int) + j) / 2 = (((i + j) / 2 : Nat) : Int)) := by apply Lib.hid; omega
      have hcs : ∀ m, (cmpS (nameAt m).1 s < 0) ∨ ¬ (cmpS (nameAt m).1 s < 0) := fun m => Decidable.em _
      clear hB
      go_wp2_with (go_at_call 194; (with_reducible refine (NM _ _ _).mono ?_); rintro e w2 ⟨rfl, b2⟩; have hb2 := below_tr hb b2)
      · have q : cmpS (nameAt ((i + j) / 2)).1 s < 0 := by assumption
        refine ⟨⟨(i + j) / 2 + 1, j, k, by rw [hq1.out], rfl, by omega, hj, by omega, ?_, hb2⟩, ?_⟩
        · apply Lib.hid; have := hS.out; rw [if_pos q] at this; exact this
        · simp [Lib.intOf]; omega
      · have q : 0 ≤ cmpS (nameAt ((i + j) / 2)).1 s := by assumption
        refine ⟨⟨i, (i + j) / 2, k, rfl, by rw [hq2.out], by omega, by omega, by omega, ?_, hb2⟩, ?_⟩
        · apply Lib.hid; have := hS.out; rw [if_neg (by omega)] at this; exact this
        · simp [Lib.intOf]; omega
    · have hE : i = R := by
        have := hB.out
        cases k with
        | zero => exact this
        | succ k => rw [bsF, if_neg hlt] at this; exact this
      have hEh := Lib.hid hE
      clear hB hE hR
      by_cases h183 : i < 183
      · obtain ⟨c1, c2⟩ := (h.below hb).cell i h183
        go_wp2_with (go_at_call 194; (with_reducible refine (NM _ _ _).mono ?_); rintro e w2 ⟨rfl, b2⟩; have hb2 := below_tr hb b2)
        go_ret2
        refine ⟨?_, hb2⟩
        rw [← hEh.out, decide_eq_true h183, Bool.true_and]
        rfl
      · have : i = 183 := by omega
        subst this
        go_wp2
        go_ret2
        refine ⟨?_, hb⟩
        rw [← hEh.out]
        rfl
/-- A character's bytes. -/
def encR (n : Int) : Bs := (Utf8.encode n).data.toList
/-- entity.Named. -/
def nm (s : Bs) : Bs × Bool := if bsF s 183 0 183 < 183 ∧ cmpS (nameAt (bsF s 183 0 183)).1 s = 0 then (encR (nameAt (bsF s 183 0 183)).2, true) else ([], false)
set_option maxHeartbeats 4000000 in
theorem named_any (s : Bs) (w : World) : Calls Tryz.prog 167 #[.string (mk s)] w fun e w' => e = .returned (.tuple #[.string (mk (nm s).1), .bool (nm s).2]) ∧ Below w.heap.size w w' := by
  have SE := fun g w h => search_any s g w h
  have TB := fun w => table_any w
  have F : Hid (nm s = if bsF s 183 0 183 < 183 ∧ cmpS (nameAt (bsF s 183 0 183)).1 s = 0 then (encR (nameAt (bsF s 183 0 183)).2, true) else ([], false)) := Lib.hid rfl
  generalize bsF s 183 0 183 = R at *
  generalize nm s = r at *
  have SC : ∀ w : World, (storeCells ⟨w.heap.size, 0, none⟩ tableCells.toList 0).run Tryz.prog (w.alloc (.cells Tryz.zeroCells186 186)) = .ok () (w.alloc (.cells tableCells 186)) := fun w =>
    run_storeCells_new w _ _ _ (by rw [infoT, tableSize]) (by rw [tableSize]; kernel_rfl) tableOne
  by_cases q : R < 183 ∧ cmpS (nameAt R).1 s = 0
  · have q1 : (decide (R < 183) && decide (cmpS (nameAt R).1 s = 0)) = true := by rw [decide_eq_true q.1, decide_eq_true q.2]; rfl
    rw [if_pos q] at F
    rw [q1] at SE
    have hr : (R : Int) < 183 := by have := q.1; omega
    have CC : ∀ g w, TabAt g w → w.cell? ⟨g, R * 2 + 1, none⟩ = some (.int .i32 (nameAt R).2) := fun g w h => (h.cell R q.1).2
    generalize (nameAt R).2 = N at *
    clear q q1
    go_enter Tryz.func167, Tryz.ntmps167
    go_wp2_with (first
      | (go_at_call 192; (with_reducible refine (TB _).mono ?_); rintro e w1 ⟨rfl, b1⟩; have hT1 : TabAt w1.heap.size (w1.alloc (.cells tableCells 186)) := heap_alloc_new w1 _; have b2 := below_al b1 (.cells tableCells 186))
      | (go_at_call 193; (with_reducible refine (SE _ _ hT1).mono ?_); rintro e w3 ⟨rfl, b3⟩; have hT3 := hT1.below b3; have b4 := below_tr b2 b3; have c3 := CC _ _ hT3))
    go_ret2
    refine ⟨?_, b4⟩
    rw [F.out]; rfl
  · have q1 : (decide (R < 183) && decide (cmpS (nameAt R).1 s = 0)) = false := by
      by_cases x : R < 183
      · rw [decide_eq_true x, decide_eq_false (fun y => q ⟨x, y⟩)]; rfl
      · rw [decide_eq_false x]; rfl
    rw [if_neg q] at F
    rw [q1] at SE
    clear q q1
    go_enter Tryz.func167, Tryz.ntmps167
    go_wp2_with (first
      | (go_at_call 192; (with_reducible refine (TB _).mono ?_); rintro e w1 ⟨rfl, b1⟩; have hT1 : TabAt w1.heap.size (w1.alloc (.cells tableCells 186)) := heap_alloc_new w1 _; have b2 := below_al b1 (.cells tableCells 186))
      | (go_at_call 193; (with_reducible refine (SE _ _ hT1).mono ?_); rintro e w3 ⟨rfl, b3⟩; have hT3 := hT1.below b3; have b4 := below_tr b2 b3))
    go_ret2
    exact ⟨by rw [F.out]; rfl, b4⟩
end Tx
end Go.Proofs.YtehmcahdjldhbaaGreatDoor
end
