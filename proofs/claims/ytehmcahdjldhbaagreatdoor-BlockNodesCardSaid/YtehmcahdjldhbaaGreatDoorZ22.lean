/- Parts of this session's proof, one behind the other: E25 E26 A1 I2 LX OL. -/
import Derived.Test.YtehmcahdjldhbaaGreatDoorZ21
import Derived.Test.YtehmcahdjldhbaaGreatDoorZ15
import Derived.Lib.MapLaws
import Derived.Test.YtehmcahdjldhbaaGreatDoorZ12
import Derived.Test.YtehmcahdjldhbaaGreatDoorZ08
import Derived.OwnWalk
import Derived.Deep.AppendLies
import Derived.WalkKit
import Derived.ProofKit
import Derived.SliceStrings
section
/- strings.IndexRune at a rune beyond ASCII, in the set of Label; strings.IndexAny at any text. -/
open Go Go.RowKit
set_option linter.unusedVariables false
set_option linter.unusedSimpArgs false
set_option maxRecDepth 100000
namespace Go.Proofs.YtehmcahdjldhbaaGreatDoor
open Wk
namespace Tx
theorem indexByte_none : ∀ (l : Bs) (c : UInt8), (∀ x ∈ l, x ≠ c) → Lib.indexByte l c = -1
  | [], c, h => rfl
  | b :: t, c, h => by
    have h1 := h b (List.mem_cons_self ..)
    have h2 := indexByte_none t c fun x hx => h x (List.mem_cons_of_mem _ hx)
    unfold Lib.indexByte
    rw [if_neg (by simpa using h1), h2]; rfl
theorem enc_last (r : Int) (h0 : 128 ≤ r) : ∃ (q : ByteArray) (n : Nat) (h : n < q.size), Utf8.encode r = q ∧ q.size = n + 1 ∧ 1 ≤ n ∧ n ≤ 3 ∧ 128 ≤ (q[n]'h).toNat := by
  have key : ∀ c : Nat, 128 ≤ (UInt8.ofNat (128 + c % 64)).toNat := by
    intro c
    rw [UInt8.toNat_ofNat']
    omega
  unfold Utf8.encode
  dsimp only
  have hc : 128 ≤ (if Utf8.valid r then r.toNat else Utf8.runeError) := by
    split
    · omega
    · decide
  generalize (if Utf8.valid r then r.toNat else Utf8.runeError) = c at *
  rw [if_neg (by omega)]
  split
  · exact ⟨⟨#[_, _]⟩, 1, (by show 1 < 2; decide), rfl, rfl, by omega, by omega, key _⟩
  · split
    · exact ⟨⟨#[_, _, _]⟩, 2, (by show 2 < 3; decide), rfl, rfl, by omega, by omega, key _⟩
    · exact ⟨⟨#[_, _, _, _]⟩, 3, (by show 3 < 4; decide), rfl, rfl, by omega, by omega, key _⟩
set_option maxHeartbeats 4000000 in
theorem irune_far (s : ByteArray) (h5 : s.size = 5) (ha : ∀ i (h : i < s.size), s[i].toNat < 128) (r : Int) (w : World) (h0 : 128 ≤ r) (h1 : r ≤ 1114111) :
    Calls Tryz.prog 38 #[.string s, .int .i32 r] w fun e w' => e = .returned (.int .i64 (-1)) ∧ Below w.heap.size w w' := by
  have VR := fun w => Tryz.utf8_ValidRune r w
  have d1 : decide (r < 128) = false := decide_eq_false (by omega)
  have d2 : decide (0 ≤ r) = true := decide_eq_true (by omega)
  by_cases a : r = 65533
  · subst a
    go_enter Tryz.func38, Tryz.ntmps38
    go_wp2
    go_loopg [5, 6] s.size (fun g _ _ wx => ∃ i : Nat, i + g = s.size ∧ wx = w.iter s i)
    case atStart => exact ⟨0, by omega, rfl⟩
    case round =>
      obtain ⟨i, hig, rfl⟩ := hrel
      cases gk with
      | zero =>
        obtain rfl : i = s.size := by omega
        clear h5 ha
        have hnx := run_next_end (P := Tryz.prog) w s s.size
        go_wp2
        go_ret
        exact ⟨rfl, (Below.refl _ w).alloc (Nat.le_refl _) _⟩
      | succ g =>
        have hi : i < s.size := by omega
        have hx128 := ha i hi
        have hnx := fun ty => run_next_ascii (P := Tryz.prog) w s i ty hi hx128
        have hne : ((s[i].toNat : Int) == 65533) = false := by rw [beq_eq_false_iff_ne]; omega
        have hig2 : i + 1 + g = s.size := by omega
        clear ha h5 hig
        generalize s[i].toNat = x at *
        go_wp2
        go_roundg g
        case measure => exact Nat.lt_succ_self _
        case rel => exact ⟨i + 1, hig2, rfl⟩
  · have d3 : (r == 65533) = false := by rw [beq_eq_false_iff_ne]; omega
    cases hv : Lib.validRune r with
    | false =>
      rw [hv] at VR
      go_enter Tryz.func38, Tryz.ntmps38
      go_wp2_with (go_at_call 70; (with_reducible refine (VR _).mono ?_); rintro e w2 ⟨rfl, rfl⟩)
      go_ret
      exact ⟨rfl, Below.refl _ _⟩
    | true =>
      rw [hv] at VR
      go_enter Tryz.func38, Tryz.ntmps38
      go_wp2_with (go_at_call 70; (with_reducible refine (VR _).mono ?_); rintro e w2 ⟨rfl, rfl⟩)
      obtain ⟨q, n, hnq, hq, hz, hn1, hn3, hc⟩ := enc_last r h0
      have hzn : wrap64 ((q.size : Int) - 1) = n := by rw [hz]; unfold wrap64; omega
      refine wp_scope_straight ?_
      go_wp2
      go_loopw [9] (fun v wr => v = .int .i64 n ∧ wr = w2) (fun _ _ => 0)
      case atStart => exact ⟨by rw [← hzn], rfl⟩
      case round =>
        obtain ⟨rfl, rfl⟩ := hrel
        have hns : n < s.size := by omega
        have hb1 : (n : Int) < s.size := by omega
        have hlt := ha n hns
        have hne : ((s[n].toNat : Int) != q[n].toNat) = true := by rw [bne_iff_ne]; omega
        have hn0 : (0 : Int) ≤ n := by omega
        have hb2 : (n : Int) < q.size := by omega
        have hb3 : (n : Int) + 1 ≤ s.size := by omega
        have hb4 : n + 1 ≤ s.size := by omega
        have hn1' : (0 : Int) ≤ n + 1 := by omega
        have IB : ∀ w', Calls Tryz.prog 69 #[.string (s.extract (n + 1) s.size), .int .u8 q[n].toNat] w' fun e w'' => e = .returned (.int .i64 (-1)) ∧ w'' = w' := fun w' => by
          have := Tryz.strings_IndexByte (s.extract (n + 1) s.size) (q[n].toNat : Int) w'
          have hno : Lib.indexByte (s.extract (n + 1) s.size).data.toList ((q[n].toNat : Int)).toNat.toUInt8 = -1 := by
            apply indexByte_none
            rw [Sc.drop_data]
            intro x hx
            have hx' := List.mem_of_mem_drop hx
            obtain ⟨i, hi, rfl⟩ := List.getElem_of_mem hx'
            have hi' : i < s.size := by rw [← Sc.len_size]; exact hi
            have h1 := ha i hi'
            intro e
            have e2 : (s.data.toList[i]).toNat = q[n].toNat := by rw [e]; simp
            have e3 : s.data.toList[i] = s[i] := rfl
            rw [e3] at e2
            omega
          rw [hno] at this
          exact this
        clear hz h5 ha hzn
        go_wp2
        refine wp_scope_straight ?_
        go_wp2
        go_quiet (fail)
        go_wp2
        have htn : ((n : Int) + 1).toNat = n + 1 := by omega
        have hwr : IntKind.i64.wrap ((n : Int) + 1) = (n : Int) + 1 := by
          unfold IntKind.wrap
          simp [IntKind.bits, IntKind.signed]
          omega
        go_still_tail 7, (by kernel_rfl)
        change wpList _ _ _ _ _ (wr.drewN nq).drew
        go_wp2_with (go_at_call 69; (with_reducible refine (IB _).mono ?_); rintro e w5 ⟨rfl, rfl⟩)
        simp +zetaDelta only [Exit.noGoto_ret, Exit.inBlock, Exit.then]
        go_ret
        exact ⟨rfl, below_drewN' (Below.refl _ _) _⟩
end Tx
end Go.Proofs.YtehmcahdjldhbaaGreatDoor
end
section
/- strings.IndexAny at any text; block.Label at any text; all of Rest. -/
open Go Go.RowKit
set_option linter.unusedVariables false
set_option linter.unusedSimpArgs false
set_option maxRecDepth 100000
namespace Go.Proofs.YtehmcahdjldhbaaGreatDoor
open Wk
namespace Tx
/-- What a rune beyond ASCII takes is beyond ASCII, byte for byte. -/
theorem rune_far (s : ByteArray) (pos : Nat) (hp : pos < s.size) (h : 128 ≤ (s[pos]'hp).toNat) :
    128 ≤ (Utf8.decode s pos).1 ∧ pos + (Utf8.decode s pos).2 ≤ s.size ∧ ∀ (j : Nat) b, pos ≤ j → j < pos + (Utf8.decode s pos).2 → s.data.toList[j]? = some b → 128 ≤ b.toNat := by
  have e0 : s.get! pos = s[pos]'hp := by
    show s.data[pos]! = s.data[pos]'hp
    exact getElem!_pos s.data pos hp
  have at_ : ∀ (k : Nat) b, s.data.toList[pos + k]? = some b → s.get! (pos + k) = b := by
    intro k b hb
    obtain ⟨hk, rfl⟩ := List.getElem?_eq_some_iff.1 hb
    have hk' : pos + k < s.data.size := by simpa using hk
    show s.data[pos + k]! = _
    rw [getElem!_pos s.data (pos + k) hk', Array.getElem_toList]
  rw [Lib.decode_at, e0]
  rcases Lib.decodeN_shape (s.size - pos) (s[pos]'hp).toNat (s.get! (pos + 1)).toNat (s.get! (pos + 2)).toNat (s.get! (pos + 3)).toNat with ⟨h1, _⟩ | ⟨h1, h2, h3, h4, e⟩ | ⟨h1, h2, h3, h4, h5, _, e⟩ | ⟨h1, h2, h3, h4, h5, h6, _, e⟩ | e
  · omega
  all_goals
    rw [e]
    refine ⟨by show 128 ≤ _; first | omega | decide, by show pos + _ ≤ _; omega, ?_⟩
    intro j b hj1 hj2 hb
    have hj2 : j < pos + _ := hj2
    obtain ⟨k, rfl⟩ : ∃ k, j = pos + k := ⟨j - pos, by omega⟩
    have hg := at_ k b hb
    match k, hj2, hg with
    | 0, _, hg => rw [Nat.add_zero, e0] at hg; rw [← hg]; exact h
    | 1, hk, hg => first | (rw [hg] at h3; omega) | omega
    | 2, hk, hg => first | (rw [hg] at h4; omega) | omega
    | 3, hk, hg => first | (rw [hg] at h5; omega) | omega
    | k + 4, hk, hg => omega
set_option maxHeartbeats 4000000 in
theorem idx_short (s c : ByteArray) (hc5 : c.size = 5) (hca : ∀ i (h : i < c.size), c[i].toNat < 128) (w : World) (h8 : s.size ≤ 8) :
    Calls Tryz.prog 29 #[.string s, .string c] w fun e w' => e = .returned (.int .i64 (Lib.indexAny s.data.toList c.data.toList)) ∧ Below w.heap.size w w' := by
  have hemp : c.toList.isEmpty = false := by
    rw [empty_iff, decide_eq_false_iff_not]; intro e; have := Sc.len_size c; rw [e] at this; simp at this; omega
  have hn1 : ((c.size : Int) == 1) = false := beq_eq_false_iff_ne.2 (by omega)
  have h8z : decide ((8 : Int) < (s.size : Int)) = false := decide_eq_false (by omega)
  have IA := fun (x : UInt8) (hx : x.toNat < 128) (w : World) => Any.strings_IndexRune_ascii { Tryz.lays153 with } c (x.toNat : Int) w (by omega) (by omega)
  have IF := fun (r : Nat) (h0 : 128 ≤ r) (h1 : r ≤ 1114111) (w : World) => irune_far c hc5 hca (r : Int) w (by omega) (by omega)
  have far : ∀ b : UInt8, 128 ≤ b.toNat → c.data.toList.contains b = false := by
    intro b hb
    rw [Bool.eq_false_iff]
    intro h
    rw [List.contains_iff_mem] at h
    obtain ⟨i, hi, rfl⟩ := List.getElem_of_mem h
    have := hca i (by rw [← Sc.len_size]; exact hi)
    have e : c.data.toList[i] = c[i]'(by rw [← Sc.len_size]; exact hi) := rfl
    rw [e] at hb
    omega
  have hcI := Lib.hid (fun x => Lib.contains_iff_indexByte c.data.toList x)
  clear hc5 hca
  have SU : Calls Tryz.prog 39 #[.int .i64 s.size] w fun e w' => e = .returned (.bool false) ∧ w' = w := by
    go_enter Tryz.func39, Tryz.ntmps39
    go_wp2
    go_ret
    exact ⟨rfl, rfl⟩
  go_enter Tryz.func29, Tryz.ntmps29
  go_wp2_with (go_at_call 39; (with_reducible refine SU.mono ?_); rintro e w2 ⟨rfl, rfl⟩)
  go_loopw [9, 10] (fun _ _ wr => ∃ pos, wr.heap[w2.heap.size]? = some (.stringIter s pos) ∧ pos ≤ s.size ∧ Lib.NoAny s.data.toList c.data.toList pos ∧ Below w2.heap.size w2 wr) (fun _ _ wr => s.size - wr.iterPos w2.heap.size)
  case atStart => exact ⟨0, World.iter_heap w2 s 0, Nat.zero_le _, Lib.NoAny.zero _ _, (Below.refl _ w2).alloc (Nat.le_refl _) _⟩
  case round =>
    obtain ⟨pos, hit, hpz, hno, hbw⟩ := hrel
    have HN := Lib.hid hno
    clear hno SU
    have hsz : w2.heap.size < wr.heap.size := (Array.getElem?_eq_some_iff.1 hit).1
    by_cases hp : pos < s.size
    · obtain ⟨x, hx⟩ : ∃ x : UInt8, s[pos]'hp = x := ⟨_, rfl⟩
      have Hx := Lib.hid (show s.data.toList[pos]? = some x by rw [← hx]; exact Lib.data_getElem? s pos hp)
      by_cases h128 : x.toNat < 128
      · have hnx : ∀ ty, (Instr.next (.pointer (some ⟨w2.heap.size, 0, none⟩)) true ty).run Tryz.prog wr = _ := fun ty => Lib.run_next_ascii_at wr w2.heap.size s pos ty hit hp (by rw [hx]; exact h128)
        rw [hx] at hnx
        have hit2 := Lib.iterAt_heap wr w2.heap.size s pos (pos + 1) hit
        have hb2 := Lib.below_iterAt hbw (k := w2.heap.size) (Nat.le_refl _) s (pos + 1)
        have hcon := hcI.out x
        have hback : ((x.toNat : Int)).toNat.toUInt8 = x := by simp
        have IA := IA x h128
        rw [hback] at IA
        clear hx
        cases hin : c.data.toList.contains x with
        | false =>
          rw [hin] at hcon
          have hlt : ¬ ((0 : Int) ≤ Lib.indexByte c.data.toList x) := of_decide_eq_false hcon.symm
          have hlt2 : decide ((0 : Int) ≤ Lib.indexByte c.data.toList x) = false := hcon.symm
          have hin := Lib.hid hin
          clear hcon
          go_wp2_with (go_at_call 38; (refine (IA _).mono ?_); rintro e w5 ⟨rfl, rfl⟩)
          go_roundw
          case rel => exact ⟨pos + 1, hit2, hp, HN.out.succ Hx.out hin.out, hb2⟩
          case measure => simp only [World.iterPos, hit2, hit]; omega
        | true =>
          rw [hin] at hcon
          have hge : (0 : Int) ≤ Lib.indexByte c.data.toList x := of_decide_eq_true hcon.symm
          have hge2 : decide ((0 : Int) ≤ Lib.indexByte c.data.toList x) = true := hcon.symm
          have hin := Lib.hid hin
          clear hcon
          go_wp2_with (go_at_call 38; (refine (IA _).mono ?_); rintro e w5 ⟨rfl, rfl⟩)
          go_ret
          exact ⟨by rw [Lib.indexAny_hit HN.out Hx.out hin.out]; rfl, hb2⟩
      · obtain ⟨r1, r2, r3⟩ := rune_far s pos hp (by rw [hx]; omega)
        have hrl := Lib.rune_le s pos
        have hwp := Lib.width_pos s pos
        have hnx : ∀ ty, (Instr.next (.pointer (some ⟨w2.heap.size, 0, none⟩)) true ty).run Tryz.prog wr = _ := fun ty => Lib.run_next_any_at wr w2.heap.size s pos ty hit hp
        have hit2 := Lib.iterAt_heap wr w2.heap.size s pos (pos + (Utf8.decode s pos).2) hit
        have hb2 := Lib.below_iterAt hbw (k := w2.heap.size) (Nat.le_refl _) s (pos + (Utf8.decode s pos).2)
        have IF := IF (Utf8.decode s pos).1 r1 hrl
        have N2 : Hid (Lib.NoAny s.data.toList c.data.toList (pos + (Utf8.decode s pos).2)) := by
          apply Lib.hid
          intro j b hj hb
          by_cases q : j < pos
          · exact HN.out j b q hb
          · exact far b (r3 j b (by omega) hj hb)
        generalize (Utf8.decode s pos).1 = r at *
        generalize (Utf8.decode s pos).2 = n at *
        clear hx r3 IA
        go_wp2_with (go_at_call 38; (with_reducible refine (IF _).mono ?_); rintro e w5 ⟨rfl, b5⟩; have hit5 := Bk.blk_below' hit2 b5; have hb5 := hb2.trans (b5.mono hb2.size))
        go_roundw
        case rel => exact ⟨pos + n, hit5, r2, N2.out, hb5⟩
        case measure => simp only [World.iterPos, hit5, hit]; omega
    · have hnx : ∀ ty, (Instr.next (.pointer (some ⟨w2.heap.size, 0, none⟩)) true ty).run Tryz.prog wr = _ := fun ty => Lib.run_next_end_at wr w2.heap.size s pos ty hit hp
      go_wp2
      go_ret
      have : pos = s.data.toList.length := by rw [Sc.len_size]; omega
      exact ⟨by rw [Lib.indexAny_none (by rw [← this]; exact HN.out)]; rfl, hbw⟩
theorem set_ascii : ∀ i (h : i < (⟨#[32, 9, 10, 91, 93]⟩ : ByteArray).size), ((⟨#[32, 9, 10, 91, 93]⟩ : ByteArray)[i]'h).toNat < 128 := by
  have : ∀ i : Fin 5, ((⟨#[32, 9, 10, 91, 93]⟩ : ByteArray)[i.val]'i.isLt).toNat < 128 := by decide
  exact fun i h => this ⟨i, h⟩
theorem idx_all (l : Bs) (hl : l.length ≤ 4000000000) : Bk.IdxC l := by
  intro w
  by_cases h8 : l.length ≤ 8
  · exact idx_short (mk l) ⟨#[32, 9, 10, 91, 93]⟩ rfl set_ascii w (by rw [mk_size]; exact h8)
  · have h116 : (Tryz.prog.info? (Tryz.lays153_ren.t 116)).map (fun i => (i.zero, i.size)) = some (some (.agg (Array.replicate 256 (.bool false))), 256) := by kernel_rfl
    exact (Any.strings_IndexAny_long Tryz.lays153 (zero_of_info h116).1 (zero_of_info h116).2 (mk l) ⟨#[32, 9, 10, 91, 93]⟩ w (by decide) (by rw [mk_size]; omega) (by rw [mk_size]; omega) (by decide) (ascii_of_all (by decide))).mono fun e w' ⟨h1, h2⟩ => ⟨h1, h2 ▸ ((Below.refl _ w).alloc (Nat.le_refl _) _).alloc (by simp) _⟩
theorem rest : Bk.Rest (allR unescF) unescF where
  refs := fun s hs => All_any unescF s hs fun k x ⟨a, n, e⟩ => unescC x (by
    rw [e, List.length_take, List.length_drop, List.length_drop]; omega)
  unesc := fun s hs => unescC s (by omega)
  label := fun s hs => Bk.Label_of s (by omega) (idx_all _ (by split; (rw [List.length_drop]; omega); omega))
  few := allR_few unescF
end Tx
end Go.Proofs.YtehmcahdjldhbaaGreatDoor
end
section
/- Law 11: awake: what the constant texts are. -/
open Go Go.RowKit Go.Proofs.YtehmcahdjldhbaaGreatDoorW.PrintWords
set_option linter.unusedVariables false
set_option linter.unusedSimpArgs false
set_option maxRecDepth 100000
namespace Go.Proofs.YtehmcahdjldhbaaGreatDoor
open Wk
namespace Tx
open Bk (parse toSs S32 k32 TBk strV LinesAt ParsePost)
def FF := allR unescF
def okA (l : List S32) : Bool := match l with | [x] => x.f0 == 3 && !x.f5 && x.f8.length == 2 | _ => false
def okB (l : List S32) : Bool := match l with | [x] => x.f0 == 2 && (match x.f8 with | [y] => y.f1.data.toList == [97, 10, 98] | _ => false) | _ => false
theorem aw1 : okA (toSs (parse FF unescF false [[45, 32, 97], [], [45, 32, 98]]).1) = true := by decide +kernel
theorem aw2 : okB (toSs (parse FF unescF false [[62, 32, 97], [98]]).1) = true := by decide +kernel
theorem aw3 : Bk.label [91, 94, 120, 93, 58, 32, 121] = ([120], 5) := by decide +kernel
theorem phi_four : ∀ s : Bk.Bs, Bk.phi s ≤ 4 * s.length
  | [] => Nat.le_refl _
  | b :: t => by have := phi_four t; simp only [Bk.phi, List.length_cons]; split <;> omega
theorem notes0 : Bk.notesOf 0 = false := by decide
theorem parse_at (w : World) (hE : Env w) (l : List Bk.Bs) (v : Value) (hv : LinesAt w v l) (mask : Int) (hll : l.length ≤ 200) (hs : ∀ s ∈ l, s.length ≤ 200) :
    Calls Tryz.prog 13 #[v, .int .i64 mask] w (ParsePost FF unescF (Bk.notesOf mask) l w) :=
  Bk.Parse_all rest w hE l v hv mask hll (fun s h => by have := hs s h; have := phi_four s; omega)
theorem okA_is {l : List S32} (h : okA l = true) : ∃ x, l = [x] ∧ x.f0 = 3 ∧ x.f5 = false ∧ x.f8.length = 2 := by
  match l, h with
  | [x], h =>
    simp only [okA, Bool.and_eq_true, beq_iff_eq, Bool.not_eq_true'] at h
    exact ⟨x, rfl, h.1.1, h.1.2, h.2⟩
theorem okB_is {l : List S32} (h : okB l = true) : ∃ x y, l = [x] ∧ x.f0 = 2 ∧ x.f8 = [y] ∧ y.f1 = mk [97, 10, 98] := by
  match l, h with
  | [x], h =>
    simp only [okB, Bool.and_eq_true, beq_iff_eq] at h
    obtain ⟨h1, h2⟩ := h
    cases e : x.f8 with
    | nil => rw [e] at h2; cases h2
    | cons y r =>
      rw [e] at h2
      cases r with
      | nil => exact ⟨x, y, rfl, h1, e, mk_of (by simpa using h2)⟩
      | cons z r => cases h2
/-- The first of a row of blocks, in memory. -/
theorem row0 {w : World} {A : Option Addr} {n : Nat} {x : S32} {r : List S32} (h : Kd.C k32 w A n (x :: r)) (h1 : 0 < n) : ∃ ad A8 c8, A = some ad ∧ w.cell? ad = some (.int .i64 x.f0) ∧ w.cell? ⟨ad.block, ad.off + 1, none⟩ = some (.string x.f1) ∧ w.cell? ⟨ad.block, ad.off + 5, none⟩ = some (.bool x.f5) ∧ w.cell? ⟨ad.block, ad.off + 8, none⟩ = some (.slice A8 x.f8.length c8) ∧ k32.C w A8 x.f8.length x.f8 := by
  obtain ⟨ad, A8, c8, e, a0, a1, _, _, _, a5, _, _, a8, _, C⟩ := Bk.at_T32 h 0 (Int.le_refl 0) (by omega)
  have ea : ad.add (Int.toNat 0 * 9) = ad := rfl
  rw [ea] at a0 a1 a5 a8
  exact ⟨ad, A8, c8, e, a0, a1, a5, a8, C⟩
set_option maxHeartbeats 4000000 in
theorem awake_any (w : World) (hE : Env w) : Calls Tryz.prog 11 #[] w fun e w' => e = .returned (.bool true) ∧ Below w.heap.size w w' := by
  have hb1 : Below w.heap.size w (w.alloc (.cells #[.string ⟨#[45, 32, 97]⟩, .string ⟨#[]⟩, .string ⟨#[45, 32, 98]⟩] 9)) := (Below.refl _ w).alloc (Nat.le_refl _) _
  have P1 := parse_at (w.alloc (.cells #[.string ⟨#[45, 32, 97]⟩, .string ⟨#[]⟩, .string ⟨#[45, 32, 98]⟩] 9)) (hE.below hb1) [[45, 32, 97], [], [45, 32, 98]] (.slice (some ⟨w.heap.size, 0, none⟩) 3 3) (.inr ⟨w.heap.size, 0, 3, rfl, Nat.le_refl 3, by
    intro k s hk
    have hn := heap_alloc_new w (.cells #[.string ⟨#[45, 32, 97]⟩, .string ⟨#[]⟩, .string ⟨#[45, 32, 98]⟩] 9)
    match k, hk with
    | 0, hk => cases hk; exact (cell_blk hn 0).trans rfl
    | 1, hk => cases hk; exact (cell_blk hn 1).trans rfl
    | 2, hk => cases hk; exact (cell_blk hn 2).trans rfl⟩) 0 (by decide) (by decide)
  have P2 := fun (w1 : World) (hE1 : Env w1) => parse_at (w1.alloc (.cells #[.string ⟨#[62, 32, 97]⟩, .string ⟨#[98]⟩] 9)) (hE1.below ((Below.refl _ w1).alloc (Nat.le_refl _) _)) [[62, 32, 97], [98]] (.slice (some ⟨w1.heap.size, 0, none⟩) 2 2) (.inr ⟨w1.heap.size, 0, 2, rfl, Nat.le_refl 2, by
    intro k s hk
    have hn := heap_alloc_new w1 (.cells #[.string ⟨#[62, 32, 97]⟩, .string ⟨#[98]⟩] 9)
    match k, hk with
    | 0, hk => cases hk; exact (cell_blk hn 0).trans rfl
    | 1, hk => cases hk; exact (cell_blk hn 1).trans rfl⟩) 0 (by decide) (by decide)
  have P3 := rest.label [91, 94, 120, 93, 58, 32, 121] (by decide)
  unfold Bk.LabelC at P3
  rw [aw3] at P3
  have P3 : ∀ w', Calls Tryz.prog 20 #[.string ⟨#[91, 94, 120, 93, 58, 32, 121]⟩] w' fun e w'' => e = .returned (.tuple #[.string ⟨#[120]⟩, .int .i64 5]) ∧ Below w'.heap.size w' w'' := P3
  unfold ParsePost at P1 P2
  rw [notes0] at P1 P2
  obtain ⟨x, e1, x0, x5, x8⟩ := okA_is aw1
  have ht := mk_toList [97, 10, 98]
  obtain ⟨y, z, e2, y0, y8, z1⟩ := okB_is aw2
  rw [e1] at P1
  rw [e2] at P2
  go_enter Tryz.func11, Tryz.ntmps11
  go_wp2_with (first
    | (go_at_call 13; (with_reducible refine P1.mono ?_); rintro e w1 ⟨v1, v2, rfl, R1, -, b1⟩; have hb2 := hb1.trans (b1.mono hb1.size); have hE1 := hE.below hb2; clear P1)
    | (go_at_call 13; (with_reducible refine (P2 _ hE1).mono ?_); rintro e w2 ⟨u1, u2, rfl, R2, -, b2⟩; have bb := ((Below.refl w1.heap.size w1).alloc (Nat.le_refl _) (.cells #[.string ⟨#[62, 32, 97]⟩, .string ⟨#[98]⟩] 9)); have b3 := bb.trans (b2.mono bb.size))
    | (go_at_call 20; (with_reducible refine (P3 _).mono ?_); rintro e w3 ⟨rfl, b4⟩; have R3 := Kd.R_below R1 (b3.trans (b4.mono b3.size)); have R4 := Kd.R_below R2 b4; obtain ⟨A, c, rfl, hc, C1⟩ := Kd.R_reads R3; obtain ⟨A', c', rfl, hc', C2⟩ := Kd.R_reads R4; obtain ⟨ad, A8, c8, rfl, a0, _, a5, a8, _⟩ := row0 C1 (Nat.lt_add_one 0); obtain ⟨ad', B8, d8, rfl, b0, _, _, b8, C3⟩ := row0 C2 (Nat.lt_add_one 0); rw [y8] at C3 b8; obtain ⟨az, _, _, rfl, _, z2, _, _, _⟩ := row0 C3 (Nat.lt_add_one 0); rw [x0] at a0; rw [x5] at a5; rw [x8] at a8; rw [y0] at b0; rw [z1] at z2; have hb5 := hb2.trans ((b3.trans (b4.mono b3.size)).mono hb2.size)))
  go_ret
  exact ⟨rfl, hb5⟩
end Tx
end Go.Proofs.YtehmcahdjldhbaaGreatDoor
end
section
/- Law 11: few. -/
open Go Go.RowKit
set_option linter.unusedVariables false
set_option linter.unusedSimpArgs false
set_option maxRecDepth 100000
namespace Go.Proofs.YtehmcahdjldhbaaGreatDoor
open Wk
namespace Tx
open Bk (strV LinesAt)
def few (l : List Bs) : Bool := decide (l.length ≤ 40) && l.all fun s => decide (s.length ≤ 80)
set_option maxHeartbeats 4000000 in
theorem few_any (w : World) (v : Value) (l : List Bs) (hv : LinesAt w v l) :
    Calls Tryz.prog 12 #[v] w fun e w' => e = .returned (.bool (few l)) ∧ Below w.heap.size w w' := by
  obtain ⟨A, c, rfl⟩ : ∃ A c, v = .slice A l.length c := hv.form
  by_cases h40 : l.length ≤ 40
  · have hR : Hid (few l = l.all fun s => decide (s.length ≤ 80)) := by apply Lib.hid; unfold few; rw [decide_eq_true h40]; rfl
    have d1 : decide ((40 : Int) < (l.length : Int)) = false := decide_eq_false (by omega)
    generalize few l = R at *
    go_enter Tryz.func12, Tryz.ntmps12
    go_wp2
    go_loopw [3] (fun kv wr => ∃ k : Nat, kv = .int .i64 k ∧ k ≤ l.length ∧ Hid (R = (l.drop k).all fun s => decide (s.length ≤ 80)) ∧ Below w.heap.size w wr) (fun kv _ => l.length - (Lib.intOf kv).toNat)
    case atStart => exact ⟨0, rfl, Nat.zero_le _, Lib.hid (by rw [hR.out]; rfl), Below.refl _ _⟩
    case round =>
      obtain ⟨k, rfl, hk, hA, hb⟩ := hrel
      by_cases hlt : k < l.length
      · obtain ⟨g, o, rfl, hc⟩ : ∃ g o, A = some ⟨g, o, none⟩ ∧ wr.cell? ⟨g, o + k, none⟩ = some (.string (mk l[k])) := by
          rcases hv with ⟨e, _⟩ | ⟨g, o, cap, e, _, h2⟩
          · rw [e] at hlt; exact absurd hlt (Nat.not_lt_zero _)
          · injection e with e _ _
            have := h2 k l[k] (List.getElem?_eq_getElem hlt)
            exact ⟨g, o, e, (hb.cell (World.block_lt_of_cell? _ _ this)).trans this⟩
        have hS : Hid (R = (decide (l[k].length ≤ 80) && (l.drop (k + 1)).all fun s => decide (s.length ≤ 80))) := by
          apply Lib.hid; rw [hA.out, List.drop_eq_getElem_cons hlt, List.all_cons]
        have hz : Hid ((mk l[k]).size = l[k].length) := Lib.hid (mk_size _)
        clear hA hv hR
        generalize l[k] = s at *
        by_cases h80 : s.length ≤ 80
        · have d2 : decide ((80 : Int) < ((mk s).size : Int)) = false := decide_eq_false (by rw [hz.out]; omega)
          go_wp2
          go_roundw
          case rel => exact ⟨k + 1, by go_num, by omega, Lib.hid (by rw [hS.out, decide_eq_true h80]; rfl), hb⟩
          case measure => simp [Lib.intOf]; omega
        · have d2 : decide ((80 : Int) < ((mk s).size : Int)) = true := decide_eq_true (by rw [hz.out]; omega)
          have h80 := Lib.hid h80
          go_wp2
          go_ret
          exact ⟨by rw [hS.out, decide_eq_false h80.out]; rfl, hb⟩
      · have hR2 : Hid (R = true) := by apply Lib.hid; rw [hA.out, List.drop_eq_nil_of_le (by omega)]; rfl
        have : k = l.length := by omega
        subst this
        go_wp2
        go_ret
        exact ⟨by rw [hR2.out]; rfl, hb⟩
  · have hR : Hid (few l = false) := by apply Lib.hid; unfold few; rw [decide_eq_false h40]; rfl
    have d1 : decide ((40 : Int) < (l.length : Int)) = true := decide_eq_true (by omega)
    rw [hR.out]
    clear hR
    go_enter Tryz.func12, Tryz.ntmps12
    go_wp2
    go_ret
    exact ⟨rfl, Below.refl _ _⟩
end Tx
end Go.Proofs.YtehmcahdjldhbaaGreatDoor
end
section
/- Appending any lines that are read to a row of the call's own. -/
open Go Go.RowKit
set_option linter.unusedVariables false
set_option linter.unusedSimpArgs false
set_option maxRecDepth 100000
namespace Go.Proofs.YtehmcahdjldhbaaGreatDoor
open Wk
namespace Bk
theorem strs_own (l : List Bs) : ∀ u ∈ l.map strV, u.oneCell' = true := fun u hu => by
  obtain ⟨s, _, rfl⟩ := List.mem_map.1 hu
  rfl
theorem wpList_lines {w : World} {ops : Array Oper} {rest : List Oper} {o : Oper} {a : Act} {Q : Exit → Act → World → Prop} (hgd : o.guard = none) (s x : Operand)
    (ho : o.op = .call { callee := .builtin .append, args := #[s, x], argTypes := #[22, 22] }) (base g0 n cap0 : Nat) (xs : List Value) (hs : a.eval s = .slice (some ⟨g0, 0, none⟩) n cap0)
    (hown : w.ownsRow base 9 1 (.slice (some ⟨g0, 0, none⟩) n cap0) n xs) (hcap : n ≤ cap0) (ao : Option Addr) (c : Nat) (l : List Bs) (hx : a.eval x = .slice ao l.length c) (hnone : ao = none → l.length = 0 ∧ c = 0)
    (hc : ∀ ad, ao = some ad → ∀ j u, (l.map strV)[j]? = some u → w.cell? (ad.add j) = some u) (hb : n + l.length ≤ 1000) (hbase : base ≤ w.heap.size)
    (h : ∀ g cap w', w'.ownsRow base 9 1 (.slice (some ⟨g, 0, none⟩) (n + l.length) cap) (n + l.length) (xs ++ l.map strV) → w.grownBy w' (some g0) → wpList Tryz.prog ops Q rest (a.put o.dst (.slice (some ⟨g, 0, none⟩) (n + l.length) cap)) w') :
    wpList Tryz.prog ops Q (o :: rest) a w := by
  obtain ⟨i0, hi0, hz0, hz1, hz2⟩ := info_parts Bk.Tryz.infoST
  by_cases h0 : l.length = 0
  · have hl : l = [] := List.eq_nil_of_length_eq_zero h0
    refine wpList_append_fits_any w hgd s x 22 ho base 9 i0 1 Tryz.underlying22 hi0 hz1 g0 n cap0 xs hs hown ao l.length c (l.map strV) hx (by simp) hnone hc (strs_own l) (by omega) ?_
    intro w' h1 h2
    exact h g0 cap0 w' h1 h2
  · cases ao with
    | none => exact absurd (hnone rfl).1 h0
    | some ad =>
      refine wpList_append_lies w hgd s x 22 ho base 9 i0 (.string ⟨#[]⟩) 1 16 Tryz.underlying22 hi0 hz0 hz1 hz2 rfl (by decide) (.slice (some ⟨g0, 0, none⟩) n cap0) n xs hs hown ad l.length c (l.map strV) hx (by simp) (hc ad rfl) (strs_own l) (by omega) (by unfold maxLen; omega) (by omega) hbase w.heap.size rfl ?_
      intro g cap w' h1 h2 h3 h4
      exact h g cap w' h1 h2
/-- The cells of lines that are read. -/
theorem LinesAt.cells {w : World} {A : Option Addr} {c : Nat} {l : List Bs} (h : LinesAt w (.slice A l.length c) l) : ∀ ad, A = some ad → ∀ j u, (l.map strV)[j]? = some u → w.cell? (ad.add j) = some u := by
  intro ad e j u hj
  subst e
  rw [List.getElem?_map] at hj
  rcases h with ⟨rfl, _⟩ | ⟨g, o, cap, e, h1, h2⟩
  · simp at hj
  · cases e
    cases hs : l[j]? with
    | none => rw [hs] at hj; cases hj
    | some s =>
      rw [hs] at hj; cases hj
      have := h2 j s hs
      have e : (⟨g, o, none⟩ : Addr).add j = ⟨g, o + j, none⟩ := by
        unfold Addr.add
        split
        · rename_i e; subst e; rfl
        · rfl
      rw [e]; exact this
/-- A nil slice has no room. -/
def NilOk (v : Value) : Prop := ∀ n c, v = .slice none n c → n = 0 ∧ c = 0
end Bk
end Go.Proofs.YtehmcahdjldhbaaGreatDoor
end
section
/- A []string argument, opened: lines that are read. -/
open Go Go.RowKit Go.ChangeShapes Go.WideShapes
set_option linter.unusedVariables false
set_option linter.unusedSimpArgs false
set_option maxRecDepth 100000
namespace Go.Proofs.YtehmcahdjldhbaaGreatDoor
namespace Bk
theorem uRow : Tryz.prog.underlying 22 = some (.slice 9) := by kernel_rfl
theorem uStr : Tryz.prog.underlying 9 = some .string := by kernel_rfl
theorem cStr : Tryz.prog.cellsOf 9 = 1 := by kernel_rfl
theorem add_at (g o k : Nat) : (⟨g, o, none⟩ : Addr).add k = ⟨g, o + k, none⟩ := by
  unfold Addr.add
  split
  · rename_i e; subst e; rfl
  · rfl
theorem open_lines {H : Type} {enc : TypeId × Value → H} {W : World} {v : Value} {d : DataW H} {p : List MemPlace} {b : Nat}
    (hval : Value.okWide Tryz.prog W .any b 22 v) (h : DataW.Trod enc Tryz.prog W 0 (fun _ => true) true 22 v d p) : ∃ l : List Bs, LinesAt W v l ∧ NilOk v := by
  obtain ⟨a1, len, cap, rfl⟩ := okWide_slice uRow hval
  obtain ⟨fuel, hf⟩ := h
  rcases open_strings uRow uStr cStr hf with ⟨hcs, hx⟩ | ⟨a, len', cap', ss, hcs, _, hl, hm, hz, hx, hcell, hws⟩
  · simp [Value.cells] at hcs
    obtain ⟨rfl, rfl, rfl⟩ := hcs
    exact ⟨[], .inl ⟨rfl, none, 0, rfl⟩, fun n c e => by cases e; exact ⟨rfl, rfl⟩⟩
  · simp [Value.cells] at hcs
    obtain ⟨rfl, rfl, rfl⟩ := hcs
    simp only [if_true] at hz
    have hlen : ((ss.take len).map fun s => s.data.toList).length = len := by simp; omega
    refine ⟨(ss.take len).map fun s => s.data.toList, ?_, fun n c e => by cases e⟩
    by_cases hl0 : len = 0
    · subst hl0
      exact .inl ⟨rfl, _, _, rfl⟩
    · right
      obtain ⟨xb, xo, spot⟩ := a
      have hspot : spot = none := by simpa [Addr.add] using World.cell?_spot (hcell 0 (by omega))
      subst hspot
      refine ⟨xb, xo, cap, by rw [hlen], by rw [hlen]; exact hl, fun k s hk => ?_⟩
      have hk' := (List.getElem?_eq_some_iff.1 hk).1
      rw [hlen] at hk'
      have hc := hcell k (by omega)
      rw [List.getElem?_map, List.getElem?_take, if_pos hk', List.getElem?_eq_getElem (by omega)] at hk
      simp only [Option.map_some, Option.some.injEq] at hk
      have e : ss.getD k ByteArray.empty = mk s := by
        rw [List.getD_eq_getElem?_getD, List.getElem?_eq_getElem (by omega)]
        exact mk_of hk
      rw [e, add_at] at hc
      exact hc
end Bk
end Go.Proofs.YtehmcahdjldhbaaGreatDoor
end
