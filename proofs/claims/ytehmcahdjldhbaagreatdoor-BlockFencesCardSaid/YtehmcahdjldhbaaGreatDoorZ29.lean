/- Parts of this session's proof, one behind the other: LR LP LF LQ. -/
import Derived.Test.YtehmcahdjldhbaaGreatDoorZ12
import Derived.Test.YtehmcahdjldhbaaGreatDoorZ08
import Derived.Deep.AppendLies
import Derived.Test.YtehmcahdjldhbaaGreatDoorZ22
import Derived.Test.YtehmcahdjldhbaaGreatDoorZ28
section
/- Law 11: BlockRules, walked: its lines, and what is asked of their blocks. -/
open Go Go.RowKit
set_option linter.unusedVariables false
set_option linter.unusedSimpArgs false
set_option maxRecDepth 100000
namespace Go.Proofs.YtehmcahdjldhbaaGreatDoor
open Wk
namespace Tx
open Bk (Bs strV TS)
def ruleLine (i : Nat) : Bs := if i % 3 = 0 then [42, 42, 42] else if i % 3 = 1 then [35, 35, 32, 97] else [95, 32, 95, 32, 95]
def ruleLines (k : Nat) : List Bs := (List.range k).map ruleLine
theorem ruleLines_succ (j : Nat) : (ruleLines (j + 1)).map strV = (ruleLines j).map strV ++ [strV (ruleLine j)] := by
  unfold ruleLines; rw [List.range_succ, List.map_append, List.map_append]; rfl
theorem and31 (n : Int) : ∃ k : Nat, k < 32 ∧ bits BinOp.and IntKind.i64 n 31 = (k : Int) := by
  have h : (BitVec.ofInt 64 n &&& BitVec.ofInt 64 31).toNat < 32 := by
    rw [BitVec.toNat_and]
    have : (BitVec.ofInt 64 31).toNat = 31 := by decide
    rw [this]
    exact Nat.lt_of_le_of_lt Nat.and_le_right (by decide)
  refine ⟨(BitVec.ofInt 64 n &&& BitVec.ofInt 64 31).toNat, h, ?_⟩
  show IntKind.wrap .i64 ((BitVec.ofInt 64 n &&& BitVec.ofInt 64 31).toNat : Int) = _
  generalize (BitVec.ofInt 64 n &&& BitVec.ofInt 64 31).toNat = k at *
  simp [IntKind.wrap, IntKind.signed, IntKind.bits]
  omega
theorem heap_alloc_new2 (w : World) (o p : Obj) : ((w.alloc o).alloc p).heap[w.heap.size + 1]? = some p := by
  have := heap_alloc_new (w.alloc o) p
  have e : (w.alloc o).heap.size = w.heap.size + 1 := by simp
  rw [e] at this; exact this
theorem below_app2 {B e n : Nat} {w wr w3 : World} {v : Value} {xs : List Value} (hb : Below B w wr) (hown : wr.ownsRow B e 1 v n xs) (o p : Obj) (hg : ((wr.alloc o).alloc p).grownBy w3 v.ownBlock) (hs : B ≤ wr.heap.size := by exact hb.size) : Below B w w3 :=
  ((hb.alloc hs o).alloc (by have e : (wr.alloc o).heap.size = wr.heap.size + 1 := by simp
                             omega) p).grown hg (by have e : ((wr.alloc o).alloc p).heap.size = wr.heap.size + 1 + 1 := by simp
                                                    omega) (fun k hk => (hown.lt k hk).1)
def ruleKind (i : Nat) : Int := if i % 3 = 1 then 8 else 9
set_option maxHeartbeats 16000000 in
theorem rules_walk (w : World) (n mask : Int) (AW : Calls Tryz.prog 11 #[] w fun e w' => e = .returned (.bool true) ∧ Below w.heap.size w w')
    (PA : ∀ (k : Nat) (w1 : World) (lv : Value), k < 32 → w1.ownsRow w.heap.size TS 1 lv k ((ruleLines k).map strV) → Below w.heap.size w w1 → Calls Tryz.prog 13 #[lv, .int .i64 mask] w1 fun e w' => ∃ A c, e = .returned (.tuple #[.slice A k c, .slice none 0 0]) ∧ Below w1.heap.size w1 w' ∧
      ∀ i, i < k → ∃ ad, A = some ad ∧ w'.cell? (ad.add (i * 9)) = some (.int .i64 (ruleKind i)) ∧ w'.cell? ⟨(ad.add (i * 9)).block, (ad.add (i * 9)).off + 6, none⟩ = some (.int .i64 i) ∧ w'.cell? ⟨(ad.add (i * 9)).block, (ad.add (i * 9)).off + 7, none⟩ = some (.int .i64 i)) :
    Calls Tryz.prog 7 #[.int .i64 n, .int .i64 mask] w fun e w' => e = .returned (.bool true) ∧ Below w.heap.size w w' := by
  obtain ⟨k, hk, hkb⟩ := and31 n
  obtain ⟨i0, hi0, hz0, hz1, hz2⟩ := info_parts Bk.Tryz.infoST
  have PA := PA k
  go_enter Tryz.func7, Tryz.ntmps7
  go_wp2_with (first
      | (go_at_call 11; (with_reducible refine AW.mono ?_); rintro e w1 ⟨rfl, b1⟩))
  generalize bits BinOp.and IntKind.i64 n 31 = kz at *
  subst hkb
  go_loopw [7, 8] (fun lv kv wr => ∃ j : Nat, kv = .int .i64 j ∧ j ≤ k ∧ wr.ownsRow w.heap.size TS 1 lv j ((ruleLines j).map strV) ∧ Below w.heap.size w wr) (fun _ kv _ => k - (intOf kv).toNat)
  case atStart => exact ⟨0, rfl, Nat.zero_le _, World.ownsRow_nil _ _ _ _, b1⟩
  case round =>
    obtain ⟨j, rfl, hj, hown, hb⟩ := hrel
    by_cases hlt : j < k
    · have h3 : j % 3 = 0 ∨ j % 3 = 1 ∨ j % 3 = 2 := by omega
      have hm0 : (j : Int).tmod 3 = ((j % 3 : Nat) : Int) := rfl
      have hbs := hb.size
      have hsucc := Lib.hid (ruleLines_succ j)
      have hlen : Hid (((ruleLines j).map strV).length = j) := Lib.hid (by simp [ruleLines])
      rcases h3 with h3 | h3 | h3
      · rw [h3] at hm0
        have hl : Hid (strV (ruleLine j) = .string ⟨#[42, 42, 42]⟩) := Lib.hid (by unfold ruleLine; rw [h3]; rfl)
        go_wp2_with (at_builtin; refine wpList_append_lies _ rfl (.tmp 20) (.tmp 26) 22 rfl w.heap.size 9 i0 (.string ⟨#[]⟩) 1 16 Tryz.underlying22 hi0 hz0 hz1 hz2 rfl (by decide) _ j ((ruleLines j).map strV) rfl ((hown.alloc _).alloc _) ⟨wr.heap.size + 1, 0, none⟩ 1 1 [.string ⟨#[42, 42, 42]⟩] rfl rfl (World.news_of_block (heap_alloc_new2 _ _ _)) (fun u hu => by simp at hu; subst hu; rfl) (by decide) (by simp [maxLen]; omega) (by omega) (by simp; omega) _ rfl ?go)
        case go =>
          intro g3 cap3 w3 hown3 hgr hat hlt3
          go_wp2
          go_roundw
          case rel => exact ⟨j + 1, by go_num, by omega, by rw [hsucc.out, hl.out]; exact hown3, below_app2 hb hown _ _ hgr⟩
          case measure => simp [intOf]; omega
      · rw [h3] at hm0
        have hl : Hid (strV (ruleLine j) = .string ⟨#[35, 35, 32, 97]⟩) := Lib.hid (by unfold ruleLine; rw [h3]; rfl)
        go_wp2_with (at_builtin; refine wpList_append_lies _ rfl (.tmp 20) (.tmp 26) 22 rfl w.heap.size 9 i0 (.string ⟨#[]⟩) 1 16 Tryz.underlying22 hi0 hz0 hz1 hz2 rfl (by decide) _ j ((ruleLines j).map strV) rfl ((hown.alloc _).alloc _) ⟨wr.heap.size + 1, 0, none⟩ 1 1 [.string ⟨#[35, 35, 32, 97]⟩] rfl rfl (World.news_of_block (heap_alloc_new2 _ _ _)) (fun u hu => by simp at hu; subst hu; rfl) (by decide) (by simp [maxLen]; omega) (by omega) (by simp; omega) _ rfl ?go)
        case go =>
          intro g3 cap3 w3 hown3 hgr hat hlt3
          go_wp2
          go_roundw
          case rel => exact ⟨j + 1, by go_num, by omega, by rw [hsucc.out, hl.out]; exact hown3, below_app2 hb hown _ _ hgr⟩
          case measure => simp [intOf]; omega
      · rw [h3] at hm0
        have hl : Hid (strV (ruleLine j) = .string ⟨#[95, 32, 95, 32, 95]⟩) := Lib.hid (by unfold ruleLine; rw [h3]; rfl)
        go_wp2_with (at_builtin; refine wpList_append_lies _ rfl (.tmp 20) (.tmp 26) 22 rfl w.heap.size 9 i0 (.string ⟨#[]⟩) 1 16 Tryz.underlying22 hi0 hz0 hz1 hz2 rfl (by decide) _ j ((ruleLines j).map strV) rfl ((hown.alloc _).alloc _) ⟨wr.heap.size + 1, 0, none⟩ 1 1 [.string ⟨#[95, 32, 95, 32, 95]⟩] rfl rfl (World.news_of_block (heap_alloc_new2 _ _ _)) (fun u hu => by simp at hu; subst hu; rfl) (by decide) (by simp [maxLen]; omega) (by omega) (by simp; omega) _ rfl ?go)
        case go =>
          intro g3 cap3 w3 hown3 hgr hat hlt3
          go_wp2
          go_roundw
          case rel => exact ⟨j + 1, by go_num, by omega, by rw [hsucc.out, hl.out]; exact hown3, below_app2 hb hown _ _ hgr⟩
          case measure => simp [intOf]; omega
    · have hkj : j = k := by omega
      subst hkj
      have PA := fun w1 lv h1 h2 => PA w1 lv hk h1 h2
      go_wp2_with (go_at_call 13; (with_reducible refine (PA _ _ hown hb).mono ?_); rintro e w2 ⟨A, c, rfl, b2, hc⟩)
      have b3 := hb.trans (b2.mono hb.size)
      go_loopw [11] (fun iv wr => ∃ i : Nat, iv = .int .i64 i ∧ i ≤ j ∧ wr = w2) (fun iv _ => j - (intOf iv).toNat)
      case atStart => exact ⟨0, rfl, Nat.zero_le _, rfl⟩
      case round =>
        obtain ⟨i, rfl, hi, rfl⟩ := hrel
        by_cases hlt : i < j
        · obtain ⟨ad, rfl, c0, c6, c7⟩ := hc i hlt
          have hm0 : (i : Int).tmod 3 = ((i % 3 : Nat) : Int) := rfl
          unfold ruleKind at c0
          by_cases h3 : i % 3 = 1
          · rw [if_pos h3] at c0
            rw [h3] at hm0
            go_wp2
            go_roundw
            case rel => exact ⟨i + 1, by go_num, by omega, by first | rfl | trivial⟩
            case measure => simp [intOf]; omega
          · rw [if_neg h3] at c0
            have hne : ((i : Int).tmod 3 == 1) = false := by rw [hm0]; simp; omega
            go_wp2
            go_roundw
            case rel => exact ⟨i + 1, by go_num, by omega, by first | rfl | trivial⟩
            case measure => simp [intOf]; omega
        · have hij : i = j := by omega
          subst hij
          go_wp2
          go_ret
          exact ⟨rfl, b3⟩
end Tx
end Go.Proofs.YtehmcahdjldhbaaGreatDoor
end
section
/- Law 11: BlockPlain, walked. -/
open Go Go.RowKit
set_option linter.unusedVariables false
set_option linter.unusedSimpArgs false
set_option maxRecDepth 100000
namespace Go.Proofs.YtehmcahdjldhbaaGreatDoor
open Wk
namespace Tx
open Bk (strV TS LinesAt joinNl add_off)
def lowB (b : UInt8) : Prop := 97 ≤ b.toNat ∧ b.toNat ≤ 122
def Lows (s : Bs) : Prop := s ≠ [] ∧ ∀ b ∈ s, 97 ≤ b.toNat ∧ b.toNat ≤ 122
theorem add_off2 (g o k : Nat) : (⟨g, o, none⟩ : Addr).add k = ⟨g, o + k, none⟩ := by
  unfold Addr.add
  split
  · rename_i e; subst e; rfl
  · rfl
theorem lines_cells {w : World} {A : Option Addr} {n c : Nat} {l : List Bs} (h : LinesAt w (.slice A n c) l) (h0 : l ≠ []) : ∃ g o, A = some ⟨g, o, none⟩ ∧ n = l.length ∧ l.length ≤ c ∧ ∀ j u, (l.map strV)[j]? = some u → w.cell? ((⟨g, o, none⟩ : Addr).add j) = some u := by
  rcases h with ⟨e, _⟩ | ⟨g, o, cap, e, h1, h2⟩
  · exact absurd e h0
  · cases e
    refine ⟨g, o, rfl, rfl, h1, fun j u hj => ?_⟩
    rw [List.getElem?_map] at hj
    cases hs : l[j]? with
    | none => rw [hs] at hj; cases hj
    | some s => rw [hs] at hj; cases hj; rw [add_off2]; exact h2 j s hs
theorem strs_one (l : List Bs) : ∀ u ∈ l.map strV, u.oneCell' = true := fun u hu => by
  obtain ⟨s, _, rfl⟩ := List.mem_map.1 hu
  rfl
/-- The lines of both, with an empty one between. -/
theorem all_cells {w : World} {B : Nat} {g cap n : Nat} {l : List Bs} (h : w.ownsRow B TS 1 (.slice (some ⟨g, 0, none⟩) n cap) n (l.map strV)) (j : Nat) (s : Bs) (hj : l[j]? = some s) : w.cell? ⟨g, j, none⟩ = some (strV s) := by
  have := h.cells (g := g) rfl j (strV s) (by rw [List.getElem?_map, hj]; rfl)
  rw [add_off] at this; exact this
theorem beq_same (a b : ByteArray) : (a == b) = decide (a = b) := by
  cases a with | mk x => cases b with | mk y =>
  show (x == y) = _
  rw [Bool.eq_iff_iff]
  simp
theorem size_list (S : ByteArray) : S.size = S.data.toList.length := by show S.data.size = _; rw [Array.length_toList]
theorem toList_is (S : ByteArray) : S.toList = S.data.toList := by exact toList_data S
theorem empty_true' (S : ByteArray) (h : S.size = 0) : S.toList = [] := by
  rw [toList_is]
  exact List.eq_nil_of_length_eq_zero (by rw [← size_list]; exact h)
theorem empty_false' (S : ByteArray) (h : S.size ≠ 0) : ¬ S.toList = [] := fun e => h (by rw [size_list, ← toList_is, e]; rfl)
theorem grow_text (X S : ByteArray) (x s : Bs) (h1 : X.data.toList = x) (h2 : S.data.toList = s) : (X ++ (⟨#[10]⟩ : ByteArray) ++ S).data.toList = x ++ [10] ++ s := by
  rw [ByteArray.data_append, ByteArray.data_append, Array.toList_append, Array.toList_append, h1, h2]
theorem grow_size (X S : ByteArray) : (X ++ (⟨#[10]⟩ : ByteArray) ++ S).size = X.size + 1 + S.size := by
  rw [ByteArray.size_append, ByteArray.size_append]; rfl
theorem lines_low (la lb L : List Bs) (n : Nat) (hL : la ++ [] :: lb = L) (hn : n = la.length + 1 + lb.length) (hP : ∀ j s, j < n → L[j]? = some s → (∀ b ∈ s, 97 ≤ b.toNat ∧ b.toNat ≤ 122) ∧ (s = [] → j = la.length)) : (∀ s ∈ la, Lows s) ∧ (∀ s ∈ lb, Lows s) := by
  subst hL
  constructor
  · intro s hs
    obtain ⟨j, hj, e⟩ := List.getElem_of_mem hs
    have h1 := hP j s (by omega) (by rw [List.getElem?_append_left hj, List.getElem?_eq_getElem hj, e])
    exact ⟨fun x => by have := h1.2 x; omega, h1.1⟩
  · intro s hs
    obtain ⟨j, hj, e⟩ := List.getElem_of_mem hs
    have h1 := hP (la.length + 1 + j) s (by omega) (by
      rw [List.getElem?_append_right (by omega), show la.length + 1 + j - la.length = j + 1 by omega, List.getElem?_cons_succ, List.getElem?_eq_getElem hj, e])
    exact ⟨fun x => by have := h1.2 x; omega, h1.1⟩
theorem plain_at (la lb : List Bs) (i : Nat) (s : Bs) (h : (la ++ [] :: lb)[i]? = some s) :
    (i < la.length → (la.take (i + 1)).flatMap (10 :: ·) = (la.take i).flatMap (10 :: ·) ++ [10] ++ s ∧ lb.take (i + 1 - (la.length + 1)) = lb.take (i - (la.length + 1))) ∧
    (i = la.length → s = [] ∧ la.take (i + 1) = la.take i ∧ lb.take (i + 1 - (la.length + 1)) = lb.take (i - (la.length + 1))) ∧
    (la.length < i → la.take (i + 1) = la.take i ∧ (lb.take (i + 1 - (la.length + 1))).flatMap (10 :: ·) = (lb.take (i - (la.length + 1))).flatMap (10 :: ·) ++ [10] ++ s) := by
  refine ⟨fun hi => ?_, fun hi => ?_, fun hi => ?_⟩
  · rw [List.getElem?_append_left hi] at h
    obtain ⟨h1, h2⟩ := List.getElem?_eq_some_iff.1 h
    refine ⟨?_, by rw [show i + 1 - (la.length + 1) = 0 by omega, show i - (la.length + 1) = 0 by omega]⟩
    rw [List.take_succ_eq_append_getElem h1, h2, List.flatMap_append]
    simp
  · subst hi
    rw [List.getElem?_append_right (Nat.le_refl _), Nat.sub_self] at h
    refine ⟨(Option.some.inj h).symm, ?_, by rw [show la.length + 1 - (la.length + 1) = 0 by omega, show la.length - (la.length + 1) = 0 by omega]⟩
    rw [List.take_of_length_le (by omega), List.take_of_length_le (by omega)]
  · rw [List.getElem?_append_right (by omega), show i - la.length = (i - (la.length + 1)) + 1 by omega, List.getElem?_cons_succ] at h
    obtain ⟨h1, h2⟩ := List.getElem?_eq_some_iff.1 h
    refine ⟨by rw [List.take_of_length_le (by omega), List.take_of_length_le (by omega)], ?_⟩
    rw [show i + 1 - (la.length + 1) = (i - (la.length + 1)) + 1 by omega, List.take_succ_eq_append_getElem h1, h2, List.flatMap_append]
    simp
theorem take_byte (S : ByteArray) (k : Nat) (hp : k < S.size) (P : UInt8 → Prop) (h : ∀ b ∈ S.data.toList.take k, P b) (hk : P S[k]) : ∀ b ∈ S.data.toList.take (k + 1), P b := by
  have hl : k < S.data.toList.length := by simpa using hp
  rw [List.take_succ_eq_append_getElem hl]
  intro b hb
  rcases List.mem_append.1 hb with hb | hb
  · exact h b hb
  · rw [List.mem_singleton.1 hb]; exact hk
set_option maxHeartbeats 16000000 in
theorem plain_walk (w : World) (va vb : Value) (la lb : List Bs) (ha : LinesAt w va la) (hb : LinesAt w vb lb) (mask : Int) (AW : Calls Tryz.prog 11 #[] w fun e w' => e = .returned (.bool true) ∧ Below w.heap.size w w')
    (FE : ∀ (w : World) (v : Value) (l : List Bs), LinesAt w v l → Calls Tryz.prog 12 #[v] w fun e w' => e = .returned (.bool (few l)) ∧ Below w.heap.size w w')
    (PA : ∀ (w1 : World) (lv : Value), la.length ≤ 40 → lb.length ≤ 40 → (∀ s ∈ la ++ [] :: lb, s.length ≤ 80) → la ≠ [] → lb ≠ [] → (∀ s ∈ la, Lows s) → (∀ s ∈ lb, Lows s) → w1.ownsRow w.heap.size TS 1 lv (la.length + 1 + lb.length) ((la ++ [] :: lb).map strV) → Below w.heap.size w w1 → Calls Tryz.prog 13 #[lv, .int .i64 mask] w1 fun e w' => ∃ ad c, e = .returned (.tuple #[.slice (some ad) 2 c, .slice none 0 0]) ∧ Below w1.heap.size w1 w' ∧
      w'.cell? ad = some (.int .i64 7) ∧ w'.cell? ⟨ad.block, ad.off + 1, none⟩ = some (.string (mk (joinNl la))) ∧ w'.cell? ⟨ad.block, ad.off + 7, none⟩ = some (.int .i64 ((la.length : Int) - 1)) ∧
      w'.cell? ⟨ad.block, ad.off + 9, none⟩ = some (.int .i64 7) ∧ w'.cell? ⟨ad.block, ad.off + 9 + 1, none⟩ = some (.string (mk (joinNl lb))) ∧ w'.cell? ⟨ad.block, ad.off + 9 + 6, none⟩ = some (.int .i64 ((la.length : Int) + 1)))
    (hJ : ∀ l : List Bs, l ≠ [] → 10 :: joinNl l = l.flatMap (10 :: ·)) :
    Calls Tryz.prog 6 #[va, vb, .int .i64 mask] w fun e w' => e = .returned (.bool true) ∧ Below w.heap.size w w' := by
  obtain ⟨Aa, ca, rfl⟩ := ha.form
  obtain ⟨Ab, cb, rfl⟩ := hb.form
  obtain ⟨i0, hi0, hz0, hz1, hz2⟩ := info_parts Bk.Tryz.infoST
  have FA := fun w1 (h : Below w.heap.size w w1) => FE w1 _ la (ha.below h)
  have FB := fun w1 (h : Below w.heap.size w w1) => FE w1 _ lb (hb.below h)
  clear FE
  cases hfa : few la with
  | false =>
    rw [hfa] at FA
    go_enter Tryz.func6, Tryz.ntmps6
    go_wp2_with (first
      | (go_at_call 11; (with_reducible refine AW.mono ?_); rintro e w1 ⟨rfl, b1⟩)
      | (go_at_call 12; (with_reducible refine (FA _ b1).mono ?_); rintro e w2 ⟨rfl, b2⟩; have b3 := b1.trans (b2.mono b1.size)))
    go_ret
    exact ⟨rfl, b3⟩
  | true =>
    rw [hfa] at FA
    cases hfb : few lb with
    | false =>
      rw [hfb] at FB
      go_enter Tryz.func6, Tryz.ntmps6
      go_wp2_with (first
        | (go_at_call 11; (with_reducible refine AW.mono ?_); rintro e w1 ⟨rfl, b1⟩)
        | (go_at_call 12; (with_reducible refine (FA _ b1).mono ?_); rintro e w2 ⟨rfl, b2⟩; have b3 := b1.trans (b2.mono b1.size))
        | (go_at_call 12; (with_reducible refine (FB _ b3).mono ?_); rintro e w2' ⟨rfl, b2'⟩; have b4 := b3.trans (b2'.mono b3.size)))
      go_ret
      exact ⟨rfl, b4⟩
    | true =>
      rw [hfb] at FB
      have hA40 : la.length ≤ 40 := by unfold few at hfa; simp at hfa; exact hfa.1
      have hB40 : lb.length ≤ 40 := by unfold few at hfb; simp at hfb; exact hfb.1
      by_cases h0 : la = []
      · have za : ((la.length : Int) == 0) = true := by rw [h0]; rfl
        clear h0
        go_enter Tryz.func6, Tryz.ntmps6
        go_wp2_with (first
          | (go_at_call 11; (with_reducible refine AW.mono ?_); rintro e w1 ⟨rfl, b1⟩)
          | (go_at_call 12; (with_reducible refine (FA _ b1).mono ?_); rintro e w2 ⟨rfl, b2⟩; have b3 := b1.trans (b2.mono b1.size))
          | (go_at_call 12; (with_reducible refine (FB _ b3).mono ?_); rintro e w2' ⟨rfl, b2'⟩; have b4 := b3.trans (b2'.mono b3.size)))
        go_ret
        exact ⟨rfl, b4⟩
      · have za : ((la.length : Int) == 0) = false := by simpa using h0
        by_cases h1 : lb = []
        · have zb : ((lb.length : Int) == 0) = true := by rw [h1]; rfl
          clear h1
          go_enter Tryz.func6, Tryz.ntmps6
          go_wp2_with (first
            | (go_at_call 11; (with_reducible refine AW.mono ?_); rintro e w1 ⟨rfl, b1⟩)
            | (go_at_call 12; (with_reducible refine (FA _ b1).mono ?_); rintro e w2 ⟨rfl, b2⟩; have b3 := b1.trans (b2.mono b1.size))
            | (go_at_call 12; (with_reducible refine (FB _ b3).mono ?_); rintro e w2' ⟨rfl, b2'⟩; have b4 := b3.trans (b2'.mono b3.size)))
          go_ret
          exact ⟨rfl, b4⟩
        · have hpa : 0 < la.length := List.length_pos_iff.2 h0
          have hpb : 0 < lb.length := List.length_pos_iff.2 h1
          have zb : ((lb.length : Int) == 0) = false := by simpa using h1
          have LA := fun w1 (h : Below w.heap.size w w1) => lines_cells (ha.below h) h0
          have LB := fun w1 (h : Below w.heap.size w w1) => lines_cells (hb.below h) h1
          obtain ⟨ga, oa, rfl, -, hca, -⟩ := LA w (Below.refl _ _)
          obtain ⟨gb, ob, rfl, -, hcb, -⟩ := LB w (Below.refl _ _)
          have CA : ∀ w1, Below w.heap.size w w1 → ∀ j u, (la.map strV)[j]? = some u → w1.cell? ((⟨ga, oa, none⟩ : Addr).add j) = some u := fun w1 h => by
            obtain ⟨g, o, e, -, -, hc⟩ := LA w1 h
            cases e; exact hc
          have CB : ∀ w1, Below w.heap.size w w1 → ∀ j u, (lb.map strV)[j]? = some u → w1.cell? ((⟨gb, ob, none⟩ : Addr).add j) = some u := fun w1 h => by
            obtain ⟨g, o, e, -, -, hc⟩ := LB w1 h
            cases e; exact hc
          clear LA LB
          go_enter Tryz.func6, Tryz.ntmps6
          go_wp2_with (first
            | (go_at_call 11; (with_reducible refine AW.mono ?_); rintro e w1 ⟨rfl, b1⟩)
            | (go_at_call 12; (with_reducible refine (FA _ b1).mono ?_); rintro e w2 ⟨rfl, b2⟩; have b3 := b1.trans (b2.mono b1.size))
            | (go_at_call 12; (with_reducible refine (FB _ b3).mono ?_); rintro e w2' ⟨rfl, b2'⟩; have b4 := b3.trans (b2'.mono b3.size); have hs4 := b4.size)
            | (at_builtin; refine wpList_append_lies _ rfl (.tmp 35) (.tmp 36) 22 rfl w.heap.size 9 i0 (.string ⟨#[]⟩) 1 16 Tryz.underlying22 hi0 hz0 hz1 hz2 rfl (by decide) (.slice (some ⟨w2'.heap.size, 0, none⟩) 0 0) 0 [] rfl ?own ⟨ga, oa, none⟩ la.length ca (la.map strV) rfl (by simp) (CA _ (b4.alloc hs4 _)) (strs_one _) hpa (by simp [maxLen]; omega) (by omega) (by simp; omega) _ rfl ?go))
          case own => exact World.ownsRow_lit _ #[] 0 hs4 (by decide) rfl
          case go =>
          intro g3 cap3 w3 hown3 hgr3 hat3 hlt3
          try simp only [Nat.zero_add, List.nil_append] at hown3
          have b5 : Below w.heap.size w w3 := (b4.alloc hs4 _).grown hgr3 (by simp; omega) (fun k hk => by simp [Value.ownBlock] at hk; omega)
          clear hgr3 hat3
          have hs5 := b5.size
          go_wp2_with (at_builtin; refine wpList_append_lies _ rfl (.tmp 37) (.tmp 38) 22 rfl w.heap.size 9 i0 (.string ⟨#[]⟩) 1 16 Tryz.underlying22 hi0 hz0 hz1 hz2 rfl (by decide) _ la.length (la.map strV) rfl (hown3.alloc _) ⟨w3.heap.size, 0, none⟩ 1 1 [.string ⟨#[]⟩] rfl rfl (World.news_of_block (heap_alloc_new w3 _)) (fun u hu => by simp at hu; subst hu; rfl) (by decide) (by simp [maxLen]; omega) (by omega) (by simp; omega) _ rfl ?go)
          case go =>
          intro g4 cap4 w4 hown4 hgr4 hat4 hlt4
          have b6 : Below w.heap.size w w4 := (b5.alloc hs5 _).grown hgr4 (by simp; omega) (fun k hk => (hown3.lt k hk).1)
          clear hgr4 hat4
          have hs6 := b6.size
          go_wp2_with (at_builtin; refine wpList_append_lies _ rfl (.tmp 39) (.tmp 40) 22 rfl w.heap.size 9 i0 (.string ⟨#[]⟩) 1 16 Tryz.underlying22 hi0 hz0 hz1 hz2 rfl (by decide) _ (la.length + 1) (la.map strV ++ [.string ⟨#[]⟩]) rfl ?own ⟨gb, ob, none⟩ lb.length cb (lb.map strV) rfl ?len ?news ?one ?pos ?mx ?byt ?base _ rfl ?go)
          case own => exact hown4
          case len => simp
          case news => exact CB _ b6
          case one => exact strs_one _
          case pos => exact hpb
          case mx => simp [maxLen]; omega
          case byt => omega
          case base => omega
          case go =>
          intro g5 cap5 w5 hown5 hgr5 hat5 hlt5
          have b7 : Below w.heap.size w w5 := b6.grown hgr5 hs6 (fun k hk => (hown4.lt k hk).1)
          clear hgr5 hat5 hown4 hown3
          have hall : la.map strV ++ .string ⟨#[]⟩ :: lb.map strV = (la ++ [] :: lb).map strV := by simp [strV, mk]
          rw [hall] at hown5
          have hlen : Hid ((la ++ [] :: lb).length = la.length + 1 + lb.length) := Lib.hid (by simp; omega)
          have CE := all_cells hown5
          have h80 : ∀ s ∈ la ++ [] :: lb, s.length ≤ 80 := fun s hs => by
            unfold few at hfa hfb
            simp only [Bool.and_eq_true, List.all_eq_true, decide_eq_true_eq] at hfa hfb
            rcases List.mem_append.1 hs with hs | hs
            · exact hfa.2 s hs
            · rcases List.mem_cons.1 hs with rfl | hs
              · exact Nat.zero_le _
              · exact hfb.2 s hs
          clear CA CB FA FB b1 b2 b3 b4 b5 b6 b2' ha hb hall hlt3 hlt4
          have h0 := Lib.hid h0
          have h1 := Lib.hid h1
          have PL := Lib.hid (plain_at la lb)
          generalize hL : la ++ [] :: lb = L at *
          have hL := Lib.hid hL
          go_wp2
          go_loopw [9, 10, 11] (fun sv tv iv wr => ∃ (i : Nat) (X1 X2 : ByteArray), iv = .int .i64 i ∧ sv = .string X1 ∧ tv = .string X2 ∧ i ≤ la.length + 1 + lb.length ∧ X1.size ≤ 81 * i ∧ X2.size ≤ 81 * i ∧ Hid (X1.data.toList = (la.take i).flatMap (10 :: ·)) ∧ Hid (X2.data.toList = (lb.take (i - (la.length + 1))).flatMap (10 :: ·)) ∧ Hid (∀ j s, j < i → L[j]? = some s → (∀ b ∈ s, 97 ≤ b.toNat ∧ b.toNat ≤ 122) ∧ (s = [] → j = la.length)) ∧ wr = w5) (fun _ _ iv _ => la.length + 1 + lb.length - (intOf iv).toNat)
          case atStart => exact ⟨0, ⟨#[]⟩, ⟨#[]⟩, rfl, rfl, rfl, Nat.zero_le _, Nat.le_refl _, Nat.le_refl _, Lib.hid rfl, Lib.hid (by rw [Nat.zero_sub]; rfl), Lib.hid (fun j s hj => absurd hj (Nat.not_lt_zero _)), rfl⟩
          case round =>
            obtain ⟨i, X1, X2, rfl, rfl, rfl, hi, hx1, hx2, hS, hT, hP, hw⟩ := hrel
            subst wr
            by_cases hlt : i < la.length + 1 + lb.length
            · have hlt2 : i < L.length := by rw [hlen.out]; exact hlt
              have c1 := CE i L[i] (List.getElem?_eq_getElem hlt2)
              have hI : Hid (L[i]? = some L[i]) := Lib.hid (List.getElem?_eq_getElem hlt2)
              have hz0 := h80 _ (List.getElem_mem hlt2)
              generalize L[i] = s at *
              obtain ⟨S, hSs⟩ : ∃ S : ByteArray, S.data.toList = s := ⟨mk s, rfl⟩
              have hSz : S.size ≤ 80 := by rw [← hSs] at hz0; simpa using hz0
              have hSm : mk s = S := (mk_of hSs).symm
              unfold strV at c1
              rw [hSm] at c1
              obtain ⟨PL1, PL2, PL3⟩ := PL.out i s hI.out
              have PL1 := Lib.hid PL1
              have PL2 := Lib.hid PL2
              have PL3 := Lib.hid PL3
              have hSm := Lib.hid hSm
              have hSs := Lib.hid hSs
              clear CE h80
              go_wp2
              go_loopw [12] (fun kv wr => ∃ k : Nat, kv = .int .i64 k ∧ k ≤ S.size ∧ Hid (∀ b ∈ S.data.toList.take k, 97 ≤ b.toNat ∧ b.toNat ≤ 122) ∧ wr = w5) (fun kv _ => S.size - (intOf kv).toNat)
              case atStart => exact ⟨0, rfl, Nat.zero_le _, Lib.hid (fun b hb => by cases hb), rfl⟩
              case round =>
                obtain ⟨k, rfl, hk, hB, hw⟩ := hrel
                subst wr
                by_cases hp : k < S.size
                · by_cases hlo : 97 ≤ S[k].toNat
                  · by_cases hhi : S[k].toNat ≤ 122
                    · have d1 : decide ((S[k].toNat : Int) < 97) = false := decide_eq_false (by omega)
                      have d2 : decide ((122 : Int) < (S[k].toNat : Int)) = false := decide_eq_false (by omega)
                      have hB2 := Lib.hid (take_byte S k hp _ hB.out ⟨hlo, hhi⟩)
                      clear hB
                      go_wp2
                      go_roundw
                      case rel => exact ⟨k + 1, by go_num, by omega, hB2, by first | rfl | trivial⟩
                      case measure => simp [intOf]; omega
                    · have d1 : decide ((S[k].toNat : Int) < 97) = false := decide_eq_false (by omega)
                      have d2 : decide ((122 : Int) < (S[k].toNat : Int)) = true := decide_eq_true (by omega)
                      go_wp2
                      go_ret
                      exact ⟨rfl, b7⟩
                  · have d1 : decide ((S[k].toNat : Int) < 97) = true := decide_eq_true (by omega)
                    go_wp2
                    go_ret
                    exact ⟨rfl, b7⟩
                · have hkS : k = S.size := by omega
                  subst hkS
                  have hB2 : Hid (∀ b ∈ s, 97 ≤ b.toNat ∧ b.toNat ≤ 122) := Lib.hid (by
                    have := hB.out
                    rw [List.take_of_length_le (by simp)] at this
                    rw [← hSs.out]; exact this)
                  clear hB
                  have hlen0 : Hid (S.size = s.length) := Lib.hid (by rw [size_list, hSs.out])
                  have hz : Hid (s = [] → S.size = 0) := Lib.hid (fun x => by rw [hlen0.out, x]; rfl)
                  have hPn : (s = [] → i = la.length) → Hid (∀ j t, j < i + 1 → L[j]? = some t → (∀ b ∈ t, 97 ≤ b.toNat ∧ b.toNat ≤ 122) ∧ (t = [] → j = la.length)) := fun hx => Lib.hid (fun j t hj ht => by
                    by_cases e : j = i
                    · subst e
                      rw [hI.out] at ht
                      cases ht
                      exact ⟨hB2.out, hx⟩
                    · exact hP.out j t (by omega) ht)
                  by_cases hE : S.size = 0
                  · have e0 : S.toList = [] := empty_true' S hE
                    by_cases hia : i = la.length
                    · have PLx := Lib.hid (PL2.out hia)
                      have hPn := hPn (fun _ => hia)
                      have n1 : ((i : Int) != (la.length : Int)) = false := by rw [hia]; simp
                      have n2 : ¬ i < la.length := by omega
                      have n3 : ¬ la.length < i := by omega
                      clear hia hP PL1 PL2 PL3 hB2 hz hE
                      go_wp2
                      go_roundw
                      case rel => exact ⟨i + 1, X1, X2, by go_num, rfl, rfl, by omega, by omega, by omega, Lib.hid (by rw [PLx.out.2.1]; exact hS.out), Lib.hid (by rw [PLx.out.2.2]; exact hT.out), hPn, by first | rfl | trivial⟩
                      case measure => simp [intOf]; omega
                    · have n1 : ((i : Int) != (la.length : Int)) = true := by simp; omega
                      clear hP PL1 PL2 PL3 hB2 hz hPn
                      go_wp2
                      go_ret
                      exact ⟨rfl, b7⟩
                  · have e0 : ¬ S.toList = [] := empty_false' S hE
                    have hPn := hPn (fun x => absurd (hz.out x) hE)
                    have n0 : i ≠ la.length := fun x => hE (by rw [hlen0.out, (PL2.out x).1]; rfl)
                    by_cases hia : i < la.length
                    · have n3 : ¬ la.length < i := by omega
                      have PLx := Lib.hid (PL1.out hia)
                      have hG := Lib.hid (grow_text X1 S _ _ hS.out hSs.out)
                      clear hP PL1 PL2 PL3 hB2 hz
                      go_wp2
                      go_roundw
                      case rel => exact ⟨i + 1, X1 ++ ⟨#[10]⟩ ++ S, X2, by go_num, rfl, rfl, by omega, by rw [grow_size]; omega, by omega, Lib.hid (by rw [PLx.out.1]; exact hG.out), Lib.hid (by rw [PLx.out.2]; exact hT.out), hPn, by first | rfl | trivial⟩
                      case measure => simp [intOf]; omega
                    · have n3 : la.length < i := by omega
                      have PLx := Lib.hid (PL3.out (by omega))
                      have hG := Lib.hid (grow_text X2 S _ _ hT.out hSs.out)
                      clear hP PL1 PL2 PL3 hB2 hz
                      go_wp2
                      go_roundw
                      case rel => exact ⟨i + 1, X1, X2 ++ ⟨#[10]⟩ ++ S, by go_num, rfl, rfl, by omega, by omega, by rw [grow_size]; omega, Lib.hid (by rw [PLx.out.1]; exact hS.out), Lib.hid (by rw [PLx.out.2]; exact hG.out), hPn, by first | rfl | trivial⟩
                      case measure => simp [intOf]; omega
            · have hin : i = la.length + 1 + lb.length := by omega
              obtain ⟨q1, q2⟩ := lines_low la lb L i hL.out hin hP.out
              have PA := PA w5 _ hA40 hB40 h80 h0.out h1.out q1 q2 hown5 b7
              have e1 : ((⟨#[10]⟩ : ByteArray) ++ mk (joinNl la)) = X1 := by
                refine same_text ?_
                rw [hS.out, hin, List.take_of_length_le (by omega), ← hJ la h0.out, ByteArray.data_append, Array.toList_append, mk_data]
                rfl
              have e2 : ((⟨#[10]⟩ : ByteArray) ++ mk (joinNl lb)) = X2 := by
                refine same_text ?_
                rw [hT.out, hin, List.take_of_length_le (by omega), ← hJ lb h1.out, ByteArray.data_append, Array.toList_append, mk_data]
                rfl
              have j1 : ¬ 9223372036854775807 < 1 + (mk (joinNl la)).size := by
                have : ((⟨#[10]⟩ : ByteArray) ++ mk (joinNl la)).size = X1.size := by rw [e1]
                rw [ByteArray.size_append] at this
                have e : (⟨#[10]⟩ : ByteArray).size = 1 := rfl
                omega
              have j2 : ¬ 9223372036854775807 < 1 + (mk (joinNl lb)).size := by
                have : ((⟨#[10]⟩ : ByteArray) ++ mk (joinNl lb)).size = X2.size := by rw [e2]
                rw [ByteArray.size_append] at this
                have e : (⟨#[10]⟩ : ByteArray).size = 1 := rfl
                omega
              have e1 : ((⟨#[10]⟩ : ByteArray) ++ mk (joinNl la)).toList = X1.toList := by rw [e1]
              have e2 : ((⟨#[10]⟩ : ByteArray) ++ mk (joinNl lb)).toList = X2.toList := by rw [e2]
              clear hin hS hT hP CE h80 q1 q2 PL hJ
              generalize mk (joinNl la) = J1 at *
              generalize mk (joinNl lb) = J2 at *
              go_wp2_with (go_at_call 13; (with_reducible refine PA.mono ?_); rintro e w6 ⟨ad, c, rfl, b8, c0, c1, c7, d0, d1, d6⟩; have b9 := b7.trans (b8.mono b7.size); have d1' : w6.cell? ⟨ad.block, ad.off + 10, none⟩ = some (.string J2) := d1; have d6' : w6.cell? ⟨ad.block, ad.off + 15, none⟩ = some (.int .i64 ((la.length : Int) + 1)) := d6)
              go_ret
              exact ⟨rfl, b9⟩
end Tx
end Go.Proofs.YtehmcahdjldhbaaGreatDoor
end
section
/- Law 11: BlockFences, walked. -/
open Go Go.RowKit
set_option linter.unusedVariables false
set_option linter.unusedSimpArgs false
set_option maxRecDepth 100000
namespace Go.Proofs.YtehmcahdjldhbaaGreatDoor
open Wk
namespace Fn
open Bk (Bs strV TS LinesAt NilOk joinEnd wpList_lines)
theorem take_byte (S : ByteArray) (k : Nat) (hp : k < S.size) (P : UInt8 → Prop) (h : ∀ b ∈ S.data.toList.take k, P b) (hk : P S[k]) : ∀ b ∈ S.data.toList.take (k + 1), P b := by
  have hl : k < S.data.toList.length := by simpa using hp
  rw [List.take_succ_eq_append_getElem hl]
  intro b hb
  rcases List.mem_append.1 hb with hb | hb
  · exact h b hb
  · rw [List.mem_singleton.1 hb]; exact hk
theorem take_count (S : ByteArray) (k : Nat) (hp : k < S.size) : (S.data.toList.take (k + 1)).count 126 = (S.data.toList.take k).count 126 + if S[k] = 126 then 1 else 0 := by
  have hl : k < S.data.toList.length := by simpa using hp
  rw [List.take_succ_eq_append_getElem hl, List.count_append]
  have e : S.data.toList[k] = S[k] := rfl
  rw [e, List.count_singleton]
  simp
theorem size_list (S : ByteArray) : S.size = S.data.toList.length := by show S.data.size = _; rw [Array.length_toList]
theorem grow_text (X S : ByteArray) (x s : Bs) (h1 : X.data.toList = x) (h2 : S.data.toList = s) : (X ++ S ++ (⟨#[10]⟩ : ByteArray)).data.toList = x ++ (s ++ [10]) := by
  rw [ByteArray.data_append, ByteArray.data_append, Array.toList_append, Array.toList_append, h1, h2, List.append_assoc]
theorem grow_size (X S : ByteArray) : (X ++ S ++ (⟨#[10]⟩ : ByteArray)).size = X.size + S.size + 1 := by
  rw [ByteArray.size_append, ByteArray.size_append]; rfl
theorem joinEnd_succ (l : List Bs) (i : Nat) (s : Bs) (h : l[i]? = some s) : joinEnd (l.take (i + 1)) = joinEnd (l.take i) ++ (s ++ [10]) := by
  obtain ⟨h1, h2⟩ := List.getElem?_eq_some_iff.1 h
  unfold joinEnd
  rw [List.take_succ_eq_append_getElem h1, h2, List.flatMap_append]
  simp
theorem uu (b : UInt8) (n : UInt8) : (((b.toNat : Nat) : Int) == ((n.toNat : Nat) : Int)) = (b == n) := beq_uu b n
set_option maxHeartbeats 16000000 in
theorem fences_walk (w : World) (v : Value) (l : List Bs) (info : ByteArray) (hv : LinesAt w v l) (hn : NilOk v) (mask : Int) (fw : Bool) (hfw : fw = true → l.length ≤ 40 ∧ ∀ s ∈ l, s.length ≤ 80)
    (AW : Calls Tryz.prog 11 #[] w fun e w' => e = .returned (.bool true) ∧ Below w.heap.size w w')
    (FE : ∀ w1, Below w.heap.size w w1 → Calls Tryz.prog 12 #[v] w1 fun e w' => e = .returned (.bool fw) ∧ Below w1.heap.size w1 w')
    (PA : ∀ (w1 : World) (lv : Value), l.length ≤ 40 → (∀ s ∈ l, s.length ≤ 80) → info.size ≤ 50 → (∀ b ∈ info.data.toList, 97 ≤ b.toNat ∧ b.toNat ≤ 122) → (∀ s ∈ l, s.count 126 < 9) → w1.ownsRow w.heap.size TS 1 lv (1 + l.length + 2) (.string (⟨#[126, 126, 126, 126, 126, 126, 126, 126, 126]⟩ ++ info) :: (l.map strV ++ [.string ⟨#[126, 126, 126, 126, 126, 126, 126, 126, 126]⟩, .string ⟨#[120]⟩])) → Below w.heap.size w w1 →
      Calls Tryz.prog 13 #[lv, .int .i64 mask] w1 fun e w' => ∃ ad c, e = .returned (.tuple #[.slice (some ad) 2 c, .slice none 0 0]) ∧ Below w1.heap.size w1 w' ∧
      w'.cell? ad = some (.int .i64 5) ∧ w'.cell? ⟨ad.block, ad.off + 1, none⟩ = some (.string (mk (joinEnd l))) ∧ w'.cell? ⟨ad.block, ad.off + 2, none⟩ = some (.string info) ∧ w'.cell? ⟨ad.block, ad.off + 7, none⟩ = some (.int .i64 ((l.length : Int) + 1)) ∧
      w'.cell? ⟨ad.block, ad.off + 9, none⟩ = some (.int .i64 7) ∧ w'.cell? ⟨ad.block, ad.off + 9 + 1, none⟩ = some (.string ⟨#[120]⟩)) :
    Calls Tryz.prog 8 #[v, .string info, .int .i64 mask] w fun e w' => e = .returned (.bool true) ∧ Below w.heap.size w w' := by
  obtain ⟨A, c, rfl⟩ := hv.form
  cases fw with
  | false =>
    go_enter Tryz.func8, Tryz.ntmps8
    go_wp2_with (first
      | (go_at_call 11; (with_reducible refine AW.mono ?_); rintro e w1 ⟨rfl, b1⟩)
      | (go_at_call 12; (with_reducible refine (FE _ b1).mono ?_); rintro e w2 ⟨rfl, b2⟩; have b3 := b1.trans (b2.mono b1.size)))
    go_ret
    exact ⟨rfl, b3⟩
  | true =>
    obtain ⟨h40, h80⟩ := hfw rfl
    clear hfw
    by_cases h50 : info.size ≤ 50
    · have d50 : decide ((50 : Int) < (info.size : Int)) = false := decide_eq_false (by omega)
      have hCL := fun w1 (h : Below w.heap.size w w1) => (hv.below h).cells
      have hNo : A = none → l.length = 0 ∧ c = 0 := fun e => by subst e; exact hn _ _ rfl
      have hAt : ∀ i s, l[i]? = some s → ∃ g o, A = some ⟨g, o, none⟩ ∧ ∀ w1, Below w.heap.size w w1 → w1.cell? ⟨g, o + i, none⟩ = some (strV s) := fun i s hs => by
        rcases hv with ⟨e, _⟩ | ⟨g, o, cap, e, h1, h2⟩
        · rw [e] at hs; simp at hs
        · cases e
          exact ⟨g, o, rfl, fun w1 h => (h.cell (World.block_lt_of_cell? _ _ (h2 i s hs))).trans (h2 i s hs)⟩
      clear hv hn
      go_enter Tryz.func8, Tryz.ntmps8
      go_wp2_with (first
        | (go_at_call 11; (with_reducible refine AW.mono ?_); rintro e w1 ⟨rfl, b1⟩)
        | (go_at_call 12; (with_reducible refine (FE _ b1).mono ?_); rintro e w2 ⟨rfl, b2⟩; have b3 := b1.trans (b2.mono b1.size)))
      clear FE AW b1 b2
      go_loopw [8] (fun kv wr => ∃ k : Nat, kv = .int .i64 k ∧ k ≤ info.size ∧ Hid (∀ b ∈ info.data.toList.take k, 97 ≤ b.toNat ∧ b.toNat ≤ 122) ∧ wr = w2) (fun kv _ => info.size - (intOf kv).toNat)
      case atStart => exact ⟨0, rfl, Nat.zero_le _, Lib.hid (fun b hb => by cases hb), rfl⟩
      case round =>
        obtain ⟨k, rfl, hk, hB, hw⟩ := hrel
        subst wr
        by_cases hp : k < info.size
        · by_cases hlo : 97 ≤ info[k].toNat
          · by_cases hhi : info[k].toNat ≤ 122
            · have d1 : decide ((info[k].toNat : Int) < 97) = false := decide_eq_false (by omega)
              have d2 : decide ((122 : Int) < (info[k].toNat : Int)) = false := decide_eq_false (by omega)
              have hB2 := Lib.hid (take_byte info k hp _ hB.out ⟨hlo, hhi⟩)
              clear hB
              go_wp2
              go_roundw
              case rel => exact ⟨k + 1, by go_num, by omega, hB2, by first | rfl | trivial⟩
              case measure => simp [intOf]; omega
            · have d1 : decide ((info[k].toNat : Int) < 97) = false := decide_eq_false (by omega)
              have d2 : decide ((122 : Int) < (info[k].toNat : Int)) = true := decide_eq_true (by omega)
              go_wp2
              go_ret
              exact ⟨rfl, b3⟩
          · have d1 : decide ((info[k].toNat : Int) < 97) = true := decide_eq_true (by omega)
            go_wp2
            go_ret
            exact ⟨rfl, b3⟩
        · have hkS : k = info.size := by omega
          subst hkS
          have hI : Hid (∀ b ∈ info.data.toList, 97 ≤ b.toNat ∧ b.toNat ≤ 122) := Lib.hid (by
            have := hB.out
            rw [List.take_of_length_le (by rw [← size_list]; exact Nat.le_refl _)] at this
            exact this)
          clear hB d50
          go_wp2
          go_loopw [9, 10] (fun sv iv wr => ∃ (i : Nat) (X : ByteArray), iv = .int .i64 i ∧ sv = .string X ∧ i ≤ l.length ∧ X.size ≤ 81 * i ∧ Hid (X.data.toList = joinEnd (l.take i)) ∧ Hid (∀ j s, j < i → l[j]? = some s → s.count 126 < 9) ∧ wr = w2) (fun _ iv _ => l.length - (intOf iv).toNat)
          case atStart => exact ⟨0, ⟨#[]⟩, rfl, rfl, Nat.zero_le _, Nat.le_refl _, Lib.hid rfl, Lib.hid (fun j s hj => absurd hj (Nat.not_lt_zero _)), rfl⟩
          case round =>
            obtain ⟨i, X, rfl, rfl, hi, hx, hX, hP, hw⟩ := hrel
            subst wr
            by_cases hlt : i < l.length
            · have hI2 : l[i]? = some l[i] := List.getElem?_eq_getElem hlt
              obtain ⟨g, o, rfl, hc1⟩ := hAt i _ hI2
              have c1 := hc1 _ b3
              have hz0 := h80 _ (List.getElem_mem hlt)
              have hJ := Lib.hid (joinEnd_succ l i _ hI2)
              have hI2 := Lib.hid hI2
              generalize l[i] = s at *
              obtain ⟨S, hSs⟩ : ∃ S : ByteArray, S.data.toList = s := ⟨mk s, rfl⟩
              have hSz : S.size ≤ 80 := by rw [← hSs] at hz0; rw [size_list]; exact hz0
              have hSm : mk s = S := (mk_of hSs).symm
              unfold strV at c1
              rw [hSm] at c1
              clear hSm hc1 hAt
              have hSs := Lib.hid hSs
              go_wp2
              go_loopw [11, 12] (fun nv kv wr => ∃ n k : Nat, nv = .int .i64 n ∧ kv = .int .i64 k ∧ k ≤ S.size ∧ n ≤ k ∧ Hid (n = (S.data.toList.take k).count 126) ∧ wr = w2) (fun _ kv _ => S.size - (intOf kv).toNat)
              case atStart => exact ⟨0, 0, rfl, rfl, Nat.zero_le _, Nat.le_refl _, Lib.hid rfl, rfl⟩
              case round =>
                obtain ⟨n, k, rfl, rfl, hk, hnk, hC, hw⟩ := hrel
                subst wr
                by_cases hp : k < S.size
                · have hT := Lib.hid (take_count S k hp)
                  by_cases h126 : S[k] = 126
                  · have d1 : ((S[k].toNat : Int) == 126) = true := by rw [h126]; rfl
                    have hC2 : Hid (n + 1 = (S.data.toList.take (k + 1)).count 126) := Lib.hid (by rw [hT.out, if_pos h126, ← hC.out])
                    clear hT hC h126
                    go_wp2
                    go_roundw
                    case rel => exact ⟨n + 1, k + 1, by go_num, by go_num, by omega, by omega, hC2, by first | rfl | trivial⟩
                    case measure => simp [intOf]; omega
                  · have d1 : ((S[k].toNat : Int) == 126) = false := by
                      have := uu S[k] 126
                      have e : ((126 : UInt8).toNat : Int) = 126 := rfl
                      rw [e] at this
                      rw [this]; simpa using h126
                    have hC2 : Hid (n = (S.data.toList.take (k + 1)).count 126) := Lib.hid (by rw [hT.out, if_neg h126, ← hC.out, Nat.add_zero])
                    clear hT hC h126
                    go_wp2
                    go_roundw
                    case rel => exact ⟨n, k + 1, by go_num, by go_num, by omega, by omega, hC2, by first | rfl | trivial⟩
                    case measure => simp [intOf]; omega
                · have hkS : k = S.size := by omega
                  subst hkS
                  have hC2 : Hid (n = s.count 126) := Lib.hid (by
                    rw [hC.out, List.take_of_length_le (by rw [← size_list]; exact Nat.le_refl _), hSs.out])
                  clear hC
                  by_cases h9 : 9 ≤ n
                  · go_wp2
                    go_ret
                    exact ⟨rfl, b3⟩
                  · have hG := Lib.hid (grow_text X S _ _ hX.out hSs.out)
                    have hP2 : Hid (∀ j t, j < i + 1 → l[j]? = some t → t.count 126 < 9) := Lib.hid (fun j t hj ht => by
                      by_cases e : j = i
                      · subst e
                        rw [hI2.out] at ht
                        cases ht
                        rw [← hC2.out]; omega
                      · exact hP.out j t (by omega) ht)
                    clear hP hC2
                    go_wp2
                    go_roundw
                    case rel => exact ⟨i + 1, X ++ S ++ ⟨#[10]⟩, by go_num, rfl, by omega, by rw [grow_size]; omega, Lib.hid (by rw [hJ.out]; exact hG.out), hP2, by first | rfl | trivial⟩
                    case measure => simp [intOf]; omega
            · have hil : i = l.length := by omega
              subst hil
              have hXX : Hid (X = mk (joinEnd l)) := Lib.hid (mk_of (by rw [hX.out, List.take_length]))
              have hPP : ∀ s ∈ l, s.count 126 < 9 := fun s hs => by
                obtain ⟨j, hj, e⟩ := List.getElem_of_mem hs
                exact hP.out j s hj (by rw [List.getElem?_eq_getElem hj, e])
              clear hX hP hAt
              have hs3 := b3.size
              go_wp2_with (at_builtin; refine wpList_lines rfl (.tmp 79) (.tmp 80) rfl w.heap.size w2.heap.size 1 1 [.string (⟨#[126, 126, 126, 126, 126, 126, 126, 126, 126]⟩ ++ info)] rfl ?own (by decide) A c l rfl hNo ?cc ?bd ?base ?go)
              case own => exact World.ownsRow_lit (size := 1) _ #[.string (⟨#[126, 126, 126, 126, 126, 126, 126, 126, 126]⟩ ++ info)] 1 hs3 (by decide) rfl
              case cc => exact hCL _ (b3.alloc hs3 _)
              case bd => omega
              case base => simp; omega
              case go =>
              intro g3 cap3 w3 hown3 hgr3
              have b5 : Below w.heap.size w w3 := (b3.alloc hs3 _).grown hgr3 (by simp; omega) (fun k hk => by cases hk; exact hs3)
              clear hgr3
              have hs5 := b5.size
              obtain ⟨i0, hi0, hz0, hz1, hz2⟩ := info_parts Bk.Tryz.infoST
              go_wp2_with (at_builtin; refine wpList_append_lies _ rfl (.tmp 81) (.tmp 82) 22 rfl w.heap.size 9 i0 (.string ⟨#[]⟩) 1 16 Tryz.underlying22 hi0 hz0 hz1 hz2 rfl (by decide) _ (1 + l.length) (.string (⟨#[126, 126, 126, 126, 126, 126, 126, 126, 126]⟩ ++ info) :: l.map strV) rfl ?own ⟨w3.heap.size, 0, none⟩ 2 2 [.string ⟨#[126, 126, 126, 126, 126, 126, 126, 126, 126]⟩, .string ⟨#[120]⟩] rfl rfl ?news ?one ?pos ?mx ?byt ?base _ rfl ?go)
              case own => exact hown3.alloc _
              case news => exact World.news_of_block (heap_alloc_new w3 _)
              case one => intro u hu; simp at hu; rcases hu with rfl | rfl <;> rfl
              case pos => decide
              case mx => simp [maxLen]; omega
              case byt => omega
              case base => simp; omega
              case go =>
              intro g4 cap4 w4 hown4 hgr4 hat4 hlt4
              have b6 : Below w.heap.size w w4 := (b5.alloc hs5 _).grown hgr4 (by simp; omega) (fun k hk => (hown3.lt k hk).1)
              clear hgr4 hat4 hown3
              have PA := PA w4 _ h40 h80 h50 hI.out hPP hown4 b6
              have e1 : (mk (joinEnd l)).toList = X.toList := by rw [hXX.out]
              clear hXX hPP hCL hNo h80
              generalize mk (joinEnd l) = J at *
              go_wp2_with (go_at_call 13; (with_reducible refine PA.mono ?_); rintro e w6 ⟨ad, c', rfl, b8, c0, c1, c2, c7, d0, d1⟩; have b9 := b6.trans (b8.mono b6.size); have d1' : w6.cell? ⟨ad.block, ad.off + 10, none⟩ = some (.string ⟨#[120]⟩) := d1)
              go_ret
              exact ⟨rfl, b9⟩
    · have d50 : decide ((50 : Int) < (info.size : Int)) = true := decide_eq_true (by omega)
      go_enter Tryz.func8, Tryz.ntmps8
      go_wp2_with (first
        | (go_at_call 11; (with_reducible refine AW.mono ?_); rintro e w1 ⟨rfl, b1⟩)
        | (go_at_call 12; (with_reducible refine (FE _ b1).mono ?_); rintro e w2 ⟨rfl, b2⟩; have b3 := b1.trans (b2.mono b1.size)))
      go_ret
      exact ⟨rfl, b3⟩
end Fn
end Go.Proofs.YtehmcahdjldhbaaGreatDoor
end
section
/- Law 11: BlockRules, BlockPlain, BlockFences answer true. -/
open Go Go.RowKit Go.Proofs.YtehmcahdjldhbaaGreatDoorW.PrintWords
set_option linter.unusedVariables false
set_option linter.unusedSimpArgs false
set_option maxRecDepth 100000
namespace Go.Proofs.YtehmcahdjldhbaaGreatDoor
open Wk
namespace Tx
open Bk (strV TS LinesAt NilOk ParsePost parse toSs toS k32 TBk Tr)
/-- A row's block, whatever its number. -/
theorem rowAt {w : World} {A : Option Addr} {n : Nat} {xs : List Bk.S32} (h : Kd.C k32 w A n xs) (i : Nat) (h1 : i < n) (x : Bk.S32) (hx : xs[i]? = some x) : ∃ ad, A = some ad ∧ w.cell? (ad.add (i * 9)) = some (.int .i64 x.f0) ∧ w.cell? ⟨(ad.add (i * 9)).block, (ad.add (i * 9)).off + 1, none⟩ = some (.string x.f1) ∧ w.cell? ⟨(ad.add (i * 9)).block, (ad.add (i * 9)).off + 2, none⟩ = some (.string x.f2) ∧
    w.cell? ⟨(ad.add (i * 9)).block, (ad.add (i * 9)).off + 6, none⟩ = some (.int .i64 x.f6) ∧ w.cell? ⟨(ad.add (i * 9)).block, (ad.add (i * 9)).off + 7, none⟩ = some (.int .i64 x.f7) := by
  obtain ⟨ad, A8, c8, e, a0, a1, a2, _, _, _, a6, a7, _⟩ := Bk.at_T32 h i (by omega) (by omega)
  have er : Bk.rd_T32 xs (i : Int) = x := by
    unfold Bk.rd_T32
    rw [Int.toNat_natCast, List.getD_eq_getElem?_getD, hx]; rfl
  rw [er, Int.toNat_natCast] at a0 a1 a2 a6 a7
  exact ⟨ad, e, a0, a1, a2, a6, a7⟩
theorem rules_row (n mask : Int) (w : World) (hE : Env w) (h1 : -9223372036854775808 ≤ n) (h2 : n ≤ 9223372036854775807) (h3 : -9223372036854775808 ≤ mask) (h4 : mask ≤ 9223372036854775807) :
    Calls Tryz.prog 7 #[.int .i64 n, .int .i64 mask] w fun e w' => e = .returned (.bool true) ∧ Below w.heap.size w w' := by
  refine rules_walk w n mask (awake_any w hE) fun k w1 lv hk hown hb => ?_
  have hlen : (ruleLines k).length = k := by simp [ruleLines]
  have hl : LinesAt w1 lv (ruleLines k) := (Bk.LinesAt0.of_own (by rw [hlen]; exact hown)).gen
  have hs : ∀ s ∈ ruleLines k, s.length ≤ 200 := fun s hs => by
    obtain ⟨i, _, rfl⟩ := List.mem_map.1 hs
    unfold ruleLine; split
    · decide
    · split <;> decide
  refine (parse_at w1 (hE.below hb) _ lv hl mask (by omega) hs).mono ?_
  rintro e w' ⟨v1, v2, rfl, R1, R2, b⟩
  obtain ⟨p2, p1⟩ := Bk.parse_rules k hk (Bk.notesOf mask)
  have e0 : Bk.ruleLines k = ruleLines k := rfl
  rw [e0] at p1 p2
  unfold FF at R1 R2
  unfold FF at p1 p2
  rw [p2] at R2
  obtain rfl := R2.2 rfl
  obtain ⟨A, c, rfl, hc, C⟩ := Kd.R_reads R1
  generalize (parse (allR unescF) unescF (Bk.notesOf mask) (ruleLines k)).1 = X at *
  have hX : X.length = k := by have := congrArg List.length p1; simpa using this
  have hXs : (toSs X).length = k := by rw [Bk.toSs_length]; exact hX
  rw [hXs] at C ⊢
  refine ⟨A, c, rfl, b, fun i hi => ?_⟩
  have hx : X[i]? = some X[i] := List.getElem?_eq_getElem (by omega)
  obtain ⟨ad, e, a0, _, _, a6, a7⟩ := rowAt C i hi (toS X[i]) (by rw [Bk.toSs_map, List.getElem?_map, hx]; rfl)
  have hk2 : Bk.trK X[i] = (if i % 3 = 1 then 8 else 9, i, i) := by
    have := congrArg (fun l => l[i]?) p1
    simp only [List.getElem?_map, hx, List.getElem?_range hi, Option.map_some] at this
    exact Option.some.inj this
  cases hXi : X[i] with
  | mk kd S T N M fl f l kids =>
    rw [hXi] at hk2 a0 a6 a7
    simp only [Bk.trK, Prod.mk.injEq] at hk2
    obtain ⟨q1, q2, q3⟩ := hk2
    subst q2
    refine ⟨ad, e, ?_, a6, ?_⟩
    · rw [a0]
      show some (Value.int .i64 ((kd : Nat) : Int)) = _
      rw [q1]
      unfold ruleKind
      split <;> rfl
    · rw [a7]
      show some (Value.int .i64 ((l : Nat) : Int)) = _
      rw [q3]
theorem plain_row (va : Value) (la : List Bs) (vb : Value) (lb : List Bs) (mask : Int) (w : World) (hE : Env w) (ha : LinesAt w va la) (na : NilOk va) (hb : LinesAt w vb lb) (nb : NilOk vb) (h3 : -9223372036854775808 ≤ mask) (h4 : mask ≤ 9223372036854775807) :
    Calls Tryz.prog 6 #[va, vb, .int .i64 mask] w fun e w' => e = .returned (.bool true) ∧ Below w.heap.size w w' := by
  refine plain_walk w va vb la lb ha hb mask (awake_any w hE) (fun w v l h => few_any w v l h) (fun w1 lv ha40 hb40 h80 ha0 hb0 ql qr hown hbw => ?_) (fun l h => Bk.joinNl_flat l h)
  have hlen : (la ++ [] :: lb).length = la.length + 1 + lb.length := by simp; omega
  have hl : LinesAt w1 lv (la ++ [] :: lb) := (Bk.LinesAt0.of_own (by rw [hlen]; exact hown)).gen
  refine (parse_at w1 (hE.below hbw) _ lv hl mask (by rw [hlen]; omega) (fun s hs => by have := h80 s hs; omega)).mono ?_
  rintro e w' ⟨v1, v2, rfl, R1, R2, b⟩
  have hp := Bk.parse_plain (Bk.notesOf mask) la lb ha0 hb0 (fun s hs => ql s hs) (fun s hs => qr s hs)
  rw [hp] at R1 R2
  obtain rfl := R2.2 rfl
  obtain ⟨A, c, rfl, hc, C⟩ := Kd.R_reads R1
  have C' : Kd.C k32 w' A 2 _ := C
  obtain ⟨ad, e, a0, a1, _, _, a7⟩ := rowAt C' 0 (by decide) _ rfl
  obtain ⟨ad', e', b0, b1, _, b6, _⟩ := rowAt C' 1 (by decide) _ rfl
  subst e
  cases e'
  refine ⟨ad, c, rfl, b, a0, a1, ?_, b0, b1, ?_⟩
  · refine a7.trans ?_
    have hp : 0 < la.length := List.length_pos_iff.2 ha0
    show some (Value.int .i64 (((la.length - 1 : Nat) : Nat) : Int)) = _
    rw [Int.ofNat_sub hp]; rfl
  · exact b6
theorem fences_row (v : Value) (l : List Bs) (info : ByteArray) (mask : Int) (w : World) (hE : Env w) (hv : LinesAt w v l) (hn : NilOk v) (h2 : info.size ≤ 140737488351232) (h3 : -9223372036854775808 ≤ mask) (h4 : mask ≤ 9223372036854775807) :
    Calls Tryz.prog 8 #[v, .string info, .int .i64 mask] w fun e w' => e = .returned (.bool true) ∧ Below w.heap.size w w' := by
  refine Fn.fences_walk w v l info hv hn mask (few l) (fun h => by unfold few at h; simpa using h) (awake_any w hE) (fun w1 h => few_any w1 v l (hv.below h)) (fun w1 lv h40 h80 h50 hi hc hown hbw => ?_)
  have hcells : (.string (⟨#[126, 126, 126, 126, 126, 126, 126, 126, 126]⟩ ++ info) :: (l.map strV ++ [.string ⟨#[126, 126, 126, 126, 126, 126, 126, 126, 126]⟩, .string ⟨#[120]⟩]) : List Value) = ((Bk.tildes ++ info.data.toList) :: (l ++ [Bk.tildes, [120]])).map strV := by
    rw [List.map_cons, List.map_append]
    congr 1
  rw [hcells] at hown
  have hlen : ((Bk.tildes ++ info.data.toList) :: (l ++ [Bk.tildes, [120]])).length = 1 + l.length + 2 := by simp; omega
  have hl : LinesAt w1 lv _ := (Bk.LinesAt0.of_own (by rw [hlen]; exact hown)).gen
  refine (parse_at w1 (hE.below hbw) _ lv hl mask (by rw [hlen]; omega) (fun s hs => by
    rcases List.mem_cons.1 hs with rfl | hs
    · rw [List.length_append]
      have e : Bk.tildes.length = 9 := rfl
      have e2 : info.data.toList.length = info.size := by rw [Array.length_toList]; rfl
      omega
    · rcases List.mem_append.1 hs with hs | hs
      · have := h80 s hs; omega
      · simp only [List.mem_cons, List.not_mem_nil, or_false] at hs
        rcases hs with rfl | rfl <;> decide)).mono ?_
  rintro e w' ⟨v1, v2, rfl, R1, R2, b⟩
  have hp := Bk.parse_fences (Bk.notesOf mask) info.data.toList l hi hc
  rw [hp] at R1 R2
  obtain rfl := R2.2 rfl
  obtain ⟨A, c, rfl, hc, C⟩ := Kd.R_reads R1
  have C' : Kd.C k32 w' A 2 _ := C
  obtain ⟨ad, e, a0, a1, a2, _, a7⟩ := rowAt C' 0 (by decide) _ rfl
  obtain ⟨ad', e', b0, b1, _, b6, _⟩ := rowAt C' 1 (by decide) _ rfl
  subst e
  cases e'
  refine ⟨ad, c, rfl, b, a0, a1, ?_, ?_, b0, b1⟩
  · refine a2.trans ?_
    show some (Value.string (mk info.data.toList)) = _
    rw [mk_self]
  · exact a7
end Tx
end Go.Proofs.YtehmcahdjldhbaaGreatDoor
end
