/- The walks of the reference's trim, run, end, Closes, Bullet and Setext. -/
import Derived.Test.YtokhibghnpcogaaGreatDoorRefD
import Derived.Test.YtokhibghnpcogaaGreatDoorPHeads
open Go Go.RowKit
set_option linter.unusedVariables false
set_option linter.unusedSimpArgs false
set_option maxRecDepth 100000
namespace Go.Proofs.YtokhibghnpcogaaGreatDoor
open Wk
namespace Sc
theorem trim_cons {b : UInt8} {t : List UInt8} (h : blank b = true) : trim (b :: t) = trim t := by
  have hb : ([32, 9] : List UInt8).contains b = true := by rw [blank_set]; exact h
  unfold trim Lib.trimS Lib.trimLeftS Lib.trimRightS
  rw [List.reverse_cons, List.dropWhile_append]
  split
  · rename_i he
    have he2 : (t.reverse.dropWhile fun x => ([32, 9] : List UInt8).contains x) = [] := by simpa using he
    rw [he2, List.dropWhile_cons, if_pos hb]; rfl
  · rw [List.reverse_append]
    show List.dropWhile _ (b :: (List.dropWhile _ t.reverse).reverse) = _
    rw [List.dropWhile_cons, if_pos hb]
def NB (l : List UInt8) : Prop := ∀ b t, l = b :: t → blank b = false
theorem NB.pre {a : List UInt8} {x : UInt8} (h : NB (a ++ [x])) : NB a := fun b t e => h b (t ++ [x]) (by rw [e]; rfl)
theorem trim_snoc {b : UInt8} {t : List UInt8} (h : blank b = true) : trim (t ++ [b]) = trim t := by
  have hb : ([32, 9] : List UInt8).contains b = true := by rw [blank_set]; exact h
  unfold trim Lib.trimS Lib.trimRightS
  rw [List.reverse_append]
  show Lib.trimLeftS (List.dropWhile _ (b :: t.reverse)).reverse _ = _
  rw [List.dropWhile_cons, if_pos hb]
theorem trim_fix {y : UInt8} {t a : List UInt8} {x : UInt8} (h1 : y :: t = a ++ [x]) (hy : blank y = false) (hx : blank x = false) : trim (y :: t) = y :: t := by
  unfold trim Lib.trimS
  have e := trimR_last a [] [32, 9] x rfl (by rw [blank_set]; exact hx)
  rw [List.append_nil, ← h1] at e
  rw [e]
  exact trimL_first [] t [32, 9] y rfl (by rw [blank_set]; exact hy)
theorem snoc_of (t : ByteArray) (h : 0 < t.size) : t.data.toList = (t.extract 0 (t.size - 1)).data.toList ++ [t[t.size - 1]] := by
  rw [take_data]
  have hl : t.size - 1 < t.data.toList.length := by rw [len_size]; omega
  have e := List.take_succ_eq_append_getElem hl
  rw [show t.data.toList[t.size - 1] = t[t.size - 1] from rfl] at e
  rw [← e, show t.size - 1 + 1 = t.size by omega]
  exact (List.take_of_length_le (by simp)).symm
theorem trimE (l : List UInt8) : (mk (trim l)).toList.isEmpty = blanks l := by
  rw [empty_iff, mk_data, Bool.eq_iff_iff, decide_eq_true_iff, trim_nil]
end Sc
set_option maxHeartbeats 2000000 in
theorem trim_r (s : ByteArray) (w : World) (hs : Small s) :
    Calls Tryz.prog 41 #[.string s] w fun e w' => e = .returned (.string (mk (Sc.trim s.data.toList))) ∧ w = w' := by
  unfold Small at hs
  generalize hF : Sc.trim s.data.toList = F
  have HF := Lib.hid hF
  clear hF
  go_enter Tryz.func41, Tryz.ntmps41
  go_wp2
  go_loop [0] (fun v => ∃ t : ByteArray, v = .string t ∧ t.size ≤ s.size ∧ Hid (Sc.trim t.data.toList = F)) (fun v => strSize v)
  case atStart => exact ⟨s, rfl, Nat.le_refl _, HF⟩
  case round =>
    obtain ⟨t, rfl, ht, HT⟩ := hrel
    by_cases hgo : ∃ h : 0 < t.size, Sc.blank t[0] = true
    · obtain ⟨hz, hb⟩ := hgo
      have E := Sc.head_of hz
      have BL := fun w => blank_r t[0] w
      rw [hb] at BL
      have hd := Sc.drop_data t 1
      have hl : (t.extract 1 t.size).size < t.size := by rw [← Sc.len_size, hd]; simp; omega
      have HT2 := Lib.hid (show Sc.trim (t.extract 1 t.size).data.toList = F by rw [hd, ← HT.out, E, Sc.trim_cons hb]; simp)
      clear E hb hd
      go_wp2_with (go_at_call 42; (with_reducible refine (BL _).mono ?_); rintro e w' ⟨rfl, rfl⟩)
      go_round
      case rel => exact ⟨_, rfl, by omega, HT2⟩
      case measure => simpa [strSize] using hl
    · have hstop : (t.size = 0 ∧ ¬ 0 < t.size) ∨ (∃ h : 0 < t.size, Sc.blank t[0] = false) := by
        by_cases hz : 0 < t.size
        · refine .inr ⟨hz, ?_⟩
          cases h : Sc.blank t[0] with
          | true => exact absurd ⟨hz, h⟩ hgo
          | false => rfl
        · exact .inl ⟨by omega, hz⟩
      clear hgo
      have R0 : Sc.NB t.data.toList := by
        intro b l e
        rcases hstop with ⟨h, _⟩ | ⟨h, hb⟩
        · have := congrArg List.length e; simp at this; omega
        · have E := Sc.head_of h
          rw [E] at e
          rw [← (List.cons.inj e).1]; exact hb
      have HR0 := Lib.hid R0
      have BL : ∀ h : 0 < t.size, Sc.blank t[0] = false → ∀ w, Calls Tryz.prog 42 #[.int .u8 t[0].toNat] w fun e w' => e = .returned (.bool false) ∧ w = w' := fun h hb w => by
        have := blank_r t[0] w; rw [hb] at this; exact this
      rcases hstop with ⟨hz0, hz⟩ | ⟨hz, hb⟩
      all_goals (
        first
        | (have BL2 := BL hz hb
           clear hb BL R0
           go_wp2_with (go_at_call 42; (with_reducible refine (BL2 _).mono ?_); rintro e w' ⟨rfl, rfl⟩)
           clear BL2)
        | (clear BL R0
           go_wp2
           clear hz0 hz)
        go_loop [0] (fun v => ∃ q : ByteArray, v = .string q ∧ q.size ≤ t.size ∧ Hid (Sc.NB q.data.toList) ∧ Hid (Sc.trim q.data.toList = F)) (fun v => strSize v)
        case atStart => exact ⟨t, rfl, Nat.le_refl _, HR0, HT⟩
        case round =>
          obtain ⟨q, rfl, hq, HQ0, HQ⟩ := hrel
          by_cases hz2 : 0 < q.size
          · have SN := Sc.snoc_of q hz2
            have BL3 := fun w => blank_r q[q.size - 1] w
            cases hb2 : Sc.blank q[q.size - 1] with
            | true =>
              have hl : (q.extract 0 (q.size - 1)).size < q.size := by rw [← Sc.len_size, Sc.take_data]; simp; omega
              have HQ2 := Lib.hid (show Sc.trim (q.extract 0 (q.size - 1)).data.toList = F by rw [← HQ.out, SN, Sc.trim_snoc hb2])
              have HQ02 := Lib.hid (show Sc.NB (q.extract 0 (q.size - 1)).data.toList from Sc.NB.pre (SN ▸ HQ0.out))
              rw [hb2] at BL3
              clear SN hb2
              go_wp2_with (go_at_call 42; (with_reducible refine (BL3 _).mono ?_); rintro e w' ⟨rfl, rfl⟩)
              go_round
              case rel => exact ⟨_, rfl, by omega, HQ02, HQ2⟩
              case measure => simpa [strSize] using hl
            | false =>
              have F2 := Lib.hid (show mk F = q by
                rw [← HQ.out]
                have e2 := Sc.head_of hz2
                have hb0 := HQ0.out _ _ e2
                have e3 : Sc.trim q.data.toList = q.data.toList := by
                  generalize q.data.toList.drop 1 = l1 at *
                  generalize (q.extract 0 (q.size - 1)).data.toList = l2 at *
                  rw [e2] at SN ⊢
                  exact Sc.trim_fix SN hb0 hb2
                rw [e3]; exact (mk_of rfl).symm)
              rw [hb2] at BL3
              clear SN hb2
              go_wp2_with (go_at_call 42; (with_reducible refine (BL3 _).mono ?_); rintro e w' ⟨rfl, rfl⟩)
              go_ret
              exact ⟨ret_eq (by rw [F2.out]; rfl), rfl⟩
          · have hq0 : q.data.toList = [] := List.eq_nil_of_length_eq_zero (by rw [Sc.len_size]; omega)
            have F2 := Lib.hid (show mk F = q by rw [← HQ.out, hq0]; exact (mk_of hq0).symm)
            clear hq0
            go_wp2
            go_ret
            exact ⟨ret_eq (by rw [F2.out]; rfl), rfl⟩)
theorem run_r (s : ByteArray) (c : UInt8) (w : World) (hs : Small s) :
    Calls Tryz.prog 39 #[.string s, .int .u8 c.toNat] w fun e w' => e = .returned (.int .i64 (Sc.run c s.data.toList)) ∧ w = w' := by
  have eb : ∀ b : UInt8, ((b.toNat : Int) == (c.toNat : Int)) = (b == c) := fun b => beq_uu b c
  unfold Small at hs
  go_enter Tryz.func39, Tryz.ntmps39
  go_wp2
  go_loop [5] (fun i => ∃ k : Nat, i = .int .i64 k ∧ Sc.Runs c s k) (fun i => s.size - (intOf i).toNat)
  case atStart => exact ⟨0, rfl, Sc.Runs.start⟩
  case round =>
    obtain ⟨k, rfl, U⟩ := hrel
    have hk := U.le
    by_cases hp : k < s.size
    · by_cases hq : s[k] = c
      · have hq1 : (s[k] == c) = true := by simpa using hq
        have HU := Lib.hid (U.step hp hq)
        clear hq
        go_wp2
        go_round
        case rel => exact ⟨k + 1, by go_num, HU.out⟩
        case measure => simp [intOf]; omega
      · have hq1 : (s[k] == c) = false := by simpa using hq
        have F := Lib.hid (U.stop (fun _ => hq))
        clear hq
        go_wp2
        go_ret
        exact ⟨by rw [F.out]; rfl, rfl⟩
    · have F := Lib.hid (U.stop (fun h => absurd h hp))
      go_wp2
      go_ret
      exact ⟨by rw [F.out]; rfl, rfl⟩
theorem end_r (s : ByteArray) (w : World) :
    Calls Tryz.prog 40 #[.string s] w fun e w' => e = .returned (.bool (Sc.ends s.data.toList)) ∧ w = w' := by
  by_cases h0 : s.data.toList = []
  · have h1 : s.toList = [] := by rw [toList_data, h0]
    rw [h0]
    clear h0
    go_enter Tryz.func40, Tryz.ntmps40
    go_wp2
    go_ret
    exact ⟨rfl, rfl⟩
  · have hsz := Sc.size_pos h0
    have h1 : (s.toList == ([] : List UInt8)) = false := by rw [toList_data, beq_eq_false_iff_ne]; exact h0
    have F := Lib.hid (congrArg Sc.ends (Sc.head_of hsz))
    have BL := fun w => blank_r s[0] w
    clear h0
    go_enter Tryz.func40, Tryz.ntmps40
    go_wp2_with (go_at_call 42; (with_reducible refine (BL _).mono ?_); rintro e w' ⟨rfl, rfl⟩)
    go_ret
    exact ⟨ret_bool (by rw [F.out, Sc.ends]), rfl⟩
theorem closes_r (s : ByteArray) (c : UInt8) (n : Int) (w : World) (hs : Small s) (h0 : -9223372036854775808 ≤ n) (h1 : n ≤ 9223372036854775807) :
    Calls Tryz.prog 20 #[.string s, .int .u8 c.toNat, .int .i64 n] w fun e w' => e = .returned (.bool (Sc.closes s.data.toList c n)) ∧ Below w.heap.size w w' := by
  have hr := Sc.run_le c s.data.toList
  rw [Sc.len_size] at hr
  have hd := Lib.hid (Sc.drop_data s (Sc.run c s.data.toList))
  have hz : Small (s.extract (Sc.run c s.data.toList) s.size) := by unfold Small at *; rw [← Sc.len_size, hd.out]; simp; omega
  have F : Sc.closes s.data.toList c n = (decide (n ≤ Sc.run c s.data.toList) && decide (1 ≤ Sc.run c s.data.toList) && Sc.blanks (s.data.toList.drop (Sc.run c s.data.toList))) := rfl
  have R := run_r s c w hs
  rw [F]
  clear F
  generalize Sc.run c s.data.toList = k at *
  have hk : (k : Int) ≤ 4000000000 := by unfold Small at hs; omega
  have T := fun w => trim_r _ w hz
  rw [hd.out] at T
  have TE := Sc.trimE (s.data.toList.drop k)
  generalize mk (Sc.trim (s.data.toList.drop k)) = tr at *
  generalize Sc.blanks (s.data.toList.drop k) = bl at *
  by_cases hk1 : 1 ≤ k
  · by_cases hn : n ≤ k
    · have E : (decide (n ≤ (k : Int)) && decide (1 ≤ k) && bl) = bl := by simp [hn, hk1]
      rw [E]
      clear E
      go_enter Tryz.func20, Tryz.ntmps20
      go_wp2_with (first
        | (go_at_call 39; refine R.mono ?_; rintro e w1 ⟨rfl, rfl⟩)
        | (go_at_call 41; refine (T _).mono ?_; rintro e w1 ⟨rfl, rfl⟩))
      go_ret
      exact ⟨rfl, Below.refl _ _⟩
    · have E : (decide (n ≤ (k : Int)) && decide (1 ≤ k) && bl) = false := by simp [hn]
      rw [E]
      clear E
      go_enter Tryz.func20, Tryz.ntmps20
      go_wp2_with (go_at_call 39; refine R.mono ?_; rintro e w1 ⟨rfl, rfl⟩)
      go_ret
      exact ⟨rfl, Below.refl _ _⟩
  · have E : (decide (n ≤ (k : Int)) && decide (1 ≤ k) && bl) = false := by simp [hk1]
    rw [E]
    clear E
    go_enter Tryz.func20, Tryz.ntmps20
    go_wp2_with (go_at_call 39; refine R.mono ?_; rintro e w1 ⟨rfl, rfl⟩)
    go_ret
    exact ⟨rfl, Below.refl _ _⟩
theorem bullet_facts (b : UInt8) : ((b == 45 || b == 43 || b == 42) = true ∧ ((b == 45) = true ∨ ((b == 45) = false ∧ (b == 43) = true) ∨ ((b == 45) = false ∧ (b == 43) = false ∧ (b == 42) = true)))
    ∨ ((b == 45 || b == 43 || b == 42) = false ∧ (b == 45) = false ∧ (b == 43) = false ∧ (b == 42) = false) := by
  cases (b == 45) <;> cases (b == 43) <;> cases (b == 42) <;> simp
theorem bullet_r (s : ByteArray) (w : World) :
    Calls Tryz.prog 22 #[.string s] w fun e w' => e = .returned (.int .i64 (Sc.bullet s.data.toList)) ∧ Below w.heap.size w w' := by
  by_cases h0 : s.data.toList = []
  · have h1 : s.toList = [] := by rw [toList_data, h0]
    rw [h0]
    clear h0
    go_enter Tryz.func22, Tryz.ntmps22
    go_wp2
    go_ret
    exact ⟨rfl, Below.refl _ _⟩
  · have hsz := Sc.size_pos h0
    have h1 : (s.toList == ([] : List UInt8)) = false := by rw [toList_data, beq_eq_false_iff_ne]; exact h0
    have h1' : s.toList.isEmpty = false := by rw [toList_data]; cases e : s.data.toList with | nil => exact absurd e h0 | cons _ _ => rfl
    have F := congrArg Sc.bullet (Sc.head_of hsz)
    rw [Sc.bullet] at F
    have EN := fun w => end_r (s.extract 1 s.size) w
    rw [Sc.drop_data] at EN
    generalize Sc.ends (s.data.toList.drop 1) = en at *
    have e45 : ∀ b : UInt8, ((b.toNat : Int) == 45) = (b == 45) := fun b => beq_u8 b 45 (by decide)
    have e43 : ∀ b : UInt8, ((b.toNat : Int) == 43) = (b == 43) := fun b => beq_u8 b 43 (by decide)
    have e42 : ∀ b : UInt8, ((b.toNat : Int) == 42) = (b == 42) := fun b => beq_u8 b 42 (by decide)
    generalize Sc.bullet s.data.toList = X at *
    clear h0
    rcases bullet_facts s[0] with ⟨f0, f⟩ | ⟨f0, f1, f2, f3⟩
    · rw [f0] at F
      clear f0
      cases en with
      | true =>
        have HF := Lib.hid (show X = 1 from F)
        clear F
        rcases f with f1 | ⟨f1, f2⟩ | ⟨f1, f2, f3⟩
        all_goals (
          go_enter Tryz.func22, Tryz.ntmps22
          go_wp2_with (go_at_call 40; refine (EN _).mono ?_; rintro e w1 ⟨rfl, rfl⟩)
          go_ret
          exact ⟨by rw [HF.out]; rfl, Below.refl _ _⟩)
      | false =>
        have HF := Lib.hid (show X = 0 from F)
        clear F
        rcases f with f1 | ⟨f1, f2⟩ | ⟨f1, f2, f3⟩
        all_goals (
          go_enter Tryz.func22, Tryz.ntmps22
          go_wp2_with (go_at_call 40; refine (EN _).mono ?_; rintro e w1 ⟨rfl, rfl⟩)
          go_ret
          exact ⟨by rw [HF.out]; rfl, Below.refl _ _⟩)
    · rw [f0] at F
      have HF := Lib.hid (show X = 0 from F)
      clear f0 F
      go_enter Tryz.func22, Tryz.ntmps22
      go_wp2
      go_ret
      exact ⟨by rw [HF.out]; rfl, Below.refl _ _⟩
theorem setext_r (s : ByteArray) (w : World) (hs : Small s) :
    Calls Tryz.prog 18 #[.string s] w fun e w' => e = .returned (.int .i64 (Sc.setext s.data.toList)) ∧ Below w.heap.size w w' := by
  have R := fun (c : UInt8) (w : World) => run_r s c w hs
  have R61 : ∀ w, Calls Tryz.prog 39 #[.string s, .int .u8 ((⟨#[61, 45]⟩ : ByteArray)[0]'(by decide)).toNat] w fun e w' => e = .returned (.int .i64 (Sc.run 61 s.data.toList)) ∧ w = w' := R ((⟨#[61, 45]⟩ : ByteArray)[0]'(by decide))
  have R45 : ∀ w, Calls Tryz.prog 39 #[.string s, .int .u8 ((⟨#[61, 45]⟩ : ByteArray)[1]'(by decide)).toNat] w fun e w' => e = .returned (.int .i64 (Sc.run 45 s.data.toList)) ∧ w = w' := R ((⟨#[61, 45]⟩ : ByteArray)[1]'(by decide))
  have bnd : ∀ c, Sc.run c s.data.toList ≤ s.size := fun c => by have := Sc.run_le c s.data.toList; rwa [Sc.len_size] at this
  have L1 := bnd 61
  have L2 := bnd 45
  have bl : ∀ k, k ≤ s.size → ∀ w, Calls Tryz.prog 41 #[.string (s.extract k s.size)] w fun e w' => e = .returned (.string (mk (Sc.trim (s.data.toList.drop k)))) ∧ w = w' := fun k hk w => by
    have hd := Sc.drop_data s k
    have := trim_r (s.extract k s.size) w (by unfold Small at *; rw [← Sc.len_size, hd]; simp; omega)
    rwa [hd] at this
  have B1 := bl _ L1
  have B2 := bl _ L2
  have T1 := Sc.trimE (s.data.toList.drop (Sc.run 61 s.data.toList))
  have T2 := Sc.trimE (s.data.toList.drop (Sc.run 45 s.data.toList))
  have F : Sc.setext s.data.toList = if (0 < Sc.run 61 s.data.toList && Sc.blanks (s.data.toList.drop (Sc.run 61 s.data.toList))) = true then 1 else if (0 < Sc.run 45 s.data.toList && Sc.blanks (s.data.toList.drop (Sc.run 45 s.data.toList))) = true then 2 else 0 := rfl
  clear R bnd bl
  generalize Sc.setext s.data.toList = T at *
  generalize Sc.run 61 s.data.toList = k1 at *
  generalize Sc.run 45 s.data.toList = k2 at *
  generalize Sc.blanks (s.data.toList.drop k1) = b1 at *
  generalize Sc.blanks (s.data.toList.drop k2) = b2 at *
  generalize mk (Sc.trim (s.data.toList.drop k1)) = t1 at *
  generalize mk (Sc.trim (s.data.toList.drop k2)) = t2 at *
  have HF := Lib.hid F
  clear F
  unfold Small at hs
  have C1 : ((0 < k1 && b1) = true ∧ 0 < k1 ∧ b1 = true) ∨ ((0 < k1 && b1) = false ∧ k1 = 0) ∨ ((0 < k1 && b1) = false ∧ 0 < k1 ∧ b1 = false) := by
    by_cases h : 0 < k1
    · cases b1 <;> simp [h]
    · exact .inr (.inl ⟨by simp [h], by omega⟩)
  have C2 : ((0 < k2 && b2) = true ∧ 0 < k2 ∧ b2 = true) ∨ ((0 < k2 && b2) = false ∧ k2 = 0) ∨ ((0 < k2 && b2) = false ∧ 0 < k2 ∧ b2 = false) := by
    by_cases h : 0 < k2
    · cases b2 <;> simp [h]
    · exact .inr (.inl ⟨by simp [h], by omega⟩)
  rcases C1 with ⟨c0, c1, rfl⟩ | ⟨c0, rfl⟩ | ⟨c0, c1, rfl⟩
  · have HF2 := Lib.hid (HF.out.trans (if_pos c0))
    clear HF c0 C2
    go_enter Tryz.func18, Tryz.ntmps18
    go_wp2
    refine wp_loop_rounds 3 ?_
    rw [rounds_succ]
    go_wp2_with (first
      | (go_at_call 39; (with_reducible refine (R61 _).mono ?_); rintro e w1 ⟨rfl, rfl⟩)
      | (go_at_call 41; (with_reducible refine (B1 _).mono ?_); rintro e w1 ⟨rfl, rfl⟩))
    go_ret
    exact ⟨by rw [HF2.out]; rfl, Below.refl _ _⟩
  all_goals (
    have HF2 := HF.out.trans (if_neg (by rw [c0]; simp))
    clear HF c0
    rcases C2 with ⟨d0, d1, rfl⟩ | ⟨d0, rfl⟩ | ⟨d0, d1, rfl⟩
    · have HF3 := Lib.hid (HF2.trans (if_pos d0))
      clear HF2 d0
      go_enter Tryz.func18, Tryz.ntmps18
      go_wp2
      refine wp_loop_rounds 3 ?_
      rw [rounds_succ]
      go_wp2_with (first
        | (go_at_call 39; (with_reducible refine (R61 _).mono ?_); rintro e w1 ⟨rfl, rfl⟩)
        | (go_at_call 41; (with_reducible refine (B1 _).mono ?_); rintro e w1 ⟨rfl, rfl⟩))
      rw [rounds_succ]
      go_wp2_with (first
        | (go_at_call 39; (with_reducible refine (R45 _).mono ?_); rintro e w1 ⟨rfl, rfl⟩)
        | (go_at_call 41; (with_reducible refine (B2 _).mono ?_); rintro e w1 ⟨rfl, rfl⟩))
      go_ret
      exact ⟨by rw [HF3.out]; rfl, Below.refl _ _⟩
    all_goals (
      have HF3 := Lib.hid (HF2.trans (if_neg (by rw [d0]; simp)))
      clear HF2 d0
      go_enter Tryz.func18, Tryz.ntmps18
      go_wp2
      refine wp_loop_rounds 3 ?_
      rw [rounds_succ]
      go_wp2_with (first
        | (go_at_call 39; (with_reducible refine (R61 _).mono ?_); rintro e w1 ⟨rfl, rfl⟩)
        | (go_at_call 41; (with_reducible refine (B1 _).mono ?_); rintro e w1 ⟨rfl, rfl⟩))
      rw [rounds_succ]
      go_wp2_with (first
        | (go_at_call 39; (with_reducible refine (R45 _).mono ?_); rintro e w1 ⟨rfl, rfl⟩)
        | (go_at_call 41; (with_reducible refine (B2 _).mono ?_); rintro e w1 ⟨rfl, rfl⟩))
      rw [rounds_succ]
      go_wp2
      go_ret
      exact ⟨by rw [HF3.out]; rfl, Below.refl _ _⟩))
end Go.Proofs.YtokhibghnpcogaaGreatDoor
