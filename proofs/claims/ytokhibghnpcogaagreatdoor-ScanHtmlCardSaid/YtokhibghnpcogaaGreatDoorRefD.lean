/- The walk of the reference's Tag. -/
import Derived.Test.YtokhibghnpcogaaGreatDoorRefC
open Go Go.RowKit
set_option linter.unusedVariables false
set_option linter.unusedSimpArgs false
set_option maxRecDepth 100000
namespace Go.Proofs.YtokhibghnpcogaaGreatDoor
open Wk
namespace Sc
def endOf (e : List UInt8) : Option (List UInt8) := if (sign 62 e).1 then some (sign 62 e).2 else none
theorem tagEnd_end (c : Bool) (r : List UInt8) : tagEnd c r = endOf (if c then r.dropWhile white else (sign 47 (r.dropWhile white)).2) := rfl
theorem tagRest_of (l u t : List UInt8) (c : Bool) (hl : l = 60 :: u) (hs : sign 47 u = (c, t)) : tagRest l = if (named t).1 = [] then none else (tagBody c (named t).2).bind (tagEnd c) := by
  have e : sign 60 l = (true, u) := by rw [hl]; rfl
  unfold tagRest
  rw [e]
  simp only [Bool.not_true, Bool.false_eq_true, if_false]
  rw [hs]
theorem attrs_none {l : List UInt8} (h : attr l = none) : attrs (l.length + 1) l = some l := by rw [attrs, h]
theorem attrs_bad {l : List UInt8} (h : attr l = some none) : attrs (l.length + 1) l = none := by rw [attrs, h]
theorem attrs_some {l t : List UInt8} (h : attr l = some (some t)) : attrs (l.length + 1) l = attrs (t.length + 1) t := by
  rw [attrs, h]; exact attrs_more _ _ (attr_len h)
end Sc
def moreN : Value → Nat
  | .bool true => 1
  | _ => 0
/-- What the tag's end says. -/
def TagEndR (l : List UInt8) (o : Option (List UInt8)) : Nat := match o with
  | none => 0
  | some r => l.length - r.length
set_option maxHeartbeats 4000000 in
theorem tag_r (s : ByteArray) (w : World) (hs : Small s) :
    Calls Tryz.prog 8 #[.string s] w fun e w' => e = .returned (.int .i64 (Sc.tag s.data.toList)) ∧ Below w.heap.size w w' := by
  have n60 : ∀ b : UInt8, ((b.toNat : Int) != 60) = (b != 60) := fun b => bne_u8 b 60 (by decide)
  have e47 : ∀ b : UInt8, ((b.toNat : Int) == 47) = (b == 47) := fun b => beq_u8 b 47 (by decide)
  have n62 : ∀ b : UInt8, ((b.toNat : Int) != 62) = (b != 62) := fun b => bne_u8 b 62 (by decide)
  have hX : Sc.tag s.data.toList = TagEndR s.data.toList (Sc.tagRest s.data.toList) := rfl
  generalize Sc.tag s.data.toList = X at *
  by_cases h0 : s.data.toList = []
  · have h1 : s.toList = [] := by rw [toList_data, h0]
    have F := Lib.hid (show X = 0 by rw [hX, h0]; rfl)
    clear h0 hX
    go_enter Tryz.func8, Tryz.ntmps8
    go_wp2
    go_ret
    exact ⟨by rw [F.out]; rfl, Below.refl _ _⟩
  have hz := Sc.size_pos h0
  have E := Sc.head_of hz
  have h1 : (s.toList == ([] : List UInt8)) = false := by rw [toList_data, beq_eq_false_iff_ne]; exact h0
  clear h0
  by_cases h60 : s[0] = 60
  case neg =>
    have q : (s[0] != 60) = true := by simp [h60]
    have F := Lib.hid (show X = 0 by rw [hX, E]; simp [Sc.tagRest, Sc.sign, h60, TagEndR])
    clear hX E h60
    go_enter Tryz.func8, Tryz.ntmps8
    go_wp2
    go_ret
    exact ⟨by rw [F.out]; rfl, Below.refl _ _⟩
  have q : (s[0] != 60) = false := by simp [h60]
  have hl : s.data.toList = 60 :: s.data.toList.drop 1 := by rw [h60] at E; exact E
  have hB : ∃ (c : Bool) (t : ByteArray), Sc.sign 47 (s.data.toList.drop 1) = (c, t.data.toList) ∧ t.size ≤ s.size ∧ ((c = false ∧ t = s.extract 1 s.size ∧ ¬ 1 < s.size) ∨ (c = false ∧ t = s.extract 1 s.size ∧ ∃ h : 1 < s.size, (s[1] == 47) = false) ∨ (c = true ∧ t = s.extract 2 s.size ∧ ∃ h : 1 < s.size, (s[1] == 47) = true)) := by
    have hx : ∀ k, (s.extract k s.size).size ≤ s.size := fun k => by rw [← Sc.len_size, Sc.drop_data]; simp
    by_cases hp : 1 < s.size
    · have E1 := Sc.drop_at s 1 hp
      by_cases h47 : s[1] = 47
      · exact ⟨true, s.extract 2 s.size, by rw [E1, Sc.sign, if_pos h47, Sc.drop_data], hx _, .inr (.inr ⟨rfl, rfl, hp, by simp [h47]⟩)⟩
      · exact ⟨false, s.extract 1 s.size, by rw [E1, Sc.sign, if_neg h47, Sc.drop_data, E1], hx _, .inr (.inl ⟨rfl, rfl, hp, by simp [h47]⟩)⟩
    · have e : s.data.toList.drop 1 = [] := List.drop_eq_nil_of_le (by simp; omega)
      exact ⟨false, s.extract 1 s.size, by rw [Sc.drop_data, e]; rfl, hx _, .inl ⟨rfl, rfl, hp⟩⟩
  obtain ⟨c, t, hsg, hts, hB⟩ := hB
  rw [Sc.tagRest_of _ _ _ c hl hsg] at hX
  clear hsg hl E h60
  unfold Small at hs
  have NM := fun w => name_r t w (by unfold Small; omega)
  have hn1 := Sc.named_len1 t.data.toList
  have hn2 := Sc.named_len t.data.toList
  obtain ⟨nm, hnm⟩ : ∃ nm : ByteArray, mk (Sc.named t.data.toList).1 = nm := ⟨_, rfl⟩
  obtain ⟨q0, hq0⟩ : ∃ q : ByteArray, mk (Sc.named t.data.toList).2 = q := ⟨_, rfl⟩
  have enm : (Sc.named t.data.toList).1 = nm.data.toList := by rw [← hnm]; rfl
  have eq0 : (Sc.named t.data.toList).2 = q0.data.toList := by rw [← hq0]; rfl
  rw [hnm, hq0] at NM
  rw [enm, eq0] at hX
  have hqs : q0.size ≤ s.size := by rw [← Sc.len_size, ← eq0]; rw [Sc.len_size] at hn2; omega
  clear hnm hq0 enm eq0 hn1 hn2
  by_cases hne : nm.data.toList = []
  · have hm : nm.toList = [] := by rw [toList_data, hne]
    have F := Lib.hid (show X = 0 by rw [hX, if_pos hne]; rfl)
    clear hX hne
    rcases hB with ⟨rfl, rfl, hp⟩ | ⟨rfl, rfl, hp, hp2⟩ | ⟨rfl, rfl, hp, hp2⟩
    all_goals (
      go_enter Tryz.func8, Tryz.ntmps8
      go_wp2_with (go_at_call 32; (with_reducible refine (NM _).mono ?_); rintro e w1 ⟨rfl, b1⟩)
      go_ret
      exact ⟨by rw [F.out]; rfl, b1⟩)
  have hm : (nm.toList == ([] : List UInt8)) = false := by rw [toList_data, beq_eq_false_iff_ne]; exact hne
  rw [if_neg hne] at hX
  clear hne
  have AT := fun (x : ByteArray) (w : World) (hx : Small x) => attribute_r x w hx
  have SKP := fun (x : ByteArray) (w : World) (hx : Small x) => skip_r x w hx
  generalize hO : Sc.tagBody c q0.data.toList = O at *
  have HX := Lib.hid hX
  clear hX
  have HO : c = false → Hid (Sc.attrs (q0.data.toList.length + 1) q0.data.toList = O) := fun h => by rw [h] at hO; exact Lib.hid hO
  have HO2 : c = true → Hid (O = some q0.data.toList) := fun h => by rw [h] at hO; exact Lib.hid hO.symm
  clear hO
  -- the end: what a rest says
  have FIN : ∀ (r d e : ByteArray), O = some r.data.toList → d.data.toList = r.data.toList.dropWhile Sc.white → e.data.toList = (if c then d.data.toList else (Sc.sign 47 d.data.toList).2) → X = TagEndR s.data.toList (Sc.endOf e.data.toList) := by
    intro r d e h1 h2 h3
    rw [HX.out, h1, h3, h2]
    rfl
  have EE : ∀ e : ByteArray, (e.toList = [] ∧ TagEndR s.data.toList (Sc.endOf e.data.toList) = 0) ∨ (∃ h : 0 < e.size, (e.toList == ([] : List UInt8)) = false ∧ (e[0] != 62) = true ∧ TagEndR s.data.toList (Sc.endOf e.data.toList) = 0)
      ∨ (∃ h : 0 < e.size, (e.toList == ([] : List UInt8)) = false ∧ (e[0] != 62) = false ∧ TagEndR s.data.toList (Sc.endOf e.data.toList) = s.size - (e.size - 1)) := by
    intro e
    by_cases h0 : e.data.toList = []
    · exact .inl ⟨by rw [toList_data, h0], by rw [h0]; rfl⟩
    · have hu0 := Sc.size_pos h0
      have E := Sc.head_of hu0
      have hne : (e.toList == ([] : List UInt8)) = false := by rw [toList_data, beq_eq_false_iff_ne]; exact h0
      by_cases h62 : e[0] = 62
      · refine .inr (.inr ⟨hu0, hne, by simp [h62], ?_⟩)
        have hlen : (e.data.toList.drop 1).length = e.size - 1 := by simp
        generalize e.data.toList.drop 1 = l1 at *
        rw [E, h62]
        have : Sc.endOf (62 :: l1) = some l1 := rfl
        rw [this]
        show s.data.toList.length - l1.length = _
        rw [Sc.len_size, hlen]
      · refine .inr (.inl ⟨hu0, hne, by simp [h62], ?_⟩)
        rw [E]
        have : Sc.sign 62 (e[0] :: e.data.toList.drop 1) = (false, e[0] :: e.data.toList.drop 1) := by simp [Sc.sign, h62]
        unfold Sc.endOf
        rw [this]; rfl
  have DD : ∀ d : ByteArray, d.size ≤ s.size → (d.toList = [] ∧ d.data.toList = (Sc.sign 47 d.data.toList).2) ∨ (∃ h : 0 < d.size, (d.toList == ([] : List UInt8)) = false ∧ (d[0] == 47) = false ∧ d.data.toList = (Sc.sign 47 d.data.toList).2)
      ∨ (∃ h : 0 < d.size, (d.toList == ([] : List UInt8)) = false ∧ (d[0] == 47) = true ∧ (d.extract 1 d.size).data.toList = (Sc.sign 47 d.data.toList).2 ∧ (d.extract 1 d.size).size ≤ s.size) := by
    intro d hds
    by_cases h0 : d.data.toList = []
    · exact .inl ⟨by rw [toList_data, h0], by rw [h0]; rfl⟩
    · have hu0 := Sc.size_pos h0
      have E := Sc.head_of hu0
      have hne : (d.toList == ([] : List UInt8)) = false := by rw [toList_data, beq_eq_false_iff_ne]; exact h0
      by_cases h47 : d[0] = 47
      · refine .inr (.inr ⟨hu0, hne, by simp [h47], ?_, by rw [← Sc.len_size, Sc.drop_data]; simp; omega⟩)
        rw [Sc.drop_data]
        generalize d.data.toList.drop 1 = l1 at *
        rw [E, h47]; rfl
      · refine .inr (.inl ⟨hu0, hne, by simp [h47], ?_⟩)
        have : Sc.sign 47 d.data.toList = (false, d.data.toList) := by rw [E]; simp [Sc.sign, h47]
        rw [this]
  rcases hB with ⟨rfl, rfl, hp⟩ | ⟨rfl, rfl, hp, hp2⟩ | ⟨rfl, rfl, hp, hp2⟩
  all_goals (
    go_enter Tryz.func8, Tryz.ntmps8
    go_wp2_with (go_at_call 32; (with_reducible refine (NM _).mono ?_); rintro e w1 ⟨rfl, b1⟩)
    go_loopw [4, 6] (fun v4 v6 wr => ∃ (t1 : ByteArray) (m : Bool), v4 = .string t1 ∧ v6 = .bool m ∧ t1.size ≤ s.size ∧ (m = true → Hid (Sc.attrs (t1.data.toList.length + 1) t1.data.toList = O)) ∧ (m = false → Hid (O = some t1.data.toList)) ∧ Below w.heap.size w wr) (fun v4 v6 _ => 2 * strSize v4 + moreN v6)
    case atStart => first
      | exact ⟨q0, true, rfl, rfl, hqs, (fun _ => HO (by simp)), (fun h => by cases h), b1⟩
      | exact ⟨q0, false, rfl, rfl, hqs, (fun h => by cases h), (fun _ => HO2 (by simp)), b1⟩
    case round =>
      obtain ⟨t1, m, rfl, rfl, ht1, hm1, hm2, bw⟩ := hrel
      have AT1 := fun w => AT t1 w (by unfold Small; omega)
      have SK1 := fun w => SKP t1 w (by unfold Small; omega)
      cases m with
      | true =>
        have h1 := hm1 rfl
        clear hm1 hm2 SK1 SKP AT
        cases hatt : Sc.attr t1.data.toList with
        | none =>
          have hO1 := Lib.hid (show O = some t1.data.toList by rw [← h1.out, Sc.attrs_none hatt])
          have AT2 : ∀ w, Calls Tryz.prog 33 #[.string t1] w fun e w' => e = .returned (.tuple #[.string t1, .bool false, .bool false]) ∧ Below w.heap.size w w' := by
            intro w
            refine (AT1 w).mono ?_
            rw [hatt]
            rintro e w' ⟨⟨r, he, hr, _, _⟩, hb⟩
            exact ⟨by rw [he, same_text (hr rfl)]; rfl, hb⟩
          clear AT1 hatt h1
          go_wp2_with (go_at_call 33; (with_reducible refine (AT2 _).mono ?_); rintro e w2 ⟨rfl, b2⟩)
          go_roundw
          case rel => exact ⟨t1, false, rfl, rfl, ht1, (fun h => by cases h), (fun _ => hO1), bw.trans (b2.mono bw.size)⟩
          case measure => simp [strSize, moreN]
        | some a =>
          cases a with
          | none =>
            have F := Lib.hid (show X = 0 by rw [HX.out, ← h1.out, Sc.attrs_bad hatt]; rfl)
            have AT2 : ∀ w, Calls Tryz.prog 33 #[.string t1] w fun e w' => (∃ r : ByteArray, e = .returned (.tuple #[.string r, .bool false, .bool true])) ∧ Below w.heap.size w w' := by
              intro w
              refine (AT1 w).mono ?_
              rw [hatt]
              rintro e w' ⟨⟨r, he, _, _, _⟩, hb⟩
              exact ⟨⟨r, he⟩, hb⟩
            clear AT1 hatt h1
            go_wp2_with (go_at_call 33; (with_reducible refine (AT2 _).mono ?_); rintro e w2 ⟨⟨r, rfl⟩, b2⟩)
            go_ret
            exact ⟨by rw [F.out]; rfl, bw.trans (b2.mono bw.size)⟩
          | some t2 =>
            have hlt := Sc.attr_len hatt
            have hz2 : (mk t2).size < t1.size := by rw [mk_size, ← Sc.len_size]; exact hlt
            have hO1 := Lib.hid (show Sc.attrs ((mk t2).data.toList.length + 1) (mk t2).data.toList = O by rw [← h1.out, Sc.attrs_some hatt]; rfl)
            have AT2 : ∀ w, Calls Tryz.prog 33 #[.string t1] w fun e w' => e = .returned (.tuple #[.string (mk t2), .bool true, .bool false]) ∧ Below w.heap.size w w' := by
              intro w
              refine (AT1 w).mono ?_
              rw [hatt]
              rintro e w' ⟨⟨r, he, _, hr, _⟩, hb⟩
              exact ⟨by rw [he, mk_of (hr t2 rfl)]; rfl, hb⟩
            clear AT1 hatt h1 hlt
            go_wp2_with (go_at_call 33; (with_reducible refine (AT2 _).mono ?_); rintro e w2 ⟨rfl, b2⟩)
            go_roundw
            case rel => exact ⟨mk t2, true, rfl, rfl, by omega, (fun _ => hO1), (fun h => by cases h), bw.trans (b2.mono bw.size)⟩
            case measure => simp [strSize, moreN]; omega
      | false =>
        have h1 := hm2 rfl
        clear hm1 hm2 AT1 AT SKP
        obtain ⟨d, hd⟩ : ∃ d : ByteArray, mk (t1.data.toList.dropWhile Sc.white) = d := ⟨_, rfl⟩
        have hdd : d.data.toList = t1.data.toList.dropWhile Sc.white := by rw [← hd]; rfl
        rw [hd] at SK1
        clear hd
        have hds : d.size ≤ s.size := by
          rw [← Sc.len_size, hdd]
          exact Nat.le_trans (Sc.len_dropWhile _) (by rw [Sc.len_size]; exact ht1)
        have FE := fun e => FIN t1 d e h1.out hdd
        clear FIN h1 hdd
        first
        | (have hcl : (true : Bool) = true := rfl
           have FE' := FE d rfl
           clear FE DD
           have F0 := FE'
           rcases EE d with ⟨g1, g2⟩ | ⟨g0, g1, g2, g3⟩ | ⟨g0, g1, g2, g3⟩
           · have F := Lib.hid (F0.trans g2)
             clear F0 FE' g2 EE
             go_wp2_with (go_at_call 34; (with_reducible refine (SK1 _).mono ?_); rintro e w2 ⟨rfl, rfl⟩)
             go_ret
             exact ⟨by rw [F.out]; rfl, bw⟩
           · have F := Lib.hid (F0.trans g3)
             clear F0 FE' g3 EE
             go_wp2_with (go_at_call 34; (with_reducible refine (SK1 _).mono ?_); rintro e w2 ⟨rfl, rfl⟩)
             go_ret
             exact ⟨by rw [F.out]; rfl, bw⟩
           · have F := Lib.hid (F0.trans g3)
             clear F0 FE' g3 EE
             go_wp2_with (go_at_call 34; (with_reducible refine (SK1 _).mono ?_); rintro e w2 ⟨rfl, rfl⟩)
             go_ret
             exact ⟨ret_int (by rw [F.out]; omega), bw⟩)
        | (rcases DD d hds with ⟨c1, c2⟩ | ⟨c0, c1, c2, c3⟩ | ⟨c0, c1, c2, c3, c4⟩
           · have F0 := FE d (by simpa using c2)
             clear FE DD c2
             rcases EE d with ⟨g1, g2⟩ | ⟨g0, g1, g2, g3⟩ | ⟨g0, g1, g2, g3⟩
             · have F := Lib.hid (F0.trans g2)
               clear F0 g2 EE
               go_wp2_with (go_at_call 34; (with_reducible refine (SK1 _).mono ?_); rintro e w2 ⟨rfl, rfl⟩)
               go_ret
               exact ⟨by rw [F.out]; rfl, bw⟩
             · rw [c1] at g1; cases g1
             · rw [c1] at g1; cases g1
           · have F0 := FE d (by simpa using c3)
             clear FE DD c3
             rcases EE d with ⟨g1, g2⟩ | ⟨g0, g1, g2, g3⟩ | ⟨g0, g1, g2, g3⟩
             · rw [g1] at c1; cases c1
             · have F := Lib.hid (F0.trans g3)
               clear F0 g3 EE
               go_wp2_with (go_at_call 34; (with_reducible refine (SK1 _).mono ?_); rintro e w2 ⟨rfl, rfl⟩)
               go_ret
               exact ⟨by rw [F.out]; rfl, bw⟩
             · have F := Lib.hid (F0.trans g3)
               clear F0 g3 EE
               go_wp2_with (go_at_call 34; (with_reducible refine (SK1 _).mono ?_); rintro e w2 ⟨rfl, rfl⟩)
               go_ret
               exact ⟨ret_int (by rw [F.out]; omega), bw⟩
           · have F0 := FE (d.extract 1 d.size) (by simpa using c3)
             clear FE DD c3
             rcases EE (d.extract 1 d.size) with ⟨g1, g2⟩ | ⟨g0, g1, g2, g3⟩ | ⟨g0, g1, g2, g3⟩
             · have F := Lib.hid (F0.trans g2)
               clear F0 g2 EE
               go_wp2_with (go_at_call 34; (with_reducible refine (SK1 _).mono ?_); rintro e w2 ⟨rfl, rfl⟩)
               go_ret
               exact ⟨by rw [F.out]; rfl, bw⟩
             · have F := Lib.hid (F0.trans g3)
               have g5 : 0 < d.size - 1 := by
                 have e9 : (d.extract 1 d.size).size = d.size - 1 := by rw [ByteArray.size_extract]; omega
                 omega
               have e9 : (d.extract 1 d.size).size = d.size - 1 := by rw [ByteArray.size_extract]; omega
               clear F0 g3 EE
               go_wp2_with (go_at_call 34; (with_reducible refine (SK1 _).mono ?_); rintro e w2 ⟨rfl, rfl⟩)
               go_ret
               exact ⟨by rw [F.out]; rfl, bw⟩
             · have F := Lib.hid (F0.trans g3)
               have g5 : 0 < d.size - 1 := by
                 have e9 : (d.extract 1 d.size).size = d.size - 1 := by rw [ByteArray.size_extract]; omega
                 omega
               have e9 : (d.extract 1 d.size).size = d.size - 1 := by rw [ByteArray.size_extract]; omega
               clear F0 g3 EE
               go_wp2_with (go_at_call 34; (with_reducible refine (SK1 _).mono ?_); rintro e w2 ⟨rfl, rfl⟩)
               go_ret
               exact ⟨ret_int (by rw [F.out]; omega), bw⟩))
end Go.Proofs.YtokhibghnpcogaaGreatDoor
