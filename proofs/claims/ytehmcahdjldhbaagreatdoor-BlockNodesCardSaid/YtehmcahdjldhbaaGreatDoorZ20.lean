/- Parts of this session's proof, one behind the other: E18 E19 E20 E21. -/
import Derived.Test.YtehmcahdjldhbaaGreatDoorZ19
import Derived.WalkMore
import Derived.Shelf.Strings.BuilderRune
import Derived.Shelf.Strings.BuilderF
import Derived.Shelf.Strings.BuilderK
import Derived.Test.YtehmcahdjldhbaaGreatDoorZ17
section
/- Package text: Clean. -/
open Go Go.RowKit
set_option linter.unusedVariables false
set_option linter.unusedSimpArgs false
set_option maxRecDepth 100000
namespace Go.Proofs.YtehmcahdjldhbaaGreatDoor
open Wk
namespace Tx
open Bk (TB writeString_any strCells_mk byteCells_app)
theorem bwrite_any (B b g off m c : Nat) (bs : List Value) (l : Bs) (w : World) (h : Lib.IsBuilder TB 5 B b bs w) (hl : l.length = m)
    (hc : ∀ j x, l[j]? = some x → w.cell? ⟨g, off + j, none⟩ = some (.int .u8 x.toNat)) (hg : g < B) (hlen : bs.length + m ≤ 140737488355328) (hBw : B ≤ w.heap.size) :
    Calls Tryz.prog 209 #[.pointer (some ⟨b, 0, none⟩), .slice (some ⟨g, off, none⟩) m c] w fun e w' => e = .returned (.tuple #[.int .i64 m, .nilIface]) ∧ Lib.IsBuilder TB 5 B b (bs ++ Lib.byteCells l) w' ∧ Below B w w' := by
  refine (Any7.Builder_Write (ρ' := Tryz.lays156_ren) wlays { Tryz.lays156 with } Tryz.Builder_Extra_156 rfl rfl rfl B b bs ⟨g, off, none⟩ m c (Lib.byteCells l) w h (by rw [Lib.byteCells_length]; exact hl) ?_ hg ?_ hlen hBw).mono ?_
  · intro j u hu
    unfold Lib.byteCells at hu
    rw [List.getElem?_map] at hu
    cases hx : l[j]? with
    | none => rw [hx] at hu; cases hu
    | some x =>
      rw [hx] at hu; cases hu
      have := hc j x hx
      rw [show (⟨g, off, none⟩ : Addr).add j = ⟨g, off + j, none⟩ from by unfold Addr.add; simp]
      exact this
  · intro u hu
    unfold Lib.byteCells at hu
    obtain ⟨x, _, rfl⟩ := List.mem_map.1 hu
    rfl
  · rintro e w' ⟨h1, h2, h3⟩
    exact ⟨h1, .inr h2, h3⟩
/-- How many bytes a text's first character is. -/
def wid (s : Bs) : Nat := (Lib.decodeGo (mk s)).2
theorem wid_pos (s : Bs) (h : s ≠ []) : 1 ≤ wid s := by
  unfold wid Lib.decodeGo
  have h0 : (mk s).size ≠ 0 := by rw [mk_size]; intro e; exact h (List.eq_nil_of_length_eq_zero e)
  rw [if_neg h0, Lib.decode_at]
  exact Lib.decodeN_ge1 _ _ _ _ _
theorem wid_le (s : Bs) : wid s ≤ s.length := by have := Lib.decodeGo_le_size (mk s); rw [mk_size] at this; exact this
/-- The first character, or the mark. -/
def cpiece (s : Bs) : Bs × Nat :=
  match s with
  | [] => ([], 1)
  | b :: t => if b = 0 ∨ (wid (b :: t) = 1 ∧ 128 ≤ b.toNat) then ([239, 191, 189], 1) else ((b :: t).take (wid (b :: t)), wid (b :: t))
def cleanN : Nat → Bs → Bs
  | 0, _ => []
  | n + 1, s => if s = [] then [] else (cpiece s).1 ++ cleanN n (s.drop (cpiece s).2)
/-- text.Clean. -/
def clean (s : Bs) : Bs := cleanN s.length s
theorem cpiece_pos (s : Bs) : 1 ≤ (cpiece s).2 := by
  cases s with
  | nil => exact Nat.le_refl _
  | cons b t =>
    by_cases h1 : b = 0 ∨ (wid (b :: t) = 1 ∧ 128 ≤ b.toNat)
    · rw [cpiece, if_pos h1]; exact Nat.le_refl _
    · rw [cpiece, if_neg h1]; exact wid_pos _ (by simp)
theorem cpiece_few (s : Bs) : (cpiece s).1.length ≤ 3 * (cpiece s).2 := by
  cases s with
  | nil => exact Nat.zero_le _
  | cons b t =>
    by_cases h1 : b = 0 ∨ (wid (b :: t) = 1 ∧ 128 ≤ b.toNat)
    · rw [cpiece, if_pos h1]; exact Nat.le_refl _
    · rw [cpiece, if_neg h1]
      have : ((b :: t).take (wid (b :: t))).length ≤ wid (b :: t) := by rw [List.length_take]; omega
      refine Nat.le_trans this ?_
      show wid (b :: t) ≤ 3 * wid (b :: t); omega
theorem cpiece_le (s : Bs) (h : s ≠ []) : (cpiece s).2 ≤ s.length := by
  cases s with
  | nil => exact absurd rfl h
  | cons b t =>
    by_cases h1 : b = 0 ∨ (wid (b :: t) = 1 ∧ 128 ≤ b.toNat)
    · rw [cpiece, if_pos h1]; simp
    · rw [cpiece, if_neg h1]; exact wid_le _
theorem cleanN_nil : ∀ n, cleanN n [] = []
  | 0 => rfl
  | n + 1 => by unfold cleanN; rw [if_pos rfl]
theorem cleanN_more : ∀ (k : Nat) (s : Bs), s.length ≤ k → cleanN (k + 1) s = cleanN k s
  | 0, s, h => by
    have : s = [] := List.eq_nil_of_length_eq_zero (by omega)
    subst this; rw [cleanN_nil, cleanN_nil]
  | k + 1, s, h => by
    have e1 : cleanN (k + 1 + 1) s = if s = [] then [] else (cpiece s).1 ++ cleanN (k + 1) (s.drop (cpiece s).2) := rfl
    have e2 : cleanN (k + 1) s = if s = [] then [] else (cpiece s).1 ++ cleanN k (s.drop (cpiece s).2) := rfl
    rw [e1, e2]
    have := cpiece_pos s
    rw [cleanN_more k _ (by rw [List.length_drop]; omega)]
theorem cleanN_all (s : Bs) : ∀ k, s.length ≤ k → cleanN k s = clean s := by
  intro k hk
  obtain ⟨d, rfl⟩ : ∃ d, k = s.length + d := ⟨k - s.length, by omega⟩
  induction d with
  | zero => rfl
  | succ d ih => rw [← Nat.add_assoc, cleanN_more _ s (by omega), ih (by omega)]
theorem clean_step (s : Bs) (h : s ≠ []) : clean s = (cpiece s).1 ++ clean (s.drop (cpiece s).2) := by
  have hp := cpiece_pos s
  rw [← cleanN_all s (s.length + 1) (by omega), cleanN, if_neg h, cleanN_all _ _ (by rw [List.length_drop]; omega)]
theorem cleanN_len : ∀ (k : Nat) (s : Bs), (cleanN k s).length ≤ 3 * s.length
  | 0, s => Nat.zero_le _
  | k + 1, s => by
    unfold cleanN
    split
    · exact Nat.zero_le _
    · rename_i h
      have h1 := cleanN_len k (s.drop (cpiece s).2)
      have h2 := cpiece_few s
      have h3 := cpiece_le s h
      rw [List.length_append]
      rw [List.length_drop] at h1
      omega
theorem clean_len (s : Bs) : (clean s).length ≤ 3 * s.length := cleanN_len _ _
set_option maxHeartbeats 16000000 in
theorem Clean_any (l : Bs) (g cap : Nat) (w : World) (hE : Env w) (hl : l.length ≤ 1000000000) (hg : g < w.heap.size)
    (hc : ∀ j x, l[j]? = some x → w.cell? ⟨g, j, none⟩ = some (.int .u8 x.toNat)) (hcap : l.length ≤ cap) :
    Calls Tryz.prog 188 #[.slice (some ⟨g, 0, none⟩) l.length cap] w fun e w' => e = .returned (.string (mk (clean l))) ∧ Below w.heap.size w w' := by
  have hb1 : Below w.heap.size w (w.alloc (.cells #[.pointer none, .slice none 0 0] TB)) := (Below.refl _ w).alloc (Nat.le_refl _) _
  have I0 : Lib.IsBuilder TB 5 w.heap.size w.heap.size [] (w.alloc (.cells #[.pointer none, .slice none 0 0] TB)) := .inl ⟨Nat.le_refl _, _, heap_alloc_new w _, World.ownsRow_nil _ _ _ _, by simp [Value.ownBlock]⟩
  have hR : Hid (clean l = clean l) := Lib.hid rfl
  generalize hR2 : clean l = R at *
  unfold TB at hb1 I0
  have e0 : ∀ b : UInt8, ((b.toNat : Int) == 0) = (b == 0) := fun b => beq_u8 b 0 (by decide)
  go_enter Tryz.func188, Tryz.ntmps188
  go_wp2
  refine wp_scope_straight ?_
  go_wp2
  refine wp_label ?_
  go_wp2
  go_loopw [0] (fun sv wr => ∃ (k o : Nat) (out : Bs), sv = .slice (some ⟨g, o, none⟩) (l.length - k) (cap - k) ∧ (k < l.length → o = k) ∧ k ≤ l.length ∧ Hid (out ++ clean (l.drop k) = R) ∧ out.length ≤ 3 * k ∧ Lib.IsBuilder TB 5 w.heap.size w.heap.size (Lib.byteCells out) wr ∧ Below w.heap.size w wr)
    (fun sv _ => match sv with | .slice _ n _ => n | _ => 0)
  case atStart => exact ⟨0, 0, [], by simp, fun _ => rfl, Nat.zero_le _, Lib.hid (by rw [List.nil_append]; exact hR2), Nat.zero_le _, I0, hb1⟩
  case round =>
    obtain ⟨k, o, out, rfl, ho, hk, hO, hol, hI, hb⟩ := hrel
    clear I0 hb1 hR hR2
    by_cases hlt : k < l.length
    · have hko := (ho hlt).symm
      clear ho
      subst hko
      have hne : l.drop k ≠ [] := by intro e; have := congrArg List.length e; simp at this; omega
      have hd := List.drop_eq_getElem_cons hlt
      have hc0 : wr.cell? ⟨g, k, none⟩ = some (.int .u8 l[k].toNat) := by rw [cell_far hb hg]; exact hc k _ (List.getElem?_eq_getElem hlt)
      have hcs : ∀ wr', Below w.heap.size w wr' → ∀ j x, (l.drop k)[j]? = some x → wr'.cell? ⟨g, k + j, none⟩ = some (.int .u8 x.toNat) := fun wr' hb' j x hx => by
        rw [List.getElem?_drop] at hx
        rw [cell_far hb' hg]; exact hc _ _ hx
      have hDR : ∀ wr', Env wr' → Below w.heap.size w wr' → Calls Tryz.prog 208 #[.slice (some ⟨g, k, none⟩) (l.length - k) (cap - k)] wr' fun e w' => e = .returned (.tuple #[.int .i32 (Lib.decodeGo (mk (l.drop k))).1, .int .i64 (wid (l.drop k))]) ∧ Below wr'.heap.size wr' w' := fun wr' hE' hb' => by
        have := decodeRune_any (mk (l.drop k)) g k (cap - k) wr' hE' (fun j hj => by
          rw [mk_size] at hj
          have hx : (l.drop k)[j]? = some (l.drop k)[j] := List.getElem?_eq_getElem hj
          rw [hcs wr' hb' j _ hx]
          have : (mk (l.drop k)).get! j = (l.drop k)[j] := by
            have h1 : j < (mk (l.drop k)).size := by rw [mk_size]; exact hj
            show (mk (l.drop k)).data[j]! = _
            have h2 : j < (l.drop k).toArray.size := by simpa using hj
            show (l.drop k).toArray[j]! = _
            have h3 := getElem!_pos (l.drop k).toArray j h2
            rw [h3]
            exact List.getElem_toArray ..
          rw [this])
        rw [mk_size, List.length_drop] at this
        exact this
      have hw1 := wid_pos _ hne
      have hw2 := wid_le (l.drop k)
      rw [List.length_drop] at hw2
      have hst := Lib.hid (clean_step _ hne)
      have hcp : Hid (cpiece (l.drop k) = if l[k] = 0 ∨ (wid (l.drop k) = 1 ∧ 128 ≤ l[k].toNat) then ([239, 191, 189], 1) else ((l.drop k).take (wid (l.drop k)), wid (l.drop k))) := by
        apply Lib.hid
        have e : ∀ q : Bs, q = l[k] :: l.drop (k + 1) → cpiece q = if l[k] = 0 ∨ (wid q = 1 ∧ 128 ≤ l[k].toNat) then ([239, 191, 189], 1) else (q.take (wid q), wid q) := by rintro q rfl; rfl
        exact e _ hd
      have hE1 := hE.below hb
      generalize hn : wid (l.drop k) = n at *
      generalize (Lib.decodeGo (mk (l.drop k))).1 = rr at *
      generalize l[k] = b at *
      clear hd hne
      have fin : ∀ (c : Bs) (m : Nat), cpiece (l.drop k) = (c, m) → m ≤ l.length - k → 1 ≤ m → c.length ≤ 3 * m → Hid ((out ++ c) ++ clean (l.drop (k + m)) = R) ∧ (out ++ c).length ≤ 3 * (k + m) ∧ k + m ≤ l.length ∧ Lib.byteCells out ++ Lib.byteCells c = Lib.byteCells (out ++ c) := by
        intro c m hp h1 h2 h3
        refine ⟨Lib.hid ?_, by rw [List.length_append]; omega, by omega, (byteCells_app _ _).symm⟩
        rw [← hO.out, hst.out, hp, List.drop_drop, List.append_assoc]
      have hlk : Hid (l.length - k - n = l.length - (k + n)) := by apply Lib.hid; omega
      have hgt : decide ((0 : Int) < ((l.length - k : Nat) : Int)) = true := decide_eq_true (by omega)
      by_cases q : b = 0 ∨ (n = 1 ∧ 128 ≤ b.toNat)
      · rw [if_pos q] at hcp
        obtain ⟨f1, f2, f3, f4⟩ := fin _ _ hcp.out (by omega) (by omega) (by decide)
        have WS : ∀ wr', Lib.IsBuilder TB 5 w.heap.size w.heap.size (Lib.byteCells out) wr' → Below w.heap.size w wr' → Calls Tryz.prog 92 #[.pointer (some ⟨w.heap.size, 0, none⟩), .string ⟨#[239, 191, 189]⟩] wr' fun e w' => e = .returned (.tuple #[.int .i64 3, .nilIface]) ∧ (Lib.IsBuilder TB 5 w.heap.size w.heap.size (Lib.byteCells (out ++ [239, 191, 189])) w' ∧ Below w.heap.size wr' w') := fun wr' h hbw => by
          have := writeString_any w.heap.size w.heap.size _ (mk [239, 191, 189]) wr' h (by rw [Lib.byteCells_length, mk_size]; simp only [List.length_cons, List.length_nil]; omega) hbw.size
          rw [strCells_mk, f4] at this
          exact this
        clear fin hst hcp hcs f4
        by_cases q0 : b = 0
        · have q1 : (b == 0) = true := by simpa using q0
          clear q q0
          go_wp2_with (first
            | (go_at_call 208; (with_reducible refine (hDR _ hE1 hb).mono ?_); rintro e w1 ⟨rfl, b1⟩; have hb1 := hb.trans (b1.mono hb.size); have I1 := bld_below hI b1; have hc1 : w1.cell? ⟨g, k, none⟩ = some (.int .u8 b.toNat) := by rw [← hc0]; exact cell_far b1 (Nat.lt_of_lt_of_le hg hb.size))
            | (go_at_call 92; (with_reducible refine (WS _ I1 hb1).mono ?_); rintro e w3 ⟨rfl, I3, b3⟩))
          refine ⟨⟨k + 1, if cap - k = 1 then k else k + 1, out ++ [239, 191, 189], ?_, fun h => ?_, f3, f1, f2, I3, hb1.trans b3⟩, ?_⟩
          · rw [Nat.sub_sub, Nat.sub_sub]; split <;> rfl
          · rw [if_neg (by omega)]
          · show l.length - k - 1 < l.length - k; omega
        · have q2 : n = 1 ∧ 128 ≤ b.toNat := q.resolve_left q0
          have q1 : (b == 0) = false := by simpa using q0
          have hn1 : ((n : Int) == 1) = true := by rw [beq_iff_eq]; omega
          have h128 : decide ((128 : Int) ≤ (b.toNat : Int)) = true := decide_eq_true (by omega)
          have hn0 := q2.1
          clear q q0 q2 hn
          subst hn0
          go_wp2_with (first
            | (go_at_call 208; (with_reducible refine (hDR _ hE1 hb).mono ?_); rintro e w1 ⟨rfl, b1⟩; have hb1 := hb.trans (b1.mono hb.size); have I1 := bld_below hI b1; have hc1 : w1.cell? ⟨g, k, none⟩ = some (.int .u8 b.toNat) := by rw [← hc0]; exact cell_far b1 (Nat.lt_of_lt_of_le hg hb.size))
            | (go_at_call 92; (with_reducible refine (WS _ I1 hb1).mono ?_); rintro e w3 ⟨rfl, I3, b3⟩))
          refine ⟨⟨k + 1, if cap - k = 1 then k else k + 1, out ++ [239, 191, 189], ?_, fun h => ?_, f3, f1, f2, I3, hb1.trans b3⟩, ?_⟩
          · rw [Nat.sub_sub, Nat.sub_sub]; split <;> rfl
          · rw [if_neg (by omega)]
          · show l.length - k - 1 < l.length - k; omega
      · rw [if_neg q] at hcp
        have hpl : ((l.drop k).take n).length ≤ 3 * n := by rw [List.length_take]; omega
        obtain ⟨f1, f2, f3, f4⟩ := fin _ _ hcp.out (by omega) (by omega) hpl
        have hpl2 : ((l.drop k).take n).length = n := by rw [List.length_take, List.length_drop]; omega
        have WS : ∀ wr', Lib.IsBuilder TB 5 w.heap.size w.heap.size (Lib.byteCells out) wr' → Below w.heap.size w wr' → Calls Tryz.prog 209 #[.pointer (some ⟨w.heap.size, 0, none⟩), .slice (some ⟨g, k, none⟩) n (cap - k)] wr' fun e w' => e = .returned (.tuple #[.int .i64 n, .nilIface]) ∧ Lib.IsBuilder TB 5 w.heap.size w.heap.size (Lib.byteCells (out ++ (l.drop k).take n)) w' ∧ Below w.heap.size wr' w' := fun wr' h hbw => by
          have := bwrite_any w.heap.size w.heap.size g k n (cap - k) _ ((l.drop k).take n) wr' h hpl2 (fun j x hx => hcs wr' hbw j x (by
            rw [List.getElem?_take] at hx
            split at hx
            · exact hx
            · cases hx)) hg (by rw [Lib.byteCells_length]; omega) hbw.size
          rw [f4] at this
          exact this
        have q0 : (b == 0) = false := by rw [beq_eq_false_iff_ne]; intro e; exact q (.inl e)
        have hq : n ≠ 1 ∨ (n = 1 ∧ b.toNat < 128) := by
          by_cases z : n = 1
          · exact .inr ⟨z, Nat.lt_of_not_le fun y => q (.inr ⟨z, y⟩)⟩
          · exact .inl z
        clear fin hst hcp hcs f4 q hn hpl
        rcases hq with hq | ⟨hq, hq2⟩
        · have hqn : ((n : Int) == 1) = false := by rw [beq_eq_false_iff_ne]; omega
          go_wp2_with (first
            | (go_at_call 208; (with_reducible refine (hDR _ hE1 hb).mono ?_); rintro e w1 ⟨rfl, b1⟩; have hb1 := hb.trans (b1.mono hb.size); have I1 := bld_below hI b1; have hc1 : w1.cell? ⟨g, k, none⟩ = some (.int .u8 b.toNat) := by rw [← hc0]; exact cell_far b1 (Nat.lt_of_lt_of_le hg hb.size))
            | (go_at_call 209; (with_reducible refine (WS _ I1 hb1).mono ?_); rintro e w3 ⟨rfl, I3, b3⟩))
          refine ⟨⟨k + n, if cap - k = n then k else k + n, out ++ (l.drop k).take n, ?_, fun h => ?_, f3, f1, f2, I3, hb1.trans b3⟩, ?_⟩
          · rw [Nat.sub_sub, Nat.sub_sub]; split <;> rfl
          · rw [if_neg (by omega)]
          · show l.length - k - n < l.length - k; omega
        · subst hq
          have h128 : decide ((128 : Int) ≤ (b.toNat : Int)) = false := decide_eq_false (by omega)
          have hDR1 : ∀ wr', Env wr' → Below w.heap.size w wr' → Calls Tryz.prog 208 #[.slice (some ⟨g, k, none⟩) (l.length - k) (cap - k)] wr' fun e w' => e = .returned (.tuple #[.int .i32 rr, .int .i64 1]) ∧ Below wr'.heap.size wr' w' := hDR
          go_wp2_with (first
            | (go_at_call 208; (with_reducible refine (hDR1 _ hE1 hb).mono ?_); rintro e w1 ⟨rfl, b1⟩; have hb1 := hb.trans (b1.mono hb.size); have I1 := bld_below hI b1; have hc1 : w1.cell? ⟨g, k, none⟩ = some (.int .u8 b.toNat) := by rw [← hc0]; exact cell_far b1 (Nat.lt_of_lt_of_le hg hb.size))
            | (go_at_call 209; (with_reducible refine (WS _ I1 hb1).mono ?_); rintro e w3 ⟨rfl, I3, b3⟩))
          all_goals
            refine ⟨⟨k + 1, if cap - k = 1 then k else k + 1, out ++ (l.drop k).take 1, ?_, fun h => ?_, f3, f1, f2, I3, hb1.trans b3⟩, ?_⟩
            · rw [Nat.sub_sub, Nat.sub_sub]; split <;> rfl
            · rw [if_neg (by omega)]
            · show l.length - k - 1 < l.length - k; omega
    · have hE2 : out = R := by
        have := hO.out; rw [List.drop_eq_nil_of_le (by omega)] at this
        rw [← this]; show out = out ++ []; rw [List.append_nil]
      have hz : l.length - k = 0 := by omega
      have BS := builderStr_any w.heap.size w.heap.size out wr hI hb.size
      have HE2 := Lib.hid hE2
      clear hO hE2 ho
      go_wp2_with (go_at_call 94; (with_reducible refine BS.mono ?_); rintro e w1 ⟨rfl, b1⟩)
      simp only [Exit.noGoto_ret]
      go_ret
      exact ⟨by rw [← HE2.out]; rfl, hb.trans b1⟩
end Tx
end Go.Proofs.YtehmcahdjldhbaaGreatDoor
end
section
/- strings.Builder's WriteRune, and its writing of texts beside it, laid at this seat by hand; package class: fold. -/
open Go Go.RowKit
set_option linter.unusedVariables false
set_option linter.unusedSimpArgs false
set_option maxRecDepth 100000
namespace Go.Proofs.YtehmcahdjldhbaaGreatDoor
open Wk
namespace Tx
open Bk (TB)
def rren : Go.Shelf.Ren := ⟨fun | 168 => 219 | 242 => 225 | 278 => 228 | 240 => 130 | 276 => 156 | 166 => 92 | 169 => 94 | n => n,
  fun | 37 => 118 | 46 => 99 | 51 => 174 | 70 => 117 | 72 => 120 | 75 => 122 | 76 => 123 | 80 => 92 | 164 => 161 | n => n, fun | n => n⟩
theorem rlays : Go.Proofs.Lays.n168 Tryz.prog rren := by
  constructor
  all_goals first
    | kernel_rfl
    | (intro w; kernel_rfl)
    | trace_state
theorem rextra : Builder.Extra Tryz.prog rren := { Tryz.Builder_Extra_156 with }
theorem slays : Go.Proofs.Lays.n166 Tryz.prog rren := by
  constructor
  all_goals first
    | kernel_rfl
    | (intro w; kernel_rfl)
    | trace_state
theorem swriteRune_any (B b : Nat) (bs : List Value) (r : Int) (w : World) (hr : -2147483648 ≤ r ∧ r ≤ 2147483647) (h : Lib.IsBuilderF TB 5 B b bs w) (hlen : bs.length + 4 ≤ 140737488355328) (hBw : B ≤ w.heap.size) :
    Calls Tryz.prog 219 #[.pointer (some ⟨b, 0, none⟩), .int .i32 r] w fun e w' => e = .returned (.tuple #[.int .i64 (Lib.runeCells r).length, .nilIface]) ∧ Lib.IsBuilderF TB 5 B b (bs ++ Lib.byteCells (Lib.encodeRune r)) w' ∧ Below B w w' ∧ Lib.OthersKept 5 (some b) w w' :=
  (Any.Builder_WriteRune_k rlays rextra B b bs r hr.1 hr.2 w h hlen hBw).mono fun e w' ⟨h1, h2, h3, h4⟩ => ⟨h1, by rw [Lib.byteCells_encodeRune]; exact .inr h2, h3, h4⟩
theorem swrite_any (B b : Nat) (bs : List Value) (s : ByteArray) (w : World) (h : Lib.IsBuilderF TB 5 B b bs w) (hlen : bs.length + s.size ≤ 140737488355328) (hBw : B ≤ w.heap.size) :
    Calls Tryz.prog 92 #[.pointer (some ⟨b, 0, none⟩), .string s] w fun e w' => e = .returned (.tuple #[.int .i64 s.size, .nilIface]) ∧ Lib.IsBuilderF TB 5 B b (bs ++ Lib.strCells s) w' ∧ Below B w w' ∧ Lib.OthersKept 5 (some b) w w' :=
  (Any.Builder_WriteString_k slays rextra B b bs s w h hlen hBw).mono fun e w' ⟨h1, h2, h3, h4⟩ => ⟨h1, .inr h2, h3, h4⟩
theorem sstring_any (B b : Nat) (l : Bs) (w : World) (h : Lib.IsBuilderF TB 5 B b (Lib.byteCells l) w) (hBw : B ≤ w.heap.size) :
    Calls Tryz.prog 94 #[.pointer (some ⟨b, 0, none⟩)] w fun e w' => e = .returned (.string (mk l)) ∧ Below B w w' := by
  by_cases h0 : l = []
  · subst h0
    exact (Any.Builder_String_empty_f (ρ := Tryz.lays156_ren) { Tryz.lays156 with } Tryz.Builder_Extra_156 B b w h hBw).mono fun e w' ⟨h1, _, h3⟩ => ⟨h1, h3⟩
  · exact (Any.Builder_String_f (ρ := Tryz.lays156_ren) { Tryz.lays156 with } Tryz.Builder_Extra_156 B b l w h h0).mono fun e w' ⟨h1, _, h3⟩ => ⟨h1, h3⟩
/-- A character without capitals: its number. -/
def foldI (r : Int) : Int :=
  if r = 962 then 963
  else if (65 ≤ r ∧ r ≤ 90) ∨ (192 ≤ r ∧ r ≤ 222 ∧ r ≠ 215) ∨ (913 ≤ r ∧ r ≤ 939 ∧ r ≠ 930) ∨ (1040 ≤ r ∧ r ≤ 1071) then r + 32
  else if 1024 ≤ r ∧ r ≤ 1039 then r + 80 else r
/-- class.fold. -/
def foldB (r : Int) : Bs := if r = 223 ∨ r = 7838 then [115, 115] else Lib.encodeRune (foldI r)
set_option maxHeartbeats 8000000 in
theorem fold_any (B b : Nat) (out : Bs) (r : Int) (hr : 0 ≤ r ∧ r ≤ 1114111) (w : World) (h : Lib.IsBuilderF TB 5 B b (Lib.byteCells out) w) (hlen : out.length ≤ 100000000000) (hBw : B ≤ w.heap.size) :
    Calls Tryz.prog 207 #[.pointer (some ⟨b, 0, none⟩), .int .i32 r] w fun e w' => e = .returned (.tuple #[]) ∧ Lib.IsBuilderF TB 5 B b (Lib.byteCells (out ++ foldB r)) w' ∧ Below B w w' ∧ Lib.OthersKept 5 (some b) w w' := by
  obtain ⟨hr0, hr1⟩ := hr
  have WR := fun (r' : Int) (h' : -2147483648 ≤ r' ∧ r' ≤ 2147483647) => swriteRune_any B b (Lib.byteCells out) r' w h' h (by rw [Lib.byteCells_length]; omega) hBw
  have WS : Calls Tryz.prog 92 #[.pointer (some ⟨b, 0, none⟩), .string ⟨#[115, 115]⟩] w fun e w' => e = .returned (.tuple #[.int .i64 2, .nilIface]) ∧ Lib.IsBuilderF TB 5 B b (Lib.byteCells out ++ Lib.byteCells [115, 115]) w' ∧ Below B w w' ∧ Lib.OthersKept 5 (some b) w w' := swrite_any B b (Lib.byteCells out) (mk [115, 115]) w h (by rw [Lib.byteCells_length, mk_size]; simp only [List.length_cons, List.length_nil]; omega) hBw
  have F : ∀ w', Lib.IsBuilderF TB 5 B b (Lib.byteCells out ++ Lib.byteCells (foldB r)) w' → Lib.IsBuilderF TB 5 B b (Lib.byteCells (out ++ foldB r)) w' := fun w' h => by rw [Bk.byteCells_app]; exact h
  have G : Hid (foldB r = if r = 223 ∨ r = 7838 then [115, 115] else Lib.encodeRune (foldI r)) := Lib.hid rfl
  have G2 : Hid (foldI r = if r = 962 then 963
    else if (65 ≤ r ∧ r ≤ 90) ∨ (192 ≤ r ∧ r ≤ 222 ∧ r ≠ 215) ∨ (913 ≤ r ∧ r ≤ 939 ∧ r ≠ 930) ∨ (1040 ≤ r ∧ r ≤ 1071) then r + 32
    else if 1024 ≤ r ∧ r ≤ 1039 then r + 80 else r) := Lib.hid rfl
  by_cases q1 : r = 223 ∨ r = 7838
  · have G := Lib.hid (G.out.trans (if_pos q1))
    rw [G.out] at F ⊢
    clear G2
    rcases q1 with rfl | rfl
    · go_enter Tryz.func207, Tryz.ntmps207
      go_wp2_with (go_at_call 92; (with_reducible refine WS.mono ?_); rintro e w1 ⟨rfl, h1, h2⟩)
      exact bodyPost_ret (results_none rfl _ _ _) rfl ⟨rfl, F _ h1, h2⟩
    · go_enter Tryz.func207, Tryz.ntmps207
      go_wp2_with (go_at_call 92; (with_reducible refine WS.mono ?_); rintro e w1 ⟨rfl, h1, h2⟩)
      exact bodyPost_ret (results_none rfl _ _ _) rfl ⟨rfl, F _ h1, h2⟩
  · have G := Lib.hid (G.out.trans (if_neg q1))
    have e1 : (r == 223) = false := by rw [beq_eq_false_iff_ne]; exact fun e => q1 (.inl e)
    have e2 : (r == 7838) = false := by rw [beq_eq_false_iff_ne]; exact fun e => q1 (.inr e)
    rw [G.out] at F ⊢
    have key : ∀ r', foldI r = r' → Calls Tryz.prog 219 #[.pointer (some ⟨b, 0, none⟩), .int .i32 r'] w fun e w' => e = .returned (.tuple #[.int .i64 (Lib.runeCells r').length, .nilIface]) ∧ Lib.IsBuilderF TB 5 B b (Lib.byteCells (out ++ Lib.encodeRune (foldI r))) w' ∧ Below B w w' ∧ Lib.OthersKept 5 (some b) w w' := fun r' e => by
      have hb : -2147483648 ≤ r' ∧ r' ≤ 2147483647 := by
        rw [← e, G2.out]; split; omega; split; omega; split; omega; omega
      refine (WR r' hb).mono fun e' w' ⟨h1, h2, h3⟩ => ⟨h1, F _ (by rw [e]; exact h2), h3⟩
    clear WS WR q1
    by_cases a1 : r = 962
    · have K := key _ (G2.out.trans (if_pos a1))
      subst a1
      clear G G2 key F
      go_enter Tryz.func207, Tryz.ntmps207
      go_wp2_with (go_at_call 219; (with_reducible refine K.mono ?_); rintro e w1 ⟨rfl, h1, h2⟩)
      go_end0
      exact ⟨rfl, h1, h2⟩
    · have G2 := G2.out.trans (if_neg a1)
      have e3 : (r == 962) = false := by rw [beq_eq_false_iff_ne]; exact a1
      by_cases a2 : (65 ≤ r ∧ r ≤ 90) ∨ (192 ≤ r ∧ r ≤ 222 ∧ r ≠ 215) ∨ (913 ≤ r ∧ r ≤ 939 ∧ r ≠ 930) ∨ (1040 ≤ r ∧ r ≤ 1071)
      · have K := key _ (G2.trans (if_pos a2))
        have a2 := Lib.hid a2
        clear G G2 key F
        go_enter Tryz.func207, Tryz.ntmps207
        go_wp2_with (go_at_call 219; (with_reducible refine K.mono ?_); rintro e w1 ⟨rfl, h1, h2⟩)
        all_goals first
          | (go_end0; exact ⟨rfl, h1, h2⟩)
          | (exfalso; have := a2.out; simp only [bne_iff_ne, beq_iff_eq, bne, Bool.not_eq_true', beq_eq_false_iff_ne, Bool.not_eq_false'] at *; omega)
          | trace_state
      · have G2 := G2.trans (if_neg a2)
        by_cases a3 : 1024 ≤ r ∧ r ≤ 1039
        · have K := key _ (G2.trans (if_pos a3))
          have a2 := Lib.hid a2
          clear G G2 key F
          obtain ⟨a4, a5⟩ := a3
          go_enter Tryz.func207, Tryz.ntmps207
          go_wp2_with (go_at_call 219; (with_reducible refine K.mono ?_); rintro e w1 ⟨rfl, h1, h2⟩)
          all_goals first
            | (go_end0; exact ⟨rfl, h1, h2⟩)
            | (exfalso; have := a2.out; simp only [bne_iff_ne, beq_iff_eq, bne, Bool.not_eq_true', beq_eq_false_iff_ne, Bool.not_eq_false'] at *; omega)
            | trace_state
        · have K := key _ (G2.trans (if_neg a3))
          have a2 := Lib.hid a2
          have a3 := Lib.hid a3
          clear G G2 key F
          go_enter Tryz.func207, Tryz.ntmps207
          go_wp2_with (go_at_call 219; (with_reducible refine K.mono ?_); rintro e w1 ⟨rfl, h1, h2⟩)
          all_goals first
            | (go_end0; exact ⟨rfl, h1, h2⟩)
            | (exfalso; have := a2.out; have := a3.out; simp only [bne_iff_ne, beq_iff_eq, bne, Bool.not_eq_true', beq_eq_false_iff_ne, Bool.not_eq_false'] at *; omega)
            | trace_state
end Tx
end Go.Proofs.YtehmcahdjldhbaaGreatDoor
end
section
/- Package text: Runes; package class: Fold, white, Label. -/
open Go Go.RowKit
set_option linter.unusedVariables false
set_option linter.unusedSimpArgs false
set_option maxRecDepth 100000
namespace Go.Proofs.YtehmcahdjldhbaaGreatDoor
open Wk
namespace Tx
open Bk (TB)
/-- text.Runes: the numbers of the characters. -/
def runesA (s : Bs) : Array Value := Conv.runesFrom (mk (clean s)) (mk (clean s)).size 0 #[]
def runes (s : Bs) : List Value := (runesA s).toList
theorem runes_len (s : Bs) : (runes s).length ≤ 3 * s.length := by
  have h1 := size_runesFrom (mk (clean s)) (mk (clean s)).size 0 #[]
  have h2 := clean_len s
  rw [mk_size] at h1
  have e0 : (#[] : Array Value).size = 0 := rfl
  rw [e0] at h1
  unfold runes runesA
  rw [mk_size, Array.length_toList]; omega
theorem runesFrom_all (s : ByteArray) : ∀ (n i : Nat) (acc : Array Value), (∀ v ∈ acc.toList, ∃ r : Int, v = .int .i32 r ∧ 0 ≤ r ∧ r ≤ 1114111) → ∀ v ∈ (Conv.runesFrom s n i acc).toList, ∃ r : Int, v = .int .i32 r ∧ 0 ≤ r ∧ r ≤ 1114111
  | 0, _, acc, h => h
  | n + 1, i, acc, h => by
    unfold Conv.runesFrom
    split
    · refine runesFrom_all s n _ _ ?_
      intro v hv
      rw [Array.toList_push, List.mem_append] at hv
      rcases hv with hv | hv
      · exact h v hv
      · rw [List.mem_singleton] at hv
        have := Lib.rune_le s i
        exact ⟨_, hv, Int.natCast_nonneg _, by show ((Utf8.decode s i).1 : Int) ≤ _; omega⟩
    · exact h
theorem runes_all (s : Bs) : ∀ v ∈ runes s, ∃ r : Int, v = .int .i32 r ∧ 0 ≤ r ∧ r ≤ 1114111 := runesFrom_all _ _ _ _ (by intro v hv; cases hv)
set_option maxHeartbeats 4000000 in
theorem Runes_any (l : Bs) (w : World) (hE : Env w) (hl : l.length ≤ 1000000000) :
    Calls Tryz.prog 206 #[.string (mk l)] w fun e w' => ∃ g cap : Nat, e = .returned (.slice (some ⟨g, 0, none⟩) (runes l).length cap) ∧ w.heap.size ≤ g ∧ g < w'.heap.size ∧ (∃ c, w'.heap[g]? = some (.cells c 21 (0, 0)) ∧ ∀ (j : Nat) v, (runes l)[j]? = some v → c[j]? = some v) ∧ Below w.heap.size w w' := by
  have kc := Lib.run_convert_string_bytes (P := Tryz.prog) w 9 118 5 (mk l) Tryz.underlying9 Tryz.underlying118 Tryz.underlying5
  have hB := Bytes.conv w (mk l)
  have hb := Lib.bytesWorld_below w 5 (mk l)
  have hzz := Lib.bytesWorld_size w 5 (mk l)
  have hcap : (mk l).size ≤ grownCap w (mk l).size 0 5 := grownCap_ge ..
  generalize Lib.bytesWorld w 5 (mk l) = w1 at *
  generalize grownCap w (mk l).size 0 5 = cap at *
  have hCL : Calls Tryz.prog 188 #[.slice (some ⟨w.heap.size, 0, none⟩) (mk l).size cap] w1 fun e w' => e = .returned (.string (mk (clean l))) ∧ Below w1.heap.size w1 w' := by
    have := Clean_any l w.heap.size cap w1 (hE.below hb) hl (by omega) (fun j x hx => by
      obtain ⟨hj, rfl⟩ := List.getElem?_eq_some_iff.1 hx
      exact hB.cell j hj) (by rw [mk_size] at hcap; exact hcap)
    rw [← mk_size] at this
    exact this
  have h46 : (Conv.runesFrom (mk (clean l)) (mk (clean l)).size 0 #[]).size ≤ 70368744177664 := by
    have := runes_len l
    unfold runes runesA at this
    rw [Array.length_toList] at this; omega
  have KR := fun w2 => run_runes_of_string (P := Tryz.prog) w2 9 202 21 (mk (clean l)) Tryz.underlying9 Tryz.underlying202 Tryz.underlying21 h46
  have hRA : runesA l = Conv.runesFrom (mk (clean l)) (mk (clean l)).size 0 #[] := rfl
  rw [← hRA] at KR
  have hsz : (runesA l).size = (runes l).length := by unfold runes; rw [Array.length_toList]
  have hat : ∀ j v, (runes l)[j]? = some v → (runesA l)[j]? = some v := fun j v h => by unfold runes at h; rwa [Array.getElem?_toList] at h
  clear hRA
  generalize runesA l = RA at *
  rw [hsz] at KR
  go_enter Tryz.func206, Tryz.ntmps206
  go_wp2_with (go_at_call 188; (with_reducible refine hCL.mono ?_); rintro e w2 ⟨rfl, b2⟩; have kr := KR w2)
  go_ret
  have b3 := hb.trans (b2.mono hb.size)
  refine ⟨_, _, rfl, b3.size, ?_, ?_, ?_⟩
  · show w2.heap.size < (w2.heap.push _).size
    rw [Array.size_push]; omega
  · have hn := heap_alloc_new w2 (.cells (RA ++ Array.replicate (grownCap w2 (runes l).length 0 21 - (runes l).length) (.int .i32 0)) 21)
    refine ⟨_, hn, ?_⟩
    intro j v hj
    have hv := hat j v hj
    have hjl := (List.getElem?_eq_some_iff.1 hj).1
    rw [Array.getElem?_append_left (by omega)]; exact hv
  · exact (b3.alloc b3.size _).drew
/-- class.white. -/
def whiteI (x : Int) : Bool := decide (x = 32 ∨ (9 ≤ x ∧ x ≤ 13))
set_option maxHeartbeats 2000000 in
theorem white_any (r : Int) (w : World) :
    Calls Tryz.prog 189 #[.int .i32 r] w fun e w' => e = .returned (.bool (whiteI r)) ∧ w' = w := by
  go_enter Tryz.func189, Tryz.ntmps189
  go_wp2
  all_goals
    go_ret
    refine ⟨?_, rfl⟩
    show Ending.returned (.bool _) = Ending.returned (.bool _)
    congr 2
    unfold whiteI
    rw [Bool.eq_iff_iff]
    simp
    try omega
/-- class.Fold. -/
def foldS (s : Bs) : Bs := (runes s).flatMap fun v => foldB (Lib.intOf v)
theorem foldB_len (r : Int) : (foldB r).length ≤ 4 := by
  unfold foldB
  split
  · decide
  · unfold Lib.encodeRune Lib.encodeRuneZ
    rw [List.length_map]
    split; exact (by simp)
    split; exact (by simp)
    split; exact (by simp)
    split <;> exact (by simp)
theorem bldF_below {T e B b : Nat} {bs : List Value} {w w1 : World} (h : Lib.IsBuilderF T e B b bs w) (hb : Below w.heap.size w w1) : Lib.IsBuilderF T e B b bs w1 := by
  have own : ∀ {v}, w.ownsRowF B e 1 v bs.length bs → w1.ownsRowF B e 1 v bs.length bs := by
    intro v h
    refine ⟨h.1, ?_⟩
    rcases h.2 with ⟨rfl, h0⟩ | ⟨g, cap, cur, fz, rfl, hB, hg, r⟩
    · exact .inl ⟨rfl, h0⟩
    · exact .inr ⟨g, cap, cur, fz, rfl, hB, Bk.blk_below' hg hb, r⟩
  rcases h with ⟨hB, v, h1, h2, h3⟩ | ⟨hB, v, h1, h2, h3⟩
  · exact .inl ⟨hB, v, Bk.blk_below' h1 hb, own h2, h3⟩
  · exact .inr ⟨hB, v, Bk.blk_below' h1 hb, own h2, h3⟩
set_option maxHeartbeats 8000000 in
theorem Fold_any (l : Bs) (w : World) (hE : Env w) (hl : l.length ≤ 1000000000) :
    Calls Tryz.prog 186 #[.string (mk l)] w fun e w' => e = .returned (.string (mk (foldS l))) ∧ Below w.heap.size w w' := by
  have hb1 : Below w.heap.size w (w.alloc (.cells #[.pointer none, .slice none 0 0] TB)) := (Below.refl _ w).alloc (Nat.le_refl _) _
  have I0 : Lib.IsBuilderF TB 5 w.heap.size w.heap.size [] (w.alloc (.cells #[.pointer none, .slice none 0 0] TB)) := Lib.IsBuilderF.of (.inl ⟨Nat.le_refl _, _, heap_alloc_new w _, World.ownsRow_nil _ _ _ _, by simp [Value.ownBlock]⟩)
  have hRU := fun wr (h : Below w.heap.size w wr) => Runes_any l wr (hE.below h) hl
  have hrl := runes_len l
  have hra := runes_all l
  unfold foldS
  generalize hR2 : (runes l).flatMap (fun v => foldB (Lib.intOf v)) = R at *
  generalize runes l = rs at *
  unfold TB at hb1 I0
  go_enter Tryz.func186, Tryz.ntmps186
  go_wp2_with (go_at_call 206; (with_reducible refine (hRU _ hb1).mono ?_); rintro e w2 ⟨g, cap, rfl, hg1, hg2, ⟨cc, hcc, hcv⟩, b2⟩)
  have I2 := bldF_below I0 b2
  have b3 := hb1.trans (b2.mono hb1.size)
  go_loopw [9] (fun kv wr => ∃ (k : Nat) (out : Bs), kv = .int .i64 k ∧ k ≤ rs.length ∧ Hid (out ++ (rs.drop k).flatMap (fun v => foldB (Lib.intOf v)) = R) ∧ out.length ≤ 4 * k ∧ Lib.IsBuilderF TB 5 w.heap.size w.heap.size (Lib.byteCells out) wr ∧ Lib.OthersKept 5 (some w.heap.size) w2 wr ∧ Below w.heap.size w wr)
    (fun kv _ => rs.length - (Lib.intOf kv).toNat)
  case atStart => exact ⟨0, [], rfl, Nat.zero_le _, Lib.hid (by rw [List.nil_append]; exact hR2), Nat.zero_le _, I2, Lib.OthersKept.refl _ _ _, b3⟩
  case round =>
    obtain ⟨k, out, rfl, hk, hO, hol, hI, hOK, hb⟩ := hrel
    clear I0 hb1 I2 b3
    by_cases hlt : k < rs.length
    · have hd := List.drop_eq_getElem_cons hlt
      obtain ⟨r, hr, hr0, hr1⟩ := hra rs[k] (List.getElem_mem hlt)
      have hc0 : wr.cell? ⟨g, k, none⟩ = some (.int .i32 r) := by
        have h1 := hOK g _ hcc (by
          intro e
          have := Option.some.inj e
          have h2 : (w.alloc (.cells #[.pointer none, .slice none 0 0] TB)).heap.size = w.heap.size + 1 := by show (w.heap.push _).size = _; rw [Array.size_push]
          unfold TB at h2
          omega) (by rintro c fz h; cases h)
        unfold World.cell?
        dsimp only
        rw [h1]
        exact (hcv k _ (List.getElem?_eq_getElem hlt)).trans (congrArg some hr)
      have hst : Hid ((out ++ foldB r) ++ (rs.drop (k + 1)).flatMap (fun v => foldB (Lib.intOf v)) = R) := by
        apply Lib.hid
        rw [← hO.out, hd, List.flatMap_cons, hr, List.append_assoc]; rfl
      have hl2 : (out ++ foldB r).length ≤ 4 * (k + 1) := by
        have := foldB_len r; rw [List.length_append]; omega
      have hF := fold_any w.heap.size w.heap.size out r ⟨hr0, hr1⟩ wr hI (by omega) hb.size
      clear hd hr
      go_wp2_with (go_at_call 207; (with_reducible refine hF.mono ?_); rintro e w1 ⟨rfl, I1, bb, ok⟩)
      go_roundw
      case rel => exact ⟨k + 1, out ++ foldB r, by go_num, by omega, hst, hl2, I1, hOK.trans ok, hb.trans bb⟩
      case measure => simp [Lib.intOf]; omega
    · have hE2 : out = R := by
        have := hO.out; rw [List.drop_eq_nil_of_le (by omega)] at this
        rw [← this]; show out = out ++ []; rw [List.append_nil]
      have hkk : k = rs.length := by omega
      subst hkk
      have BS := sstring_any w.heap.size w.heap.size out wr hI hb.size
      have HE2 := Lib.hid hE2
      clear hO hE2
      go_wp2_with (go_at_call 94; (with_reducible refine BS.mono ?_); rintro e w1 ⟨rfl, b1⟩)
      go_ret
      exact ⟨by rw [← HE2.out]; rfl, hb.trans b1⟩
/-- The spans' bytes and their number are no more than the text's, and one. -/
def spanSum : List (Nat × Nat) → Nat
  | [] => 0
  | x :: t => (x.2 - x.1 + 1) + spanSum t
theorem spanSum_app : ∀ (a b : List (Nat × Nat)), spanSum (a ++ b) = spanSum a + spanSum b
  | [], b => by simp [spanSum]
  | x :: t, b => by rw [List.cons_append, spanSum, spanSum, spanSum_app t b]; omega
theorem spans_sum (p : Nat → Bool) (s : ByteArray) : ∀ (f pos : Nat) (st : Option Nat) (acc : List (Nat × Nat)), spanSum acc ≤ st.getD pos → st.getD 0 ≤ pos → (∀ a, st = some a → a < s.size) → spanSum acc ≤ s.size + 1 →
    spanSum (Lib.closeSpans s (Lib.spansFromP p s f pos st acc)) ≤ s.size + 1
  | 0, pos, st, acc, h1, h2, h3, h4 => by
    cases st with
    | none => exact h4
    | some a =>
      have := h3 a rfl
      have h1 : spanSum acc ≤ a := h1
      show spanSum (acc ++ [(a, s.size)]) ≤ _
      rw [spanSum_app]; simp only [spanSum]; omega
  | f + 1, pos, st, acc, h1, h2, h3, h4 => by
    unfold Lib.spansFromP
    have hw := Lib.width_pos s pos
    split
    · rename_i hp
      split
      · cases st with
        | none =>
          have h1 : spanSum acc ≤ pos := h1
          exact spans_sum p s f _ none acc (by show spanSum acc ≤ pos + _; omega) (Nat.zero_le _) (fun a e => by cases e) h4
        | some a =>
          have h1 : spanSum acc ≤ a := h1
          have h2 : a ≤ pos := h2
          have e : spanSum (acc ++ [(a, pos)]) = spanSum acc + (pos - a + 1) := by rw [spanSum_app]; simp only [spanSum]; try omega
          exact spans_sum p s f _ none _ (by show _ ≤ pos + _; omega) (Nat.zero_le _) (fun a e => by cases e) (by omega)
      · cases st with
        | none =>
          have h1 : spanSum acc ≤ pos := h1
          exact spans_sum p s f _ (some pos) acc h1 (by show pos ≤ _; omega) (fun a e => by cases e; exact hp) h4
        | some a =>
          have h2 : a ≤ pos := h2
          exact spans_sum p s f _ (some a) acc h1 (by show a ≤ _; omega) h3 h4
    · cases st with
      | none => exact h4
      | some a =>
        have := h3 a rfl
        have h1 : spanSum acc ≤ a := h1
        show spanSum (acc ++ [(a, s.size)]) ≤ _
        rw [spanSum_app]; simp only [spanSum]; omega
theorem joinTail_len (sep : Bs) (hs : sep.length ≤ 1) (s : ByteArray) : ∀ r : List (Nat × Nat), (Lib.joinTail sep ((r.map fun x => s.extract x.1 x.2).map (·.data.toList))).length ≤ spanSum r
  | [] => Nat.zero_le _
  | x :: t => by
    have ih := joinTail_len sep hs s t
    unfold Lib.joinTail at ih ⊢
    rw [List.map_cons, List.map_cons, List.map_cons, List.flatten_cons, List.length_append, List.length_append]
    have h1 : (s.extract x.1 x.2).data.toList.length ≤ x.2 - x.1 := by
      have e1 := Sc.len_size (s.extract x.1 x.2)
      rw [ByteArray.size_extract] at e1; omega
    simp only [spanSum]
    omega
theorem join_len (sep : Bs) (hs : sep.length ≤ 1) (s : ByteArray) (r : List (Nat × Nat)) : (Lib.join ((r.map fun x => s.extract x.1 x.2).map (·.data.toList)) sep).length ≤ spanSum r := by
  cases r with
  | nil => exact Nat.zero_le _
  | cons x t =>
    have ih := joinTail_len sep hs s t
    rw [List.map_cons, List.map_cons, Lib.join_cons, List.length_append]
    have h1 : (s.extract x.1 x.2).data.toList.length ≤ x.2 - x.1 := by
      have e1 := Sc.len_size (s.extract x.1 x.2)
      rw [ByteArray.size_extract] at e1; omega
    simp only [spanSum]
    omega
theorem spanSum_len : ∀ r : List (Nat × Nat), r.length ≤ spanSum r
  | [] => Nat.zero_le _
  | x :: t => by have := spanSum_len t; simp only [spanSum, List.length_cons]; omega
/-- The fields. -/
def fields (s : Bs) : List ByteArray := Lib.goFieldsP (fun x => whiteI x) (mk (clean s))
def joined (s : Bs) : Bs := Lib.join ((fields s).map (·.data.toList)) [32]
theorem fields_sum (s : Bs) : (fields s).length ≤ 3 * s.length + 1 ∧ (joined s).length ≤ 3 * s.length + 1 := by
  have h0 := spans_sum (fun x => whiteI x) (mk (clean s)) (mk (clean s)).size 0 none [] (Nat.le_refl 0) (Nat.le_refl 0) (fun a e => by cases e) (Nat.zero_le _)
  have h1 := clean_len s
  have h2 := mk_size (clean s)
  constructor
  · unfold fields Lib.goFieldsP Lib.spansOfP
    rw [List.length_map]
    exact Nat.le_trans (spanSum_len _) (by omega)
  · unfold joined fields Lib.goFieldsP Lib.spansOfP
    exact Nat.le_trans (join_len [32] (by decide) _ _) (by omega)
/-- class.Label. -/
def label (s : Bs) : Bs := foldS (joined s)
theorem fields_any (s : Bs) (w : World) (hs : s.length ≤ 100000000) :
    Calls Tryz.prog 187 #[.string (mk (clean s)), .func (.func 189) #[] #[]] w fun e w' => ∃ A, e = .returned (.slice (some ⟨A, 0, none⟩) (fields s).length (fields s).length) ∧ w.heap.size ≤ A ∧ A < w'.heap.size ∧ (∀ (j : Nat) x, (fields s)[j]? = some x → w'.cell? ⟨A, j, none⟩ = some (.string x)) ∧ Below w.heap.size w w' := by
  have h1 := clean_len s
  refine (Tryz.strings_FieldsFunc_runes 189 #[] (enters_of Tryz.func189 (by kernel_rfl) rfl) (fun x => whiteI x) (mk (clean s)) w (by rw [mk_size]; omega) ?_).mono ?_
  · intro W x hx hb
    exact (white_any x W).mono fun e w' ⟨h1, h2⟩ => ⟨h1, 0, h2⟩
  · rintro e w' ⟨A, h1, h2, h3, h4⟩
    refine ⟨A, h1, h2, ?_, ?_, h4⟩
    · rcases h3.2 with ⟨h0, _⟩ | ⟨g, cap, cur, h0, _, hg, _⟩
      · cases h0
      · injection h0 with h0 _ _
        injection h0 with h0
        injection h0 with h0
        rw [h0]
        exact Bk.blk_lt hg
    · intro j x hx
      have := h3.cells (g := A) rfl j (.string x) (by
        show ((fields s).map Value.string)[j]? = _
        rw [List.getElem?_map, hx]; rfl)
      have ea : (⟨A, 0, none⟩ : Addr).add j = ⟨A, j, none⟩ := by unfold Addr.add; split <;> simp_all
      rwa [ea] at this
set_option maxHeartbeats 4000000 in
theorem ClassLabel_any (l : Bs) (w : World) (hE : Env w) (hl : l.length ≤ 10000000) :
    Calls Tryz.prog 161 #[.string (mk l)] w fun e w' => e = .returned (.string (mk (label l))) ∧ Below w.heap.size w w' := by
  have kc := Lib.run_convert_string_bytes (P := Tryz.prog) w 9 118 5 (mk l) Tryz.underlying9 Tryz.underlying118 Tryz.underlying5
  have hB := Bytes.conv w (mk l)
  have hb := Lib.bytesWorld_below w 5 (mk l)
  have hzz := Lib.bytesWorld_size w 5 (mk l)
  have hcap : (mk l).size ≤ grownCap w (mk l).size 0 5 := grownCap_ge ..
  generalize Lib.bytesWorld w 5 (mk l) = w1 at *
  generalize grownCap w (mk l).size 0 5 = cap at *
  have hCL : Calls Tryz.prog 188 #[.slice (some ⟨w.heap.size, 0, none⟩) (mk l).size cap] w1 fun e w' => e = .returned (.string (mk (clean l))) ∧ Below w1.heap.size w1 w' := by
    have := Clean_any l w.heap.size cap w1 (hE.below hb) (by omega) (by omega) (fun j x hx => by
      obtain ⟨hj, rfl⟩ := List.getElem?_eq_some_iff.1 hx
      exact hB.cell j hj) (by rw [mk_size] at hcap; exact hcap)
    rw [← mk_size] at this
    exact this
  have hFF := fun w' => fields_any l w' (by omega)
  obtain ⟨hf1, hf2⟩ := fields_sum l
  have hJ : ∀ (A : Nat) (w' : World), A < w'.heap.size → (∀ (j : Nat) x, (fields l)[j]? = some x → w'.cell? ⟨A, j, none⟩ = some (.string x)) → Calls Tryz.prog 97 #[.slice (some ⟨A, 0, none⟩) (fields l).length (fields l).length, .string ⟨#[32]⟩] w' fun e w'' => e = .returned (.string (mk (joined l))) ∧ Below w'.heap.size w' w'' := fun A w' hA hc =>
    Tryz.strings_Join A 0 (fields l).length (fields l) ⟨#[32]⟩ w' (by intro j x hx; rw [Nat.zero_add]; exact hc j x hx) hA (by omega) (Nat.le_refl _) (by show (joined l).length ≤ _; omega)
  have hFo := fun w' (h : Below w.heap.size w w') => Fold_any (joined l) w' (hE.below h) (by omega)
  unfold label
  generalize joined l = J at *
  generalize fields l = FS at *
  generalize clean l = C at *
  clear hf1 hf2
  go_enter Tryz.func161, Tryz.ntmps161
  go_wp2_with (first
    | (go_at_call 188; (with_reducible refine hCL.mono ?_); rintro e w2 ⟨rfl, b2⟩; have b3 := hb.trans (b2.mono hb.size))
    | (go_at_call 187; (with_reducible refine (hFF w2).mono ?_); rintro e w3 ⟨A, rfl, hA1, hA2, hcs, b4⟩; have b5 := b3.trans (b4.mono b3.size))
    | (go_at_call 97; (with_reducible refine (hJ A w3 hA2 hcs).mono ?_); rintro e w4 ⟨rfl, b6⟩; have b7 := b5.trans (b6.mono b5.size))
    | (go_at_call 186; (with_reducible refine (hFo w4 b7).mono ?_); rintro e w5 ⟨rfl, b8⟩))
  go_ret
  exact ⟨rfl, b7.trans (b8.mono b7.size)⟩
end Tx
end Go.Proofs.YtehmcahdjldhbaaGreatDoor
end
section
/- Package refs: gap, end, titled. -/
open Go Go.RowKit
set_option linter.unusedVariables false
set_option linter.unusedSimpArgs false
set_option maxRecDepth 100000
namespace Go.Proofs.YtehmcahdjldhbaaGreatDoor
open Wk
namespace Tx
theorem ext_take (s : ByteArray) (k : Nat) : s.extract 0 k = mk (s.data.toList.take k) := mk_of (Sc.take_data s k)
theorem ext_drop (s : ByteArray) (k : Nat) : s.extract k s.size = mk (s.data.toList.drop k) := mk_of (Sc.drop_data s k)
/-- refs.gap. -/
def rgapB (l : Bs) : Bool := decide (Lib.countByte (l.take (whiteN l)) 10 ≤ 1)
theorem rgap_any (s : ByteArray) (w : World) (hs : s.size ≤ 4000000000) :
    Calls Tryz.prog 159 #[.string s] w fun e w' => e = .returned (.tuple #[.int .i64 (whiteN s.data.toList), .bool (rgapB s.data.toList)]) ∧ Below w.heap.size w w' := by
  have WH := White_any s w hs
  have hle := whiteN_le s.data.toList
  rw [Sc.len_size] at hle
  have CO := fun w' => Tryz.strings_Count_one (s.extract 0 (whiteN s.data.toList)) 10 w'
  rw [Sc.take_data] at CO
  unfold rgapB
  generalize Lib.countByte (s.data.toList.take (whiteN s.data.toList)) 10 = c at *
  generalize whiteN s.data.toList = n at *
  go_enter Tryz.func159, Tryz.ntmps159
  go_wp2_with (first
    | (go_at_call 183; (with_reducible refine WH.mono ?_); rintro e w1 ⟨rfl, b1⟩)
    | (go_at_call 119; (with_reducible refine (CO w1).mono ?_); rintro e w2 ⟨rfl, rfl⟩))
  go_ret2
  refine ⟨?_, b1⟩
  show Ending.returned (.tuple #[.int .i64 n, .bool (decide ((c : Int) ≤ 1))]) = _
  rw [show decide ((c : Int) ≤ 1) = decide (c ≤ 1) from decide_eq_decide.2 (by omega)]
/-- refs.end. -/
def rend (l : Bs) : Nat × Bool :=
  match Lib.trimLeftS l [32, 9] with
  | [] => (l.length, true)
  | b :: t => if b = 10 then (l.length - (t.length + 1) + 1, true) else (0, false)
theorem rend_le (l : Bs) : (rend l).1 ≤ l.length := by
  have : (Lib.trimLeftS l [32, 9]).length ≤ l.length := Sc.len_dropWhile _
  unfold rend
  split
  · exact Nat.le_refl _
  · rename_i b t e
    rw [e, List.length_cons] at this
    split
    · show _ - _ + 1 ≤ _; omega
    · exact Nat.zero_le _
theorem rend_any (s : ByteArray) (w : World) (hs : s.size ≤ 4000000000) :
    Calls Tryz.prog 163 #[.string s] w fun e w' => e = .returned (.tuple #[.int .i64 (rend s.data.toList).1, .bool (rend s.data.toList).2]) ∧ Below w.heap.size w w' := by
  have TL : Calls Tryz.prog 88 #[.string s, .string ⟨#[32, 9]⟩] w fun e w' => e = .returned (.string (mk (Lib.trimLeftS s.data.toList [32, 9]))) ∧ Below w.heap.size w w' :=
    Tryz.strings_TrimLeft_set s ⟨#[32, 9]⟩ w (by decide) (by
      intro j b h
      match j, h with
      | 0, h => cases h; decide
      | 1, h => cases h; decide
      | j + 2, h => cases h)
  have hlen : (Lib.trimLeftS s.data.toList [32, 9]).length ≤ s.size := by
    have : (Lib.trimLeftS s.data.toList [32, 9]).length ≤ s.data.toList.length := Sc.len_dropWhile _
    rwa [Sc.len_size] at this
  have hR : Hid (rend s.data.toList = match Lib.trimLeftS s.data.toList [32, 9] with
    | [] => (s.size, true)
    | b :: t => if b = 10 then (s.size - (t.length + 1) + 1, true) else (0, false)) := by
      apply Lib.hid; unfold rend; rw [Sc.len_size]
  generalize rend s.data.toList = R at *
  generalize Lib.trimLeftS s.data.toList [32, 9] = T at *
  have hsub : s.size < 9223372036854775808 := by omega
  cases T with
  | nil =>
    have hR := Lib.hid hR.out
    obtain ⟨r, hr⟩ : ∃ r, mk [] = r := ⟨_, rfl⟩
    rw [hr] at TL
    have he : r.toList.isEmpty = true := by rw [← hr, mk_toList]; rfl
    have hz : r.size = 0 := by rw [← hr]; rfl
    have hw : wrap64 ((s.size : Int) - r.size) = (s.size : Int) := by rw [hz]; unfold wrap64; omega
    clear hr hlen hz
    go_enter Tryz.func163, Tryz.ntmps163
    go_wp2_with (go_at_call 88; (with_reducible refine TL.mono ?_); rintro e w1 ⟨rfl, b1⟩)
    go_ret2
    exact ⟨by rw [hR.out, hw]; rfl, b1⟩
  | cons b t =>
    rw [List.length_cons] at hlen
    obtain ⟨r, hr⟩ : ∃ r, mk (b :: t) = r := ⟨_, rfl⟩
    rw [hr] at TL
    have he : r.toList.isEmpty = false := by rw [← hr, mk_toList]; rfl
    have hz : 0 < r.size := by rw [← hr, mk_size, List.length_cons]; omega
    have hb : r[0] = b := by
      have : ∀ x, mk (b :: t) = x → ∀ h : 0 < x.size, x[0] = b := by rintro x rfl h; rfl
      exact this r hr hz
    have hw : Hid (wrap64 ((s.size : Int) - r.size) = ((s.size - (t.length + 1) : Nat) : Int)) := by
      apply Lib.hid
      rw [← hr, mk_size, List.length_cons]; unfold wrap64; omega
    by_cases q : b = 10
    · subst q
      have hR := Lib.hid (hR.out.trans (if_pos rfl))
      have hq : ((r[0].toNat : Int) == 10) = true := by rw [hb]; rfl
      have hl := Lib.hid hlen
      clear hr hlen hb
      go_enter Tryz.func163, Tryz.ntmps163
      go_wp2_with (go_at_call 88; (with_reducible refine TL.mono ?_); rintro e w1 ⟨rfl, b1⟩)
      go_ret2
      refine ⟨?_, b1⟩
      rw [hR.out]
      have := hl.out
      have hw := hw.out
      show Ending.returned (.tuple #[.int .i64 (wrap64 (wrap64 ((s.size : Int) - r.size) + 1)), .bool true]) = _
      rw [hw, show wrap64 (((s.size - (t.length + 1) : Nat) : Int) + 1) = ((s.size - (t.length + 1) + 1 : Nat) : Int) from by unfold wrap64; omega, if_pos trivial]
    · have hR := Lib.hid (hR.out.trans (if_neg q))
      have hq : ((r[0].toNat : Int) == 10) = false := by
        rw [hb, beq_eq_false_iff_ne]; intro e; apply q; apply UInt8.toNat_inj.1; show b.toNat = 10; omega
      clear hr hlen hb
      go_enter Tryz.func163, Tryz.ntmps163
      go_wp2_with (go_at_call 88; (with_reducible refine TL.mono ?_); rintro e w1 ⟨rfl, b1⟩)
      go_ret2
      exact ⟨by rw [hR.out]; rfl, b1⟩
section
variable (U : Bs → Bs)
/-- refs.titled. -/
def titled (l : Bs) : Bs × Nat × Bool :=
  if rgapB l = false ∨ whiteN l = 0 then ([], 0, false) else
  let t := title U (l.drop (whiteN l))
  if t.2 = 0 then ([], 0, false) else
  let e := rend (l.drop (whiteN l + t.2))
  (t.1, whiteN l + t.2 + e.1, e.2)
theorem title_le (l : Bs) : (title U l).2 ≤ l.length := by
  unfold title
  split
  · exact Nat.zero_le _
  · dsimp only
    have h1 := eachG_le (stopT (closing l)) () (l.drop 1)
    generalize hk : (eachG (stopT (closing l)) () (l.drop 1)).1 = k at *
    split
    · rename_i b r hd
      have := congrArg List.length hd
      rw [List.length_drop, List.length_drop, List.length_cons] at this
      split
      · exact Nat.zero_le _
      · show k + 2 ≤ _; omega
    · exact Nat.zero_le _
theorem titled_le (l : Bs) : (titled U l).2.1 ≤ l.length := by
  unfold titled
  split
  · exact Nat.zero_le _
  · dsimp only
    split
    · exact Nat.zero_le _
    · have h1 := title_le U (l.drop (whiteN l))
      have h2 := rend_le (l.drop (whiteN l + (title U (l.drop (whiteN l))).2))
      have h3 := whiteN_le l
      rw [List.length_drop] at h1 h2
      show _ + _ + _ ≤ _
      omega
set_option maxHeartbeats 4000000 in
theorem titled_any (s : ByteArray) (w : World) (hE : Env w) (hs : s.size ≤ 1000000000) (hU : ∀ x, Bk.Suf0 s.data.toList x → UnC U x) :
    Calls Tryz.prog 162 #[.string s] w fun e w' => e = .returned (.tuple #[.string (mk (titled U s.data.toList).1), .int .i64 (titled U s.data.toList).2.1, .bool (titled U s.data.toList).2.2]) ∧ Below w.heap.size w w' := by
  have GA := rgap_any s w (by omega)
  have hT : Hid (titled U s.data.toList = if rgapB s.data.toList = false ∨ whiteN s.data.toList = 0 then ([], 0, false) else
    if (title U (s.data.toList.drop (whiteN s.data.toList))).2 = 0 then ([], 0, false) else
    ((title U (s.data.toList.drop (whiteN s.data.toList))).1, whiteN s.data.toList + (title U (s.data.toList.drop (whiteN s.data.toList))).2 + (rend (s.data.toList.drop (whiteN s.data.toList + (title U (s.data.toList.drop (whiteN s.data.toList))).2))).1, (rend (s.data.toList.drop (whiteN s.data.toList + (title U (s.data.toList.drop (whiteN s.data.toList))).2))).2)) := Lib.hid rfl
  have hwl := whiteN_le s.data.toList
  have htl := title_le U (s.data.toList.drop (whiteN s.data.toList))
  rw [List.length_drop, Sc.len_size] at htl
  rw [Sc.len_size] at hwl
  generalize titled U s.data.toList = R at *
  cases hg : rgapB s.data.toList with
  | false =>
    have hT := Lib.hid (hT.out.trans (if_pos (.inl hg)))
    rw [hg] at GA
    clear hg hwl htl
    go_enter Tryz.func162, Tryz.ntmps162
    go_wp2_with (go_at_call 159; (with_reducible refine GA.mono ?_); rintro e w1 ⟨rfl, b1⟩)
    go_ret3
    exact ⟨by rw [hT.out]; rfl, b1⟩
  | true =>
    rw [hg] at GA
    by_cases h0 : whiteN s.data.toList = 0
    · have hT := Lib.hid (hT.out.trans (if_pos (.inr h0)))
      rw [h0] at GA
      clear hg hwl htl h0
      go_enter Tryz.func162, Tryz.ntmps162
      go_wp2_with (go_at_call 159; (with_reducible refine GA.mono ?_); rintro e w1 ⟨rfl, b1⟩)
      go_ret3
      exact ⟨by rw [hT.out]; rfl, b1⟩
    · have hT := Lib.hid (hT.out.trans (if_neg (by rw [hg]; intro h; rcases h with h | h; cases h; exact h0 h)))
      have TI := fun wr (hE' : Env wr) => Title_any U (s.extract (whiteN s.data.toList) s.size) wr hE' (by rw [ByteArray.size_extract]; omega) (by
        rw [Sc.drop_data]
        rintro x ⟨a, k, rfl⟩
        rw [List.drop_drop]
        exact hU _ ⟨_, _, rfl⟩)
      rw [Sc.drop_data] at TI
      have RE := fun wr => rend_any (s.extract (whiteN s.data.toList + (title U (s.data.toList.drop (whiteN s.data.toList))).2) s.size) wr (by rw [ByteArray.size_extract]; omega)
      rw [Sc.drop_data] at RE
      have hrl := rend_le (s.data.toList.drop (whiteN s.data.toList + (title U (s.data.toList.drop (whiteN s.data.toList))).2))
      rw [List.length_drop, Sc.len_size] at hrl
      generalize hb : title U (s.data.toList.drop (whiteN s.data.toList)) = T at *
      clear hb
      obtain ⟨tt, tn⟩ := T
      dsimp only at *
      generalize rend (s.data.toList.drop (whiteN s.data.toList + tn)) = re at *
      obtain ⟨en, eb⟩ := re
      dsimp only at *
      generalize whiteN s.data.toList = g at *
      have hg0 : ((g : Int) == 0) = false := by rw [beq_eq_false_iff_ne]; omega
      by_cases h1 : tn = 0
      · have hT := Lib.hid (hT.out.trans (if_pos h1))
        subst h1
        clear RE hrl hU h0 hg
        go_enter Tryz.func162, Tryz.ntmps162
        go_wp2_with (first
          | (go_at_call 159; (with_reducible refine GA.mono ?_); rintro e w1 ⟨rfl, b1⟩; have hE1 := hE.below b1)
          | (go_at_call 190; (with_reducible refine (TI _ hE1).mono ?_); rintro e w2 ⟨rfl, b2⟩; have b3 := b1.trans (b2.mono b1.size)))
        go_ret3
        exact ⟨by rw [hT.out]; rfl, b3⟩
      · have hT := Lib.hid (hT.out.trans (if_neg h1))
        have ht0 : ((tn : Int) == 0) = false := by rw [beq_eq_false_iff_ne]; omega
        have hl : Hid (en ≤ s.size - (g + tn)) := Lib.hid hrl
        clear hU h0 hg h1 hrl
        go_enter Tryz.func162, Tryz.ntmps162
        go_wp2_with (first
          | (go_at_call 159; (with_reducible refine GA.mono ?_); rintro e w1 ⟨rfl, b1⟩; have hE1 := hE.below b1)
          | (go_at_call 190; (with_reducible refine (TI _ hE1).mono ?_); rintro e w2 ⟨rfl, b2⟩; have b3 := b1.trans (b2.mono b1.size))
          | (go_at_call 163; (with_reducible refine (RE _).mono ?_); rintro e w4 ⟨rfl, b4⟩; have b5 := b3.trans (b4.mono b3.size)))
        go_ret3
        refine ⟨?_, b5⟩
        rw [hT.out]
        have := hl.out
        show Ending.returned (.tuple #[.string (mk tt), .int .i64 (wrap64 ((g : Int) + tn + en)), .bool eb]) = _
        rw [show wrap64 ((g : Int) + tn + en) = ((g + tn + en : Nat) : Int) from by unfold wrap64; omega]
end
end Tx
end Go.Proofs.YtehmcahdjldhbaaGreatDoor
end
