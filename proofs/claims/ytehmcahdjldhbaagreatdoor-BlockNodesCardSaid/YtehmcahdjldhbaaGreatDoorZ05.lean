/- Parts of this session's proof, one behind the other: Line5 Col2 Col3 Html1 Html2. -/
import Derived.Test.YtehmcahdjldhbaaGreatDoorZ04
import Derived.Lib.QuietBelow
import Derived.Lib.ConvBytes
import Derived.Laws.IdiomStrings
section
/- The walks of scan's cutRight and Rule. -/
open Go Go.RowKit
set_option linter.unusedVariables false
set_option maxRecDepth 100000
namespace Go.Proofs.YtehmcahdjldhbaaGreatDoor
open Wk
/-- What is read of the library's variables. -/
structure Env (w : World) : Prop where
  u8 : Lib.Utf8Tabs 1 2 w
  ml : ∃ m : Int, w.cell? ⟨0, 0, none⟩ = some (.int .i64 m)
theorem cell_lt {w : World} {a : Addr} {v : Value} (h : w.cell? a = some v) : a.block < w.heap.size := by
  unfold World.cell? at h
  cases e : w.heap[a.block]? with
  | none => rw [e] at h; simp at h
  | some o => exact (Array.getElem?_eq_some_iff.1 e).1
theorem Env.below {w w' : World} (h : Env w) (hb : Below w.heap.size w w') : Env w' :=
  ⟨Utf8Tabs_below h.u8 hb, by obtain ⟨m, hm⟩ := h.ml; exact ⟨m, by rw [hb.cell (cell_lt hm)]; exact hm⟩⟩
theorem Env.drew {w : World} (h : Env w) : Env w.drew := h.below (Below.refl _ _).drew
theorem get_mk (l : List UInt8) (i : Nat) (h : i < l.length) : (mk l)[i]'(by rw [mk_size]; exact h) = l[i] := rfl
theorem decodeL_first (b : UInt8) (t : List UInt8) : (b.toNat < 128 → Lib.decodeL (b :: t) = (b.toNat, 1)) ∧ (128 ≤ b.toNat → 128 ≤ (Lib.decodeL (b :: t)).1) := by
  have h0 : 0 < (mk (b :: t)).size := by rw [mk_size]; simp
  have hb : (mk (b :: t))[0] = b := rfl
  refine ⟨fun h => ?_, fun h => ?_⟩
  · have := decode_ascii (mk (b :: t)) 0 h0 (by rw [hb]; exact h)
    rw [hb] at this; exact this
  · exact (decode_high (mk (b :: t)) 0 h0 (by rw [hb]; exact h)).1
theorem lastStart_lt {l : List UInt8} (h : l ≠ []) : Lib.lastStart l < l.length := by
  have : 0 < l.length := List.length_pos_iff.2 h
  unfold Lib.lastStart
  simp only
  repeat' split
  all_goals omega
theorem decodeLast_ascii (l : List UInt8) (b : UInt8) (h : b.toNat < 128) : Lib.decodeLastL (l ++ [b]) = (b.toNat, 1) := by
  have e : (l ++ [b]).getD ((l ++ [b]).length - 1) 0 = b := by simp
  unfold Lib.decodeLastL
  rw [if_neg (by simp), e, if_pos h]
theorem decodeLast_high (l : List UInt8) (b : UInt8) (h : 128 ≤ b.toNat) : 128 ≤ (Lib.decodeLastL (l ++ [b])).1 := by
  have e : (l ++ [b]).getD ((l ++ [b]).length - 1) 0 = b := by simp
  have hlt := lastStart_lt (l := l ++ [b]) (by simp)
  unfold Lib.decodeLastL
  rw [if_neg (by simp), e, if_neg (by omega)]
  simp only
  split
  · rename_i hw
    have hc := List.drop_eq_getElem_cons hlt
    rw [hc] at hw ⊢
    have hd := decodeL_first ((l ++ [b])[Lib.lastStart (l ++ [b])]) ((l ++ [b]).drop (Lib.lastStart (l ++ [b]) + 1))
    by_cases ha : ((l ++ [b])[Lib.lastStart (l ++ [b])]).toNat < 128
    · exfalso
      rw [hd.1 ha] at hw
      simp only at hw
      have : (l ++ [b])[Lib.lastStart (l ++ [b])] = b := by
        have e2 : Lib.lastStart (l ++ [b]) = l.length := by simp at hw; omega
        simp only [e2]
        simp
      rw [this] at ha; omega
    · exact hd.2 (by omega)
  · decide
theorem trimR_snoc (l : List UInt8) (b : UInt8) (cs : List UInt8) : Sc.trimR (l ++ [b]) cs = if cs.contains b then Sc.trimR l cs else l ++ [b] := by
  unfold Sc.trimR Lib.trimRightS
  rw [List.reverse_append, List.reverse_singleton, List.singleton_append, List.dropWhile_cons]
  split <;> simp
/-- The last character of a text: is it in an ASCII set? -/
theorem inSet_last (l : List UInt8) (b : UInt8) (cs : List UInt8) (hl : ∀ b ∈ cs, b.toNat < 128) : inSet (Lib.decodeLastL (l ++ [b])).1 cs = cs.contains b ∧ (cs.contains b = true → (Lib.decodeLastL (l ++ [b])).2 = 1) := by
  by_cases ha : b.toNat < 128
  · rw [decodeLast_ascii l b ha]; exact ⟨inSet_ascii _ _, fun _ => rfl⟩
  · have hd := decodeLast_high l b (by omega)
    have hn : cs.contains b = false := by
      rw [Bool.eq_false_iff]; intro hc
      have := hl _ (List.contains_iff_mem.1 hc); omega
    rw [inSet_high _ _ hl hd, hn]; exact ⟨rfl, by simp⟩

/-- How long a text is. -/
def strSize : Value → Nat
  | .string t => t.size
  | _ => 0
set_option maxHeartbeats 1000000 in
theorem cutRight_any (s set : ByteArray) (w : World) (hs : Small s) (hE : Env w) (hascii : ∀ b ∈ set.data.toList, b.toNat < 128) :
    Calls Tryz.prog 120 #[.string s, .string set] w fun e w' => e = .returned (.string (mk (Sc.trimR s.data.toList set.data.toList))) ∧ Below w.heap.size w w' := by
  generalize hF : Sc.trimR s.data.toList set.data.toList = F
  have HF := Lib.hid hF
  have H := Lib.hid hascii
  clear hascii hF
  unfold Small at hs
  go_enter Tryz.func120, Tryz.ntmps120
  go_wp2
  go_loopw [0, 5, 6, 7, 9] (fun v0 _ _ _ _ wr => ∃ t : ByteArray, v0 = .string t ∧ t.size ≤ s.size ∧ Hid (Sc.trimR t.data.toList set.data.toList = F) ∧ Below w.heap.size w wr) (fun v0 _ _ _ _ wr => strSize v0)
  case atStart => exact ⟨s, rfl, Nat.le_refl _, HF, Below.refl _ _⟩
  case round =>
    obtain ⟨t, rfl, hts, HT, hb⟩ := hrel
    have hE1 := hE.below hb
    have DL := Tryz.utf8_DecodeLastRuneInString t wr (by omega) hE1.u8
    by_cases hp : 0 < t.size
    · obtain ⟨l, b, hl⟩ : ∃ l b, t.data.toList = l ++ [b] := by
        have hne : t.data.toList ≠ [] := by intro h; have := Sc.len_size t; rw [h] at this; simp at this; omega
        exact ⟨t.data.toList.dropLast, t.data.toList.getLast hne, (List.dropLast_concat_getLast hne).symm⟩
      have HIN := inSet_last l b set.data.toList H.out
      have hsn := trimR_snoc l b set.data.toList
      have hlen : l.length + 1 = t.size := by rw [← Sc.len_size, hl]; simp
      rw [hl] at DL
      generalize hd : Lib.decodeLastL (l ++ [b]) = dl at *
      obtain ⟨c, n⟩ := dl
      simp only at DL HIN
      clear hd
      have HIN := Lib.hid HIN
      have HSN := Lib.hid hsn
      have hsz := Lib.hid (show strSize (.string t) = t.size from rfl)
      clear hsn
      go_wp2_with (go_at_call 150; (with_reducible refine DL.mono ?_); rintro e w2 ⟨rfl, hb2⟩)
      have hb2' := hb.trans (hb2.mono hb.size)
      go_loopw [7, 9] (fun i _ wi => ∃ j : Nat, i = .bool (inSet c (set.data.toList.take j)) ∧ j ≤ set.size ∧ wi.heap[w2.heap.size]? = some (.stringIter set j) ∧ Below w2.heap.size w2 wi) (fun _ _ wi => set.size - wi.iterPos w2.heap.size)
      case atStart => exact ⟨0, rfl, Nat.zero_le _, World.iter_heap w2 set 0, (Below.refl _ _).alloc (Nat.le_refl _) _⟩
      case round =>
        obtain ⟨j, rfl, hj, hit3, hb3⟩ := hrel
        have hmj : wr.iterPos w2.heap.size = j := by simp [World.iterPos, hit3]
        have HMJ := Lib.hid hmj
        clear hmj
        by_cases hq : j < set.size
        · have hnx2 : ∀ ty, (Instr.next (.pointer (some ⟨w2.heap.size, 0, none⟩)) true ty).run Tryz.prog wr = _ := fun ty => Lib.run_next_ascii_at wr w2.heap.size set j ty hit3 hq (H.out _ (List.getElem_mem (by simpa using hq : j < set.data.toList.length)))
          have hit4 := Lib.iterAt_heap wr w2.heap.size set j (j + 1) hit3
          have hb4 := Lib.below_iterAt hb3 (Nat.le_refl _) set (j + 1)
          have HS := Lib.hid (inSet_snoc c set j hq)
          generalize hW4 : wr.iterAt w2.heap.size set (j + 1) = w4 at *
          clear hW4
          have hmj4 : w4.iterPos w2.heap.size = j + 1 := by simp [World.iterPos, hit4]
          have HMJ4 := Lib.hid hmj4
          clear hmj4
          cases hI : inSet c (set.data.toList.take j) with
          | true =>
            go_wp2
            go_roundw
            case rel => exact ⟨j + 1, by rw [HS.out, hI]; rfl, by omega, hit4, hb4⟩
            case measure => rw [HMJ4.out, HMJ.out]; omega
          | false =>
            go_wp2
            go_roundw
            case rel => exact ⟨j + 1, by rw [HS.out, hI, ← beq_nat]; simp, by omega, hit4, hb4⟩
            case measure => rw [HMJ4.out, HMJ.out]; omega
        · have hnx2 : ∀ ty, (Instr.next (.pointer (some ⟨w2.heap.size, 0, none⟩)) true ty).run Tryz.prog wr = _ := fun ty => Lib.run_next_end_at wr w2.heap.size set j ty hit3 hq
          have hall : set.data.toList.take j = set.data.toList := List.take_of_length_le (by simp; omega)
          rw [hall, HIN.out.1]
          clear hall
          have hb5 := hb2'.trans (hb3.mono hb2'.size)
          cases hI : set.data.toList.contains b with
          | true =>
            have hw := HIN.out.2 hI
            subst hw
            have HX := Lib.hid (show (t.extract 0 (t.size - 1)).data.toList = l by rw [Sc.take_data, hl]; simp [← hlen])
            have HXz : (t.extract 0 (t.size - 1)).size = t.size - 1 := by rw [← Sc.len_size, HX.out]; omega
            have HXz := Lib.hid HXz
            have hsub : (t.size : Int) - 1 = ((t.size - 1 : Nat) : Int) := by omega
            have HT2 : Hid (Sc.trimR l set.data.toList = F) := by rw [← HT.out, hl, HSN.out, if_pos hI]; rfl
            clear hl hlen
            go_wp2
            refine ⟨⟨_, rfl, by rw [HXz.out]; omega, by rw [HX.out]; exact HT2, hb5⟩, ?_⟩
            show (t.extract 0 (t.size - 1)).size < t.size
            rw [HXz.out]; omega
          | false =>
            have HT2 : Hid (t.data.toList = F) := by rw [← HT.out, hl, HSN.out, if_neg (by rw [hI]; simp)]; rfl
            clear hl hlen
            go_wp2
            go_ret
            exact ⟨by rw [← HT2.out, mk_self]; rfl, hb5⟩
    · have h0 : t.data.toList = [] := by
        cases h : t.data.toList with
        | nil => rfl
        | cons b l => have := Sc.len_size t; rw [h] at this; simp at this; omega
      have HT2 : Hid (t.data.toList = F) := by rw [← HT.out, h0]; rfl
      clear h0
      go_wp2
      go_ret
      exact ⟨by rw [← HT2.out, mk_self]; rfl, hb⟩
namespace Sc
/-- Is a text a rule? -/
def rule : List UInt8 → Bool
  | [] => false
  | b :: t => (b == 42 || b == 45 || b == 95) && decide (3 ≤ (b :: t).count b) && (b :: t).all (fun x => ([32, 9, b] : List UInt8).contains x)
end Sc
theorem trimR_all (l cs : List UInt8) : Sc.trimR (l.dropWhile (cs.contains ·)) cs = [] ↔ l.all (cs.contains ·) = true := by
  rw [← Sc.dropWhile_nil (p := (cs.contains ·))]
  constructor
  · intro h
    cases e : l.dropWhile (cs.contains ·) with
    | nil => rfl
    | cons b t =>
      exfalso
      have hb : cs.contains b = false := by
        have := List.head?_dropWhile_not (cs.contains ·) l
        rw [e] at this
        simpa using this
      rw [e] at h
      unfold Sc.trimR Lib.trimRightS at h
      rw [List.reverse_eq_nil_iff, Sc.dropWhile_nil, List.all_reverse, List.all_cons, hb] at h
      simp at h
  · intro h; rw [h]; rfl
theorem cutLeft_v (s set : ByteArray) (w : World) (hascii : ∀ b ∈ set.data.toList, b.toNat < 128) :
    Calls Tryz.prog 121 #[.string s, .string set] w fun e w' => e = .returned (.string (mk (s.data.toList.dropWhile (set.data.toList.contains ·)))) ∧ Below w.heap.size w w' :=
  (cutLeft_any s set w hascii).mono fun e w' ⟨r, he, hr, hb⟩ => ⟨by rw [he, mk_of hr], hb⟩
set_option maxHeartbeats 1000000 in
theorem rule_any (s : ByteArray) (w : World) (hs : Small s) (hE : Env w) :
    Calls Tryz.prog 84 #[.string s] w fun e w' => e = .returned (.bool (Sc.rule s.data.toList)) ∧ Below w.heap.size w w' := by
  by_cases h0 : s.data.toList = []
  · have h1 : s.toList = [] := by rw [toList_data, h0]
    rw [h0]
    clear h0
    go_enter Tryz.func84, Tryz.ntmps84
    go_wp2
    go_ret
    exact ⟨rfl, Below.refl _ _⟩
  · have hsz := Sc.size_pos h0
    have h1 : (s.toList == ([] : List UInt8)) = false := by rw [toList_data, beq_eq_false_iff_ne]; exact h0
    have key : ∀ b : UInt8, decide (Lib.indexByte [42, 45, 95] b < 0) = !(b == 42 || b == 45 || b == 95) := fun b => by
      have k : ∀ n : Fin 256, decide (Lib.indexByte [42, 45, 95] n.val.toUInt8 < 0) = !(n.val.toUInt8 == 42 || n.val.toUInt8 == 45 || n.val.toUInt8 == 95) := by decide +kernel
      have := k ⟨b.toNat, b.toNat_lt⟩
      simpa using this
    have K := key s[0]
    have F : Sc.rule s.data.toList = ((s[0] == 42 || s[0] == 45 || s[0] == 95) && decide (3 ≤ s.data.toList.count s[0]) && s.data.toList.all (fun x => ([32, 9, s[0]] : List UInt8).contains x)) := by
      have G : ∀ (b : UInt8) (t l : List UInt8), l = b :: t → Sc.rule l = ((b == 42 || b == 45 || b == 95) && decide (3 ≤ l.count b) && l.all (fun x => ([32, 9, b] : List UInt8).contains x)) := by
        intro b t l h; subst h; rfl
      exact G _ _ _ (Sc.head_of hsz)
    have hx : s.extract 0 1 = mk [s[0]] := mk_of (by rw [Sc.take_data]; have := congrArg (List.take 1) (Sc.head_of hsz); simpa using this)
    have IX := fun w => Tryz.strings_IndexByte ⟨#[42, 45, 95]⟩ s[0].toNat w
    rw [byte_back] at IX
    have CN := fun w => Tryz.strings_Count_one s s[0] w
    rw [F]
    clear key F h0
    cases hq : (s[0] == 42 || s[0] == 45 || s[0] == 95) with
    | false =>
      rw [hq] at K
      have hix : Lib.indexByte [42, 45, 95] s[0] < 0 := by simpa using K
      clear hq K
      go_enter Tryz.func84, Tryz.ntmps84
      go_wp2_with (go_at_call 69; (with_reducible refine (IX _).mono ?_); rintro e w1 ⟨rfl, rfl⟩)
      go_ret
      exact ⟨rfl, Below.refl _ _⟩
    | true =>
      rw [hq] at K
      have hix : ¬ Lib.indexByte [42, 45, 95] s[0] < 0 := by simpa using K
      have hb0 : s[0].toNat < 128 := by
        have k : ∀ n : Fin 256, (n.val.toUInt8 == 42 || n.val.toUInt8 == 45 || n.val.toUInt8 == 95) = true → n.val.toUInt8.toNat < 128 := by decide +kernel
        have := k ⟨s[0].toNat, s[0].toNat_lt⟩
        simp only [Nat.toUInt8, UInt8.ofNat_toNat] at this
        exact this hq
      clear hq K
      have hs1 : (1 : Int) ≤ (s.size : Int) := by omega
      have hs2 : 1 ≤ s.size := hsz
      have hmz : (mk [s[0]]).size = 1 := rfl
      by_cases h3 : 3 ≤ s.data.toList.count s[0]
      · rw [decide_eq_true h3]
        have h3i : decide ((3 : Int) ≤ (Lib.countByte s.data.toList s[0] : Int)) = true := by rw [decide_eq_true_iff]; unfold Lib.countByte; omega
        have hcat : ((⟨#[32, 9]⟩ : ByteArray) ++ mk [s[0]]) = mk [32, 9, s[0]] := rfl
        have hset : ∀ b ∈ (mk [32, 9, s[0]]).data.toList, b.toNat < 128 := by
          intro b hb
          simp only [mk_data, List.mem_cons, List.mem_nil_iff, or_false] at hb
          rcases hb with rfl | rfl | rfl
          · decide
          · decide
          · exact hb0
        have hdz : Small (mk (s.data.toList.dropWhile (([32, 9, s[0]] : List UInt8).contains ·))) := by
          have := Sc.len_dropWhile (p := (([32, 9, s[0]] : List UInt8).contains ·)) s.data.toList
          unfold Small at *; rw [mk_size]; rw [Sc.len_size] at this; omega
        have cL : ∀ d os, Calls Tryz.prog 121 #[.string s, .string (mk [32, 9, s[0]])] (Go.Sort.grow (redrawn w d) os) fun e w'' => e = .returned (.string (mk (s.data.toList.dropWhile (([32, 9, s[0]] : List UInt8).contains ·)))) ∧ ∃ p : Regrown, w'' = Go.Sort.grow (redrawn w p.d) p.os := fun d os => Calls.regrown_of (cutLeft_v s (mk [32, 9, s[0]]) _ hset)
        have cR : ∀ d os, Calls Tryz.prog 120 #[.string (mk (s.data.toList.dropWhile (([32, 9, s[0]] : List UInt8).contains ·))), .string (mk [32, 9, s[0]])] (Go.Sort.grow (redrawn w d) os) fun e w'' => e = .returned (.string (mk (Sc.trimR (s.data.toList.dropWhile (([32, 9, s[0]] : List UInt8).contains ·)) [32, 9, s[0]]))) ∧ ∃ p : Regrown, w'' = Go.Sort.grow (redrawn w p.d) p.os := fun d os => Calls.regrown_of (cutRight_any _ (mk [32, 9, s[0]]) _ hdz (hE.below (below_regrown w d os)) hset)
        have mt := mk_toList
        have FIN : Hid ((Sc.trimR (s.data.toList.dropWhile (([32, 9, s[0]] : List UInt8).contains ·)) [32, 9, s[0]]).isEmpty = (true && true && s.data.toList.all (fun x => ([32, 9, s[0]] : List UInt8).contains x))) := by
          have e : ∀ {l : List UInt8} {b : Bool}, (l = [] ↔ b = true) → l.isEmpty = b := fun {l b} h => by rw [Bool.eq_iff_iff, List.isEmpty_iff]; exact h
          exact e (trimR_all _ _)
        generalize Sc.trimR (s.data.toList.dropWhile (([32, 9, s[0]] : List UInt8).contains ·)) [32, 9, s[0]] = tr at *
        generalize s.data.toList.dropWhile (([32, 9, s[0]] : List UInt8).contains ·) = dw at *
        generalize s.data.toList.all (fun x => ([32, 9, s[0]] : List UInt8).contains x) = al at *
        clear hset hb0
        go_enter Tryz.func84, Tryz.ntmps84
        go_wp2_with (first
          | (go_at_call 69; (with_reducible refine (IX _).mono ?_); rintro e w1 ⟨rfl, rfl⟩)
          | (go_at_call 119; refine (CN _).mono ?_; rintro e w1 ⟨rfl, rfl⟩))
        refine wp_region_quiet_below (by kernel_rfl) (by kernel_rfl) ?_
        repeat (first | go_big_quiet_step ((first | exact cL _ _ | exact cR _ _)) | quiet_step ((first | exact cL _ _ | exact cR _ _)))
        refine wpQuiet_nil ?_
        intro _ hw'
        obtain ⟨⟨dq, osq⟩, hw''⟩ := hw'
        subst hw''
        go_wp2
        go_ret
        exact ⟨ret_bool FIN.out, below_regrown _ dq osq⟩
      · rw [decide_eq_false h3]
        have h3i : decide ((3 : Int) ≤ (Lib.countByte s.data.toList s[0] : Int)) = false := by rw [decide_eq_false_iff_not]; unfold Lib.countByte; omega
        go_enter Tryz.func84, Tryz.ntmps84
        go_wp2_with (first
          | (go_at_call 69; (with_reducible refine (IX _).mono ?_); rintro e w1 ⟨rfl, rfl⟩)
          | (go_at_call 119; refine (CN _).mono ?_; rintro e w1 ⟨rfl, rfl⟩))
        go_quiet (fail)
        go_wp2
        go_ret
        exact ⟨by simp, drewN_below _ _⟩
end Go.Proofs.YtehmcahdjldhbaaGreatDoor
end
section
/- Package column: a line without so many columns of blanks (column.Skip and its closure). -/
open Go Go.RowKit
set_option linter.unusedVariables false
set_option linter.unusedSimpArgs false
set_option maxRecDepth 100000
namespace Go.Proofs.YtehmcahdjldhbaaGreatDoor
open Wk
namespace Bk
def skip : Bs → Nat → Nat → Bs × Nat
  | [], col, _ => ([], col)
  | b :: t, col, n =>
    if n = 0 then (b :: t, col)
    else if b = 32 then skip t (col + 1) (n - 1)
    else if b = 9 then
      if n < 4 - col % 4 then (List.replicate (4 - col % 4 - n) 32 ++ t, col + n) else skip t (col + (4 - col % 4)) (n - (4 - col % 4))
    else (b :: t, col)

/-- The three variables of Skip. -/
structure At3 (B gn gk gc n k c : Nat) (w : World) : Prop where
  an : AtI gn n w
  ak : AtI gk k w
  ac : AtI gc c w
  b1 : B ≤ gn
  b2 : B ≤ gk
  b3 : B ≤ gc
  n1 : gn ≠ gk
  n2 : gn ≠ gc
  n3 : gk ≠ gc
theorem AtI.far {g n : Nat} {w : World} (h : AtI g n w) {p : Addr} (hp : g ≠ p.block) (u : Value) : AtI g n (w.setCell p u) := ⟨(Below.heap_setCell w p u g hp).trans h.blk⟩

theorem skip1_any {B gn gk gc n c : Nat} (d : Nat) (D : Int) (hD : D = d) (w : World) (h : At3 B gn gk gc n 0 c w) (hb : c + d ≤ 4000000000000) (hn : n ≤ 4000000000000) :
    Calls Tryz.prog 124 #[.int .i64 D, .pointer (some ⟨gn, 0, none⟩), .pointer (some ⟨gk, 0, none⟩), .pointer (some ⟨gc, 0, none⟩)] w
      fun e w' => e = .returned (.bool (decide (d ≤ n))) ∧ (if n < d then At3 B gn gk gc n d c w' else At3 B gn gk gc (n - d) 0 (c + d) w') ∧ Below B w w' := by
  subst hD
  have h1 := h.an.cell
  have h2 := h.an.free
  have h3 := h.ak.cell
  have h4 := h.ak.free
  have h5 := h.ac.cell
  have h6 := h.ac.free
  have n1 := h.n1
  have n2 := h.n2
  have n3 := h.n3
  by_cases hlt : n < d
  · have e1 : decide ((n : Int) < (d : Int)) = true := by rw [decide_eq_true_iff]; omega
    simp only [if_pos hlt]
    have e0 : decide (d ≤ n) = false := decide_eq_false (by omega)
    rw [e0]
    go_enter Tryz.func124, Tryz.ntmps124
    go_wp2
    go_ret
    exact ⟨rfl, ⟨h.an.far n1 _, h.ak.set _, h.ac.far n3.symm _, h.b1, h.b2, h.b3, n1, n2, n3⟩, (Below.refl _ _).setCell h.b2 _⟩
  · have e1 : decide ((n : Int) < (d : Int)) = false := by rw [decide_eq_false_iff_not]; omega
    simp only [if_neg hlt]
    have e0 : decide (d ≤ n) = true := decide_eq_true (by omega)
    rw [e0]
    have ed : Hid (((n : Int) - (d : Int)) = ((n - d : Nat) : Int)) := by apply Lib.hid; omega
    have ec : Hid (((c : Int) + (d : Int)) = ((c + d : Nat) : Int)) := by apply Lib.hid; omega
    go_enter Tryz.func124, Tryz.ntmps124
    go_wp2
    go_ret
    refine ⟨rfl, ?_, ((Below.refl B w).setCell h.b1 _).setCell h.b3 _⟩
    first
      | exact ⟨(h.an.set (n - d)).far n2 _, (h.ak.far n1.symm _).far n3 _, (h.ac.far n2.symm _).set (c + d), h.b1, h.b2, h.b3, n1, n2, n3⟩
      | (rw [ed.out, ec.out]; exact ⟨(h.an.set (n - d)).far n2 _, (h.ak.far n1.symm _).far n3 _, (h.ac.far n2.symm _).set (c + d), h.b1, h.b2, h.b3, n1, n2, n3⟩)

theorem skip1_stop {B gn gk gc n c : Nat} (d : Nat) (D : Int) (hD : D = d) (w : World) (h : At3 B gn gk gc n 0 c w) (hb : c + d ≤ 4000000000000) (hn : n ≤ 4000000000000) (hlt : n < d) :
    Calls Tryz.prog 124 #[.int .i64 D, .pointer (some ⟨gn, 0, none⟩), .pointer (some ⟨gk, 0, none⟩), .pointer (some ⟨gc, 0, none⟩)] w
      fun e w' => e = .returned (.bool false) ∧ At3 B gn gk gc n d c w' ∧ Below B w w' := by
  refine (skip1_any d D hD w h hb hn).mono ?_
  rintro e w1 ⟨rfl, h1, h2⟩
  rw [if_pos hlt] at h1
  exact ⟨by rw [decide_eq_false (by omega)], h1, h2⟩
theorem skip1_go {B gn gk gc n c : Nat} (d : Nat) (D : Int) (hD : D = d) (w : World) (h : At3 B gn gk gc n 0 c w) (hb : c + d ≤ 4000000000000) (hn : n ≤ 4000000000000) (hlt : ¬ n < d) :
    Calls Tryz.prog 124 #[.int .i64 D, .pointer (some ⟨gn, 0, none⟩), .pointer (some ⟨gk, 0, none⟩), .pointer (some ⟨gc, 0, none⟩)] w
      fun e w' => e = .returned (.bool true) ∧ At3 B gn gk gc (n - d) 0 (c + d) w' ∧ Below B w w' := by
  refine (skip1_any d D hD w h hb hn).mono ?_
  rintro e w1 ⟨rfl, h1, h2⟩
  rw [if_neg hlt] at h1
  exact ⟨by rw [decide_eq_true (by omega)], h1, h2⟩
def Blanked (B gn gk gc : Nat) (s : ByteArray) (c n : Nat) (w : World) (e : Ending) (w' : World) : Prop :=
  ∃ (r : ByteArray) (n' k' c' : Nat), e = .returned (.string r) ∧ At3 B gn gk gc n' k' c' w' ∧ Below B w w' ∧ r.size ≤ s.size ∧ c' ≤ c + 4 * s.size ∧ n' ≤ n ∧ k' ≤ 4 ∧
        (k' ≠ 0 → 0 < r.size ∧ n' < k') ∧ Hid ((if k' = 0 ∨ n' = 0 then (r.data.toList, c') else (List.replicate (k' - n') 32 ++ r.data.toList.drop 1, c' + n')) = skip s.data.toList c n)
theorem blanksS_any {B gn gk gc n c : Nat} (s : ByteArray) (w : World) (h : At3 B gn gk gc n 0 c w) (hs : s.size ≤ 4000000000) (hn : n ≤ 100000000000) (hcc : c ≤ 100000000000) :
    Calls Tryz.prog 107 #[.string s, .int .i64 c, .func (.func 124) #[] #[.pointer (some ⟨gn, 0, none⟩), .pointer (some ⟨gk, 0, none⟩), .pointer (some ⟨gc, 0, none⟩)]] w
      (Blanked B gn gk gc s c n w) := by
  have e9 : ∀ b : UInt8, ((b.toNat : Int) == 9) = (b == 9) := fun b => beq_u8 b 9 (by decide)
  have e32 : ∀ b : UInt8, ((b.toNat : Int) == 32) = (b == 32) := fun b => beq_u8 b 32 (by decide)
  go_enter Tryz.func107, Tryz.ntmps107
  go_wp2
  go_loopw [0, 1] (fun sv cv wr => ∃ (r : ByteArray) (c' n' : Nat), sv = .string r ∧ cv = .int .i64 c' ∧ At3 B gn gk gc n' 0 c' wr ∧ Below B w wr ∧ Hid (skip r.data.toList c' n' = skip s.data.toList c n) ∧
      c' + 4 * r.size ≤ c + 4 * s.size ∧ n' ≤ n ∧ r.size ≤ s.size)
    (fun sv _ _ => match sv with | .string r => r.size | _ => 0)
  case atStart => exact ⟨s, c, n, rfl, rfl, h, Below.refl _ _, Lib.hid rfl, by omega, by omega, by omega⟩
  case round =>
    obtain ⟨r, c', n', rfl, rfl, hA, hB, hS, hb1, hb2, hb3⟩ := hrel
    have hb1' : c' ≤ 200000000000 := by omega
    by_cases hz : r.data.toList = []
    · have h1 : r.toList = [] := by rw [toList_data, hz]
      have F : Hid ((if 0 = 0 ∨ n' = 0 then (r.data.toList, c') else (List.replicate (0 - n') 32 ++ r.data.toList.drop 1, c' + n')) = skip s.data.toList c n) := by
        refine Lib.hid ?_
        rw [← hS.out, hz]; simp [skip]
      clear hz hS
      go_wp2
      go_ret
      exact ⟨r, n', 0, c', rfl, hA, hB, hb3, by omega, hb2, by omega, fun h => absurd rfl h, F⟩
    · have hsz := Sc.size_pos hz
      have hne : (r.toList == ([] : List UInt8)) = false := by rw [toList_data, beq_eq_false_iff_ne]; exact hz
      have hh := Lib.hid (Sc.head_of hsz)
      have he := Lib.hid (Sc.drop_data r 1)
      have hes : (r.extract 1 r.size).size = r.size - 1 := by simp
      clear hz
      have stop : ∀ d : Nat, 1 ≤ d → n' < d → (r[0] = 9 ∧ d = 4 - c' % 4 ∨ r[0] = 32 ∧ d = 1) →
          Hid ((if d = 0 ∨ n' = 0 then (r.data.toList, c') else (List.replicate (d - n') 32 ++ r.data.toList.drop 1, c' + n')) = skip s.data.toList c n) := by
        intro d hd1 hlt hor
        refine Lib.hid ?_
        rw [← hS.out]
        by_cases h0 : n' = 0
        · rw [if_pos (Or.inr h0), hh.out]; simp [skip, h0]
        · rw [if_neg (by omega)]
          rcases hor with ⟨h9, hd⟩ | ⟨_, hd⟩
          · conv => rhs; rw [hh.out]
            simp only [skip]
            rw [if_neg h0, if_neg (by rw [h9]; decide), if_pos h9, if_pos (by omega), hd]
          · omega
      have goes : ∀ d : Nat, d ≤ n' → 1 ≤ d → (r[0] = 9 ∧ d = 4 - c' % 4 ∨ r[0] = 32 ∧ d = 1) → Hid (skip (r.data.toList.drop 1) (c' + d) (n' - d) = skip s.data.toList c n) := by
        intro d hle hd1 hor
        refine Lib.hid ?_
        rw [← hS.out]
        conv => rhs; rw [hh.out]
        simp only [skip]
        rw [if_neg (by omega)]
        rcases hor with ⟨h9, hd⟩ | ⟨h9, hd⟩
        · rw [if_neg (by rw [h9]; decide), if_pos h9, if_neg (by omega), hd]
        · rw [if_pos h9, hd]
      have hm : c' % 4 < 4 := Nat.mod_lt _ (by decide)
      by_cases q9 : r[0] = 9
      · have q1 : (r[0] == 9) = true := by simpa using q9
        have stop := stop (4 - c' % 4) (by omega)
        have goes := goes (4 - c' % 4)
        have ST := fun h => stop h (.inl ⟨q9, rfl⟩)
        have GO := fun h => goes h (by omega) (.inl ⟨q9, rfl⟩)
        clear stop goes q9 hS
        by_cases hlt : n' < 4 - c' % 4
        · have F := ST hlt
          clear ST GO
          go_wp2_with (go_at_call 124; (with_reducible refine (skip1_stop (4 - c' % 4) _ (by omega) _ hA (by omega) (by omega) hlt).mono ?_); rintro e w1 ⟨rfl, hA1, hB1⟩)
          go_ret
          exact ⟨r, n', 4 - c' % 4, c', rfl, hA1, hB.trans hB1, hb3, by omega, hb2, by omega, fun _ => ⟨hsz, hlt⟩, F⟩
        · have F := GO (by omega)
          clear ST GO
          go_wp2_with (go_at_call 124; (with_reducible refine (skip1_go (4 - c' % 4) _ (by omega) _ hA (by omega) (by omega) hlt).mono ?_); rintro e w1 ⟨rfl, hA1, hB1⟩)
          go_roundw
          case rel => exact ⟨_, c' + (4 - c' % 4), n' - (4 - c' % 4), rfl, by go_num, hA1, hB.trans hB1, by rw [he.out]; exact F, by rw [hes]; omega, by omega, by rw [hes]; omega⟩
          case measure => simp; omega
      · have q1 : (r[0] == 9) = false := by simpa using q9
        by_cases q32 : r[0] = 32
        · have q2 : (r[0] == 32) = true := by simpa using q32
          have stop := stop 1 (by omega)
          have goes := goes 1
          have ST := fun h => stop h (.inr ⟨q32, rfl⟩)
          have GO := fun h => goes h (by omega) (.inr ⟨q32, rfl⟩)
          clear stop goes q9 q32 hS
          by_cases hlt : n' < 1
          · have F := ST hlt
            clear ST GO
            go_wp2_with (go_at_call 124; (with_reducible refine (skip1_stop 1 _ (by omega) _ hA (by omega) (by omega) hlt).mono ?_); rintro e w1 ⟨rfl, hA1, hB1⟩)
            go_ret
            exact ⟨r, n', 1, c', rfl, hA1, hB.trans hB1, hb3, by omega, hb2, by omega, fun _ => ⟨hsz, hlt⟩, F⟩
          · have F := GO (by omega)
            clear ST GO
            go_wp2_with (go_at_call 124; (with_reducible refine (skip1_go 1 _ (by omega) _ hA (by omega) (by omega) hlt).mono ?_); rintro e w1 ⟨rfl, hA1, hB1⟩)
            go_roundw
            case rel => exact ⟨_, c' + 1, n' - 1, rfl, by go_num, hA1, hB.trans hB1, by rw [he.out]; exact F, by rw [hes]; omega, by omega, by rw [hes]; omega⟩
            case measure => simp; omega
        · have q2 : (r[0] == 32) = false := by simpa using q32
          have F : Hid ((if 0 = 0 ∨ n' = 0 then (r.data.toList, c') else (List.replicate (0 - n') 32 ++ r.data.toList.drop 1, c' + n')) = skip s.data.toList c n) := by
            refine Lib.hid ?_
            rw [← hS.out, if_pos (Or.inl rfl)]
            conv => rhs; rw [hh.out]
            simp only [skip]
            conv => lhs; rw [hh.out]
            rw [if_neg q32, if_neg q9]; simp
          clear stop goes q9 q32 hS
          go_wp2
          go_ret
          exact ⟨r, n', 0, c', rfl, hA, hB, hb3, by omega, hb2, by omega, fun h => absurd rfl h, F⟩
end Bk
end Go.Proofs.YtehmcahdjldhbaaGreatDoor
end
section
/- Package column: Skip as a whole, TrimLeft, TrimRight; text.Blank. -/
open Go Go.RowKit
set_option linter.unusedVariables false
set_option linter.unusedSimpArgs false
set_option maxRecDepth 100000
namespace Go.Proofs.YtehmcahdjldhbaaGreatDoor
open Wk
namespace Bk
theorem bdn {B : Nat} {a w : World} (h : Below B a w) (n : Nat) : Below B a (w.drewN n) := ⟨h.os, h.tape, h.output, h.size, h.block⟩
theorem mk_append (a : Bs) (b : ByteArray) : mk a ++ b = mk (a ++ b.data.toList) := by
  refine mk_of ?_
  rw [ByteArray.data_append]; simp [mk]
theorem mk_extract (r : ByteArray) (k : Nat) : r.extract k r.size = mk (r.data.toList.drop k) := mk_of (Sc.drop_data r k)
theorem repeat_one (b : UInt8) : ∀ n, Lib.repeatL [b] n = List.replicate n b := by
  intro n
  induction n with
  | zero => rfl
  | succ n ih => simp [Lib.repeatL, ih, List.replicate_succ]
theorem skip_zero (l : Bs) (c : Nat) : skip l c 0 = (l, c) := by cases l <;> simp [skip]

theorem Skip_any (s : ByteArray) (c n : Nat) (w : World) (hs : s.size ≤ 4000000000) (hc : c ≤ 1073741824) (hn : n ≤ 100000000000) :
    Calls Tryz.prog 87 #[.string s, .int .i64 c, .int .i64 n] w fun e w' => e = .returned (.tuple #[.string (mk (skip s.data.toList c n).1), .int .i64 (skip s.data.toList c n).2]) ∧ Below w.heap.size w w' := by
  by_cases h0 : n = 0
  · subst h0
    rw [skip_zero]
    have hm := mk_self s
    go_enter Tryz.func87, Tryz.ntmps87
    go_wp2
    go_quiet (fail)
    go_wp2
    go_ret2
    exact ⟨by simp [hm], bdn (((Below.refl _ w).alloc (Nat.le_refl _) _).alloc (by simp) _) _⟩
  · have h1 : decide ((n : Int) < 1) = false := by rw [decide_eq_false_iff_not]; omega
    go_enter Tryz.func87, Tryz.ntmps87
    go_wp2_with (go_at_call 108; (with_reducible refine (from_any c _ hc).mono ?_); rintro e w1 ⟨rfl, rfl⟩)
    have A3 : At3 w.heap.size (w.heap.size + 1) (w.heap.size + 1 + 1) w.heap.size n 0 c (((w.alloc (.cells #[.int .i64 c] 3)).alloc (.cells #[.int .i64 n] 3)).alloc (.cells #[.int .i64 0] 3)) := by
      refine ⟨?_, ?_, ?_, by omega, by omega, by omega, by omega, by omega, by omega⟩
      · exact AtI.alloc ⟨by have := heap_alloc_new (w.alloc (.cells #[.int .i64 c] 3)) (.cells #[.int .i64 n] 3); simpa using this⟩ _
      · exact ⟨by have := heap_alloc_new ((w.alloc (.cells #[.int .i64 c] 3)).alloc (.cells #[.int .i64 n] 3)) (.cells #[.int .i64 0] 3); simpa using this⟩
      · exact (AtI.alloc ⟨heap_alloc_new w _⟩ _).alloc _
    have bA : Below w.heap.size w (((w.alloc (.cells #[.int .i64 c] 3)).alloc (.cells #[.int .i64 n] 3)).alloc (.cells #[.int .i64 0] 3)) := (((Below.refl _ w).alloc (Nat.le_refl _) _).alloc (by simp) _).alloc (by simp; omega) _
    refine (blanksS_any s _ A3 hs hn (by omega)).mono ?_
    rintro e w1 ⟨r, n', k', c', rfl, hA, hB, q1, q2, q3, q4, q5, q6⟩
    have BB := bA.trans hB
    have cn := hA.an.cell
    have ck := hA.ak.cell
    have cc := hA.ac.cell
    clear h1 A3 bA
    by_cases hor : k' = 0 ∨ n' = 0
    · rw [if_pos hor] at q6
      have hm : mk (skip s.data.toList c n).1 = r := (mk_of (by rw [← q6.out])).symm
      have hc2 : ((skip s.data.toList c n).2 : Int) = c' := by rw [← q6.out]
      have HM := Lib.hid hm
      have HC := Lib.hid hc2
      clear hm hc2 q6
      by_cases hk : k' = 0
      · subst hk
        go_wp2
        go_quiet (fail)
        go_wp2
        go_ret2
        exact ⟨by rw [HM.out, HC.out]; rfl, bdn BB _⟩
      · have hn0 : n' = 0 := by omega
        subst hn0
        have hk1 : ((k' : Int) == 0) = false := by rw [beq_eq_false_iff_ne]; omega
        go_wp2
        go_quiet (fail)
        go_wp2
        go_ret2
        exact ⟨by rw [HM.out, HC.out]; rfl, bdn BB _⟩
    · rw [if_neg hor] at q6
      obtain ⟨hr0, hnk⟩ := q5 (by omega)
      have hk1 : ((k' : Int) == 0) = false := by rw [beq_eq_false_iff_ne]; omega
      have hn1 : ((n' : Int) == 0) = false := by rw [beq_eq_false_iff_ne]; omega
      have hm : mk (skip s.data.toList c n).1 = mk (List.replicate (k' - n') 32 ++ r.data.toList.drop 1) := by rw [← q6.out]
      have hc2 : ((skip s.data.toList c n).2 : Int) = ((c' + n' : Nat) : Int) := by rw [← q6.out]
      have HM := Lib.hid hm
      have HC := Lib.hid hc2
      have ed : ((k' : Int) - (n' : Int)) = ((k' - n' : Nat) : Int) := by omega
      have cR : ∀ d os, Calls Tryz.prog 125 #[.string ⟨#[32]⟩, .int .i64 ((k' : Int) - (n' : Int))] (Go.Sort.grow (redrawn w1 d) os) fun e w'' => e = .returned (.string (mk (List.replicate (k' - n') 32))) ∧ ∃ p : Regrown, w'' = Go.Sort.grow (redrawn w1 p.d) p.os := fun d os => by
        rw [ed]
        refine Calls.regrown_of ((Tryz.strings_Repeat ⟨#[32]⟩ (k' - n') _ (by omega) (by show 1 * (k' - n') ≤ _; omega)).mono ?_)
        rintro e w2 ⟨rfl, h⟩
        refine ⟨?_, h⟩
        have e : Lib.repeatL [(32 : UInt8)] (k' - n') = List.replicate (k' - n') 32 := repeat_one _ _
        show Ending.returned (.string ⟨(Lib.repeatL [(32 : UInt8)] (k' - n')).toArray⟩) = _
        rw [e]; rfl
      have cn' := fun d os => cell_regrown cn d os
      have ck' := fun d os => cell_regrown ck d os
      have cc' := fun d os => cell_regrown cc d os
      have hadd := run_string_add_sum (P := Tryz.prog) (a := mk (List.replicate (k' - n') 32)) (b := r.extract 1 r.size)
      have hsum : (mk (List.replicate (k' - n') 32)).size + (r.extract 1 r.size).size ≤ 9223372036854775807 := by rw [mk_size]; simp; omega
      clear hm hc2 q6 ed
      go_wp2
      refine wp_region_quiet_below (by kernel_rfl) (by kernel_rfl) ?_
      repeat (first | go_big_quiet_step ((first | exact cR _ _)) | quiet_step ((first | exact cR _ _)))
      refine wpQuiet_nil ?_
      intro _ hw'
      obtain ⟨⟨dq, osq⟩, hw''⟩ := hw'
      subst hw''
      go_wp2
      go_ret2
      refine ⟨?_, BB.trans ((below_regrown _ dq osq).mono BB.size)⟩
      rw [HM.out, HC.out]
      show Ending.returned (.tuple #[.string (mk (List.replicate (k' - n') 32) ++ r.extract 1 r.size), .int .i64 ((c' : Int) + (n' : Int))]) = _
      rw [mk_append, mk_extract, mk_data]
      simp

theorem TrimLeft_any (s : ByteArray) (w : World) :
    Calls Tryz.prog 62 #[.string s] w fun e w' => e = .returned (.string (mk (Lib.trimLeftS s.data.toList [32, 9, 10, 11, 12, 13]))) ∧ Below w.heap.size w w' := by
  have C : ∀ w, Calls Tryz.prog 88 #[.string s, .string ⟨#[32, 9, 10, 11, 12, 13]⟩] w fun e w' => e = .returned (.string (mk (Lib.trimLeftS s.data.toList [32, 9, 10, 11, 12, 13]))) ∧ Below w.heap.size w w' :=
    fun w => Tryz.strings_TrimLeft_set s ⟨#[32, 9, 10, 11, 12, 13]⟩ w (by decide) (ascii_of_all (by decide))
  go_enter Tryz.func62, Tryz.ntmps62
  go_wp2_with (go_at_call 88; (with_reducible refine (C _).mono ?_); rintro e w1 ⟨rfl, hb⟩)
  go_ret
  exact ⟨rfl, hb⟩
theorem TrimRight_any (s : ByteArray) (w : World) (hs : s.size ≤ 4000000000000) :
    Calls Tryz.prog 96 #[.string s] w fun e w' => e = .returned (.string (mk (Lib.trimRightS s.data.toList [32, 9, 10, 11, 12, 13]))) ∧ Below w.heap.size w w' := by
  have C : ∀ w, Calls Tryz.prog 111 #[.string s, .string ⟨#[32, 9, 10, 11, 12, 13]⟩] w fun e w' => e = .returned (.string (mk (Lib.trimRightS s.data.toList [32, 9, 10, 11, 12, 13]))) ∧ Below w.heap.size w w' :=
    fun w => Tryz.strings_TrimRight_set s ⟨#[32, 9, 10, 11, 12, 13]⟩ w (by omega) (by decide) (ascii_of_all (by decide))
  go_enter Tryz.func96, Tryz.ntmps96
  go_wp2_with (go_at_call 111; (with_reducible refine (C _).mono ?_); rintro e w1 ⟨rfl, hb⟩)
  go_ret
  exact ⟨rfl, hb⟩
theorem Blank_any (s : ByteArray) (w : World) (hs : Small s) :
    Calls Tryz.prog 65 #[.string s] w fun e w' => e = .returned (.bool (Sc.blanks s.data.toList)) ∧ Below w.heap.size w w' := by
  go_enter Tryz.func65, Tryz.ntmps65
  go_wp2_with (go_at_call 95; (with_reducible refine (trim_any s _ hs).mono ?_); rintro e w1 ⟨r, rfl, hr, hb⟩; have HR := Lib.hid hr; clear hr)
  go_ret
  refine ⟨ret_bool ?_, hb⟩
  rw [empty_iff, HR.out, Bool.eq_iff_iff, decide_eq_true_iff, Sc.trim_nil]
end Bk
end Go.Proofs.YtehmcahdjldhbaaGreatDoor
end
section
/- The walk of scan.lower; a block of bytes. -/
open Go Go.RowKit
set_option linter.unusedVariables false
set_option maxRecDepth 100000
namespace Go.Proofs.YtehmcahdjldhbaaGreatDoor
open Wk
/-- Block g begins with these bytes. -/
structure Bytes (g : Nat) (bs : List UInt8) (w : World) : Prop where
  blk : ∃ cs T fr, w.heap[g]? = some (.cells cs T fr) ∧ bs.length ≤ fr.1 ∧ bs.length ≤ cs.size ∧ ∀ j (h : j < bs.length), cs[j]? = some (.int .u8 bs[j].toNat)
theorem Bytes.lt {g : Nat} {bs : List UInt8} {w : World} (h : Bytes g bs w) : g < w.heap.size := by
  obtain ⟨cs, T, fr, h1, _⟩ := h.blk
  exact (Array.getElem?_eq_some_iff.1 h1).1
theorem Bytes.cell {g : Nat} {bs : List UInt8} {w : World} (h : Bytes g bs w) (j : Nat) (hj : j < bs.length) : w.cell? ⟨g, j, none⟩ = some (.int .u8 bs[j].toNat) := by
  obtain ⟨cs, T, fr, h1, _, _, h2⟩ := h.blk
  rw [cell_blk h1, h2 j hj]
theorem Bytes.free {g : Nat} {bs : List UInt8} {w : World} (h : Bytes g bs w) (j : Nat) (hj : j < bs.length) : w.frozen? ⟨g, j, none⟩ = false := by
  obtain ⟨cs, T, fr, h1, h2, _⟩ := h.blk
  unfold World.frozen?
  rw [h1]
  simp
  intro h; omega
theorem Bytes.set {g : Nat} {bs : List UInt8} {w : World} (h : Bytes g bs w) (j : Nat) (hj : j < bs.length) (b : UInt8) : Bytes g (bs.set j b) (w.setCell ⟨g, j, none⟩ (.int .u8 b.toNat)) := by
  obtain ⟨cs, T, fr, h1, h2, h3, h4⟩ := h.blk
  refine ⟨cs.setIfInBounds j (.int .u8 b.toNat), T, fr, by simp [World.setCell, Array.getElem?_modify, h1], by simpa using h2, by simpa using h3, fun i hi => ?_⟩
  simp only [List.length_set] at hi
  rw [Array.getElem?_setIfInBounds]
  by_cases e : j = i
  · subst e
    rw [if_pos rfl, if_pos (by omega)]
    simp
  · rw [if_neg e, h4 i hi, List.getElem_set_ne e]
theorem Bytes.below {g : Nat} {bs : List UInt8} {w w' : World} (h : Bytes g bs w) (hb : Below w.heap.size w w') : Bytes g bs w' := by
  obtain ⟨cs, T, fr, h1, h2⟩ := h.blk
  exact ⟨cs, T, fr, (hb.block g h.lt).trans h1, h2⟩
theorem Bytes.conv (w : World) (s : ByteArray) : Bytes w.heap.size s.data.toList (Lib.bytesWorld w 5 s) := by
  refine ⟨_, _, _, Lib.bytesWorld_at_new w 5 s, ?_, ?_, fun j hj => ?_⟩
  · show s.data.toList.length ≤ (Lib.bytesCells w 5 s).size
    simp [Lib.bytesCells]
  · simp [Lib.bytesCells]
  · have hj' : j < s.size := by simpa using hj
    simp [Lib.bytesCells, Array.getElem?_append, hj']
namespace Sc
def low (b : UInt8) : UInt8 := if letter b then b ||| 32 else b
def lower (l : List UInt8) : List UInt8 := l.map low
def lowTo (k : Nat) (l : List UInt8) : List UInt8 := (l.take k).map low ++ l.drop k
theorem lowTo_len (k : Nat) (l : List UInt8) : (lowTo k l).length = l.length := by unfold lowTo; simp; omega
theorem lowTo_get (k : Nat) (l : List UInt8) (i : Nat) : (lowTo k l)[i]? = l[i]?.map fun b => if i < k then low b else b := by
  unfold lowTo
  rw [List.getElem?_append]
  simp only [List.length_map, List.length_take, List.getElem?_map, List.getElem?_take, List.getElem?_drop]
  by_cases h : i < k
  · by_cases hl : i < l.length
    · rw [if_pos (by omega), if_pos h]; simp only [if_pos h]
    · rw [if_neg (by omega), List.getElem?_eq_none (by omega), List.getElem?_eq_none (by omega)]; rfl
  · rw [if_neg (by omega)]
    by_cases hl : k ≤ l.length
    · have e : k + (i - min k l.length) = i := by omega
      rw [e]
      cases l[i]? <;> simp [h]
    · rw [List.getElem?_eq_none (by omega), List.getElem?_eq_none (by omega)]; rfl
theorem lowTo_step (k : Nat) (l : List UInt8) (h : k < l.length) : lowTo (k + 1) l = (lowTo k l).set k (low l[k]) := by
  apply List.ext_getElem?
  intro i
  rw [lowTo_get, List.getElem?_set, lowTo_len, lowTo_get]
  by_cases e : k = i
  · subst e; rw [if_pos rfl, if_pos h, List.getElem?_eq_getElem h]; simp
  · rw [if_neg e]
    have : (i < k + 1) ↔ (i < k) := by omega
    simp only [this]
theorem lowTo_at (k : Nat) (l : List UInt8) (h : k < l.length) : (lowTo k l)[k]'(by rw [lowTo_len]; exact h) = l[k] := by
  have := lowTo_get k l k
  rw [List.getElem?_eq_getElem (by rw [lowTo_len]; exact h), List.getElem?_eq_getElem h] at this
  simpa using this
theorem lowTo_all (l : List UInt8) : lowTo l.length l = lower l := by unfold lowTo lower; simp
theorem lowTo_zero (l : List UInt8) : lowTo 0 l = l := by unfold lowTo; simp
end Sc
theorem low_bits (b : UInt8) (h : Sc.letter b = true) : bits .or .u8 (b.toNat : Int) 32 = ((Sc.low b).toNat : Int) := by
  have key : ∀ n : Fin 256, Sc.letter n.val.toUInt8 = true → bits .or .u8 (n.val : Int) 32 = ((Sc.low n.val.toUInt8).toNat : Int) := by decide +kernel
  have := key ⟨b.toNat, b.toNat_lt⟩
  simp only [Nat.toUInt8, UInt8.ofNat_toNat] at this
  exact this h
theorem lower_any (s : ByteArray) (w : World) (hs : Small s) :
    Calls Tryz.prog 105 #[.string s] w fun e w' => e = .returned (.string (mk (Sc.lower s.data.toList))) ∧ Below w.heap.size w w' := by
  have kc := Lib.run_convert_string_bytes (P := Tryz.prog) w 9 118 5 s Tryz.underlying9 Tryz.underlying118 Tryz.underlying5
  have hB := Bytes.conv w s
  have hb := Lib.bytesWorld_below w 5 s
  have hz := Lib.bytesWorld_size w 5 s
  generalize Lib.bytesWorld w 5 s = w1 at *
  generalize grownCap w s.size 0 5 = cap at *
  have hl := Sc.len_size s
  unfold Small at hs
  go_enter Tryz.func105, Tryz.ntmps105
  go_wp2
  go_loopw [4, 5, 10] (fun _ _ i wr => ∃ k : Nat, i = .int .i64 k ∧ k ≤ s.size ∧ Bytes w.heap.size (Sc.lowTo k s.data.toList) wr ∧ Below w.heap.size w wr) (fun _ _ i _ => s.size - (intOf i).toNat)
  case atStart => exact ⟨0, rfl, Nat.zero_le _, by rw [Sc.lowTo_zero]; exact hB, hb⟩
  case round =>
    obtain ⟨k, rfl, hk, hR, hbr⟩ := hrel
    by_cases hp : k < s.size
    · have hkl : k < s.data.toList.length := by omega
      have hc := hR.cell k (by rw [Sc.lowTo_len]; exact hkl)
      rw [Sc.lowTo_at k _ hkl] at hc
      have hf := hR.free k (by rw [Sc.lowTo_len]; exact hkl)
      have hst := Lib.hid (Sc.lowTo_step k s.data.toList hkl)
      have hR2 := hR.set k (by rw [Sc.lowTo_len]; exact hkl) (Sc.low s.data.toList[k])
      generalize hbe : s.data.toList[k] = b at *
      have hbe := Lib.hid hbe
      cases hq : Sc.letter b with
      | true =>
        have hlb := low_bits b hq
        go_wp2_with (go_at_call 116; (with_reducible refine (letter_b b _).mono ?_); rintro e w2 ⟨rfl, rfl⟩)
        go_roundw
        case rel => exact ⟨k + 1, by go_num, by omega, by rw [hst.out]; exact hR2, hbr.setCell (Nat.le_refl _) _⟩
        case measure => simp [intOf]; omega
      | false =>
        have hlb : Sc.low b = b := by unfold Sc.low; rw [hq]; rfl
        have hR3 : Bytes w.heap.size (Sc.lowTo (k + 1) s.data.toList) wr := by
          rw [hst.out, hlb]
          have e : (Sc.lowTo k s.data.toList).set k b = Sc.lowTo k s.data.toList := by
            apply List.ext_getElem?
            intro i
            rw [List.getElem?_set, Sc.lowTo_len]
            by_cases e : k = i
            · subst e
              rw [if_pos rfl, if_pos hkl, List.getElem?_eq_getElem (by rw [Sc.lowTo_len]; exact hkl), Sc.lowTo_at k _ hkl, hbe.out]
            · rw [if_neg e]
          rw [e]; exact hR
        clear hR2 hst
        go_wp2_with (go_at_call 116; (with_reducible refine (letter_b b _).mono ?_); rintro e w2 ⟨rfl, rfl⟩)
        go_roundw
        case rel => exact ⟨k + 1, by go_num, by omega, hR3, hbr⟩
        case measure => simp [intOf]; omega
    · have hk' : k = s.data.toList.length := by omega
      have hcv : (convert 118 9 (.slice (some ⟨w.heap.size, 0, none⟩) s.size cap)).run Tryz.prog wr = .ok (.string (mk (Sc.lower s.data.toList))) wr := by
        have hlen : (Sc.lower s.data.toList).length = s.size := by unfold Sc.lower; simp
        rw [hk', Sc.lowTo_all] at hR
        have := run_convert_bytes_back (P := Tryz.prog) wr 118 9 5 ⟨w.heap.size, 0, none⟩ cap (Sc.lower s.data.toList) Tryz.underlying118 Tryz.underlying5 Tryz.underlying9 (fun j hj => by
          have e : (⟨w.heap.size, 0, none⟩ : Addr).add j = ⟨w.heap.size, j, none⟩ := by unfold Addr.add; split <;> simp_all
          rw [e, hR.cell j hj])
        rw [hlen] at this
        exact this
      clear hk'
      go_wp2
      go_ret
      exact ⟨rfl, hbr⟩
end Go.Proofs.YtehmcahdjldhbaaGreatDoor
end
section
/- The walks of scan.raw and scan.block. -/
open Go Go.RowKit
set_option linter.unusedVariables false
set_option linter.unusedSimpArgs false
set_option maxRecDepth 100000
namespace Go.Proofs.YtehmcahdjldhbaaGreatDoor
open Wk
namespace Sc
def raws : List (List UInt8) := [[115, 99, 114, 105, 112, 116],
  [112, 114, 101],
  [115, 116, 121, 108, 101],
  [116, 101, 120, 116, 97, 114, 101, 97]]
def blocks : List (List UInt8) := [[97, 100, 100, 114, 101, 115, 115],
  [97, 114, 116, 105, 99, 108, 101],
  [97, 115, 105, 100, 101],
  [98, 97, 115, 101],
  [98, 97, 115, 101, 102, 111, 110, 116],
  [98, 108, 111, 99, 107, 113, 117, 111, 116, 101],
  [98, 111, 100, 121],
  [99, 97, 112, 116, 105, 111, 110],
  [99, 101, 110, 116, 101, 114],
  [99, 111, 108],
  [99, 111, 108, 103, 114, 111, 117, 112],
  [100, 100],
  [100, 101, 116, 97, 105, 108, 115],
  [100, 105, 97, 108, 111, 103],
  [100, 105, 114],
  [100, 105, 118],
  [100, 108],
  [100, 116],
  [102, 105, 101, 108, 100, 115, 101, 116],
  [102, 105, 103, 99, 97, 112, 116, 105, 111, 110],
  [102, 105, 103, 117, 114, 101],
  [102, 111, 111, 116, 101, 114],
  [102, 111, 114, 109],
  [102, 114, 97, 109, 101],
  [102, 114, 97, 109, 101, 115, 101, 116],
  [104, 49],
  [104, 50],
  [104, 51],
  [104, 52],
  [104, 53],
  [104, 54],
  [104, 101, 97, 100],
  [104, 101, 97, 100, 101, 114],
  [104, 114],
  [104, 116, 109, 108],
  [105, 102, 114, 97, 109, 101],
  [108, 101, 103, 101, 110, 100],
  [108, 105],
  [108, 105, 110, 107],
  [109, 97, 105, 110],
  [109, 101, 110, 117],
  [109, 101, 110, 117, 105, 116, 101, 109],
  [110, 97, 118],
  [110, 111, 102, 114, 97, 109, 101, 115],
  [111, 108],
  [111, 112, 116, 103, 114, 111, 117, 112],
  [111, 112, 116, 105, 111, 110],
  [112],
  [112, 97, 114, 97, 109],
  [115, 101, 97, 114, 99, 104],
  [115, 101, 99, 116, 105, 111, 110],
  [115, 117, 109, 109, 97, 114, 121],
  [116, 97, 98, 108, 101],
  [116, 98, 111, 100, 121],
  [116, 100],
  [116, 102, 111, 111, 116],
  [116, 104],
  [116, 104, 101, 97, 100],
  [116, 105, 116, 108, 101],
  [116, 114],
  [116, 114, 97, 99, 107],
  [117, 108]]
end Sc
theorem raw_any (s : ByteArray) (w : World) (hs : Small s) :
    Calls Tryz.prog 115 #[.string s] w fun e w' => e = .returned (.bool (Sc.raws.contains (Sc.lower s.data.toList))) ∧ Below w.heap.size w w' := by
  have LW := fun w => lower_any s w hs
  have mt := mk_toList
  generalize Sc.lower s.data.toList = l at *
  go_enter Tryz.func115, Tryz.ntmps115
  go_wp2_with (go_at_call 105; (with_reducible refine (LW _).mono ?_); rintro e w1 ⟨rfl, b1⟩)
  all_goals (first | (exfalso; simp_all; done) | (go_ret; exact ⟨ret_bool (by simp only [Sc.raws, List.contains_cons, List.contains_nil, Bool.or_false, Bool.or_true, Bool.true_or, Bool.false_or, *]), b1⟩))

set_option maxHeartbeats 4000000 in
theorem block_no (s : ByteArray) (w : World) (hs : Small s) (hn : Sc.blocks.contains (Sc.lower s.data.toList) = false) :
    Calls Tryz.prog 117 #[.string s] w fun e w' => e = .returned (.bool false) ∧ Below w.heap.size w w' := by
  have LW := fun w => lower_any s w hs
  have mt := mk_toList
  generalize Sc.lower s.data.toList = l at *
  simp only [Sc.blocks, List.contains_cons, List.contains_nil, Bool.or_false, Bool.or_eq_false_iff] at hn
  obtain ⟨h0, h1, h2, h3, h4, h5, h6, h7, h8, h9, h10, h11, h12, h13, h14, h15, h16, h17, h18, h19, h20, h21, h22, h23, h24, h25, h26, h27, h28, h29, h30, h31, h32, h33, h34, h35, h36, h37, h38, h39, h40, h41, h42, h43, h44, h45, h46, h47, h48, h49, h50, h51, h52, h53, h54, h55, h56, h57, h58, h59, h60, h61⟩ := hn
  go_enter Tryz.func117, Tryz.ntmps117
  go_wp2_with (go_at_call 105; (with_reducible refine (LW _).mono ?_); rintro e w1 ⟨rfl, b1⟩)
  go_ret
  exact ⟨rfl, b1⟩
set_option maxHeartbeats 8000000 in
theorem block_yes0 (s : ByteArray) (w : World) (c : List UInt8) (hc : c ∈ (Sc.blocks.drop 0).take 16) (LW : ∀ w, Calls Tryz.prog 105 #[.string s] w fun e w' => e = .returned (.string (mk c)) ∧ Below w.heap.size w w') :
    Calls Tryz.prog 117 #[.string s] w fun e w' => e = .returned (.bool true) ∧ Below w.heap.size w w' := by
  have mt := mk_toList
  simp only [Sc.blocks, List.drop_succ_cons, List.drop_zero, List.take_succ_cons, List.take_zero, List.take_nil, List.mem_cons, List.mem_nil_iff, or_false] at hc
  rcases hc with rfl | rfl | rfl | rfl | rfl | rfl | rfl | rfl | rfl | rfl | rfl | rfl | rfl | rfl | rfl | rfl
  all_goals (
    go_enter Tryz.func117, Tryz.ntmps117
    go_wp2_with (go_at_call 105; (with_reducible refine (LW _).mono ?_); rintro e w1 ⟨rfl, b1⟩)
    go_ret
    exact ⟨rfl, b1⟩)
set_option maxHeartbeats 8000000 in
theorem block_yes1 (s : ByteArray) (w : World) (c : List UInt8) (hc : c ∈ (Sc.blocks.drop 16).take 16) (LW : ∀ w, Calls Tryz.prog 105 #[.string s] w fun e w' => e = .returned (.string (mk c)) ∧ Below w.heap.size w w') :
    Calls Tryz.prog 117 #[.string s] w fun e w' => e = .returned (.bool true) ∧ Below w.heap.size w w' := by
  have mt := mk_toList
  simp only [Sc.blocks, List.drop_succ_cons, List.drop_zero, List.take_succ_cons, List.take_zero, List.take_nil, List.mem_cons, List.mem_nil_iff, or_false] at hc
  rcases hc with rfl | rfl | rfl | rfl | rfl | rfl | rfl | rfl | rfl | rfl | rfl | rfl | rfl | rfl | rfl | rfl
  all_goals (
    go_enter Tryz.func117, Tryz.ntmps117
    go_wp2_with (go_at_call 105; (with_reducible refine (LW _).mono ?_); rintro e w1 ⟨rfl, b1⟩)
    go_ret
    exact ⟨rfl, b1⟩)
set_option maxHeartbeats 8000000 in
theorem block_yes2 (s : ByteArray) (w : World) (c : List UInt8) (hc : c ∈ (Sc.blocks.drop 32).take 16) (LW : ∀ w, Calls Tryz.prog 105 #[.string s] w fun e w' => e = .returned (.string (mk c)) ∧ Below w.heap.size w w') :
    Calls Tryz.prog 117 #[.string s] w fun e w' => e = .returned (.bool true) ∧ Below w.heap.size w w' := by
  have mt := mk_toList
  simp only [Sc.blocks, List.drop_succ_cons, List.drop_zero, List.take_succ_cons, List.take_zero, List.take_nil, List.mem_cons, List.mem_nil_iff, or_false] at hc
  rcases hc with rfl | rfl | rfl | rfl | rfl | rfl | rfl | rfl | rfl | rfl | rfl | rfl | rfl | rfl | rfl | rfl
  all_goals (
    go_enter Tryz.func117, Tryz.ntmps117
    go_wp2_with (go_at_call 105; (with_reducible refine (LW _).mono ?_); rintro e w1 ⟨rfl, b1⟩)
    go_ret
    exact ⟨rfl, b1⟩)
set_option maxHeartbeats 8000000 in
theorem block_yes3 (s : ByteArray) (w : World) (c : List UInt8) (hc : c ∈ (Sc.blocks.drop 48).take 14) (LW : ∀ w, Calls Tryz.prog 105 #[.string s] w fun e w' => e = .returned (.string (mk c)) ∧ Below w.heap.size w w') :
    Calls Tryz.prog 117 #[.string s] w fun e w' => e = .returned (.bool true) ∧ Below w.heap.size w w' := by
  have mt := mk_toList
  simp only [Sc.blocks, List.drop_succ_cons, List.drop_zero, List.take_succ_cons, List.take_zero, List.take_nil, List.mem_cons, List.mem_nil_iff, or_false] at hc
  rcases hc with rfl | rfl | rfl | rfl | rfl | rfl | rfl | rfl | rfl | rfl | rfl | rfl | rfl | rfl
  all_goals (
    go_enter Tryz.func117, Tryz.ntmps117
    go_wp2_with (go_at_call 105; (with_reducible refine (LW _).mono ?_); rintro e w1 ⟨rfl, b1⟩)
    go_ret
    exact ⟨rfl, b1⟩)
theorem block_any (s : ByteArray) (w : World) (hs : Small s) :
    Calls Tryz.prog 117 #[.string s] w fun e w' => e = .returned (.bool (Sc.blocks.contains (Sc.lower s.data.toList))) ∧ Below w.heap.size w w' := by
  cases h : Sc.blocks.contains (Sc.lower s.data.toList) with
  | false => exact block_no s w hs h
  | true =>
    have hm : Sc.lower s.data.toList ∈ Sc.blocks := List.contains_iff_mem.1 h
    have LW := fun w => lower_any s w hs
    have e : Sc.blocks = (Sc.blocks.drop 0).take 16 ++ ((Sc.blocks.drop 16).take 16 ++ ((Sc.blocks.drop 32).take 16 ++ (Sc.blocks.drop 48).take 14)) := by rfl
    rw [e] at hm
    rcases List.mem_append.1 hm with h1 | hm
    · exact block_yes0 s w _ h1 LW
    · rcases List.mem_append.1 hm with h1 | hm
      · exact block_yes1 s w _ h1 LW
      · rcases List.mem_append.1 hm with h1 | h1
        · exact block_yes2 s w _ h1 LW
        · exact block_yes3 s w _ h1 LW
end Go.Proofs.YtehmcahdjldhbaaGreatDoor
end
