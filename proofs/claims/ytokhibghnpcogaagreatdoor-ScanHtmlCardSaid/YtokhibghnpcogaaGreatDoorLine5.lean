/- The walks of scan's cutRight and Rule. -/
import Derived.Test.YtokhibghnpcogaaGreatDoorLine4
import Derived.Lib.QuietBelow
open Go Go.RowKit
set_option linter.unusedVariables false
set_option maxRecDepth 100000
namespace Go.Proofs.YtokhibghnpcogaaGreatDoor
open Wk
/-- What is read of the library's variables. -/
structure Env (w : World) : Prop where
  u8 : Lib.Utf8Tabs 3 4 w
  ml : ∃ m : Int, w.cell? ⟨0, 0, none⟩ = some (.int .i64 m)
theorem cell_lt {w : World} {a : Addr} {v : Value} (h : w.cell? a = some v) : a.block < w.heap.size := by
  unfold World.cell? at h
  cases e : w.heap[a.block]? with
  | none => rw [e] at h; simp at h
  | some o => exact (Array.getElem?_eq_some_iff.1 e).1
theorem Env.below {w w' : World} (h : Env w) (hb : Below w.heap.size w w') : Env w' :=
  ⟨Utf8Tabs_below h.u8 hb, by obtain ⟨m, hm⟩ := h.ml; exact ⟨m, by rw [hb.cell (cell_lt hm)]; exact hm⟩⟩
theorem Env.drew {w : World} (h : Env w) : Env w.drew := h.below (Below.refl _ _).drew
theorem get_mk (l : List UInt8) (i : Nat) (h : i < l.length) : (mk l)[i]'(by rw [mk_size]; exact h) = l[i] := rfl
theorem decodeL_first (b : UInt8) (t : List UInt8) : (b.toNat < 128 → Lib.decodeL (b :: t) = (b.toNat, 1)) ∧ (128 ≤ b.toNat → 128 ≤ (Lib.decodeL (b :: t)).1) := by
  have h0 : 0 < (mk (b :: t)).size := by rw [mk_size]; simp
  have hb : (mk (b :: t))[0] = b := rfl
  refine ⟨fun h => ?_, fun h => ?_⟩
  · have := decode_ascii (mk (b :: t)) 0 h0 (by rw [hb]; exact h)
    rw [hb] at this; exact this
  · exact (decode_high (mk (b :: t)) 0 h0 (by rw [hb]; exact h)).1
theorem lastStart_lt {l : List UInt8} (h : l ≠ []) : Lib.lastStart l < l.length := by
  have : 0 < l.length := List.length_pos_iff.2 h
  unfold Lib.lastStart
  simp only
  repeat' split
  all_goals omega
theorem decodeLast_ascii (l : List UInt8) (b : UInt8) (h : b.toNat < 128) : Lib.decodeLastL (l ++ [b]) = (b.toNat, 1) := by
  have e : (l ++ [b]).getD ((l ++ [b]).length - 1) 0 = b := by simp
  unfold Lib.decodeLastL
  rw [if_neg (by simp), e, if_pos h]
theorem decodeLast_high (l : List UInt8) (b : UInt8) (h : 128 ≤ b.toNat) : 128 ≤ (Lib.decodeLastL (l ++ [b])).1 := by
  have e : (l ++ [b]).getD ((l ++ [b]).length - 1) 0 = b := by simp
  have hlt := lastStart_lt (l := l ++ [b]) (by simp)
  unfold Lib.decodeLastL
  rw [if_neg (by simp), e, if_neg (by omega)]
  simp only
  split
  · rename_i hw
    have hc := List.drop_eq_getElem_cons hlt
    rw [hc] at hw ⊢
    have hd := decodeL_first ((l ++ [b])[Lib.lastStart (l ++ [b])]) ((l ++ [b]).drop (Lib.lastStart (l ++ [b]) + 1))
    by_cases ha : ((l ++ [b])[Lib.lastStart (l ++ [b])]).toNat < 128
    · exfalso
      rw [hd.1 ha] at hw
      simp only at hw
      have : (l ++ [b])[Lib.lastStart (l ++ [b])] = b := by
        have e2 : Lib.lastStart (l ++ [b]) = l.length := by simp at hw; omega
        simp only [e2]
        simp
      rw [this] at ha; omega
    · exact hd.2 (by omega)
  · decide
theorem trimR_snoc (l : List UInt8) (b : UInt8) (cs : List UInt8) : Sc.trimR (l ++ [b]) cs = if cs.contains b then Sc.trimR l cs else l ++ [b] := by
  unfold Sc.trimR Lib.trimRightS
  rw [List.reverse_append, List.reverse_singleton, List.singleton_append, List.dropWhile_cons]
  split <;> simp
/-- The last character of a text: is it in an ASCII set? -/
theorem inSet_last (l : List UInt8) (b : UInt8) (cs : List UInt8) (hl : ∀ b ∈ cs, b.toNat < 128) : inSet (Lib.decodeLastL (l ++ [b])).1 cs = cs.contains b ∧ (cs.contains b = true → (Lib.decodeLastL (l ++ [b])).2 = 1) := by
  by_cases ha : b.toNat < 128
  · rw [decodeLast_ascii l b ha]; exact ⟨inSet_ascii _ _, fun _ => rfl⟩
  · have hd := decodeLast_high l b (by omega)
    have hn : cs.contains b = false := by
      rw [Bool.eq_false_iff]; intro hc
      have := hl _ (List.contains_iff_mem.1 hc); omega
    rw [inSet_high _ _ hl hd, hn]; exact ⟨rfl, by simp⟩

/-- How long a text is. -/
def strSize : Value → Nat
  | .string t => t.size
  | _ => 0
set_option maxHeartbeats 1000000 in
theorem cutRight_any (s set : ByteArray) (w : World) (hs : Small s) (hE : Env w) (hascii : ∀ b ∈ set.data.toList, b.toNat < 128) :
    Calls Tryz.prog 48 #[.string s, .string set] w fun e w' => e = .returned (.string (mk (Sc.trimR s.data.toList set.data.toList))) ∧ Below w.heap.size w w' := by
  generalize hF : Sc.trimR s.data.toList set.data.toList = F
  have HF := Lib.hid hF
  have H := Lib.hid hascii
  clear hascii hF
  unfold Small at hs
  go_enter Tryz.func48, Tryz.ntmps48
  go_wp2
  go_loopw [0, 5, 6, 7, 9] (fun v0 _ _ _ _ wr => ∃ t : ByteArray, v0 = .string t ∧ t.size ≤ s.size ∧ Hid (Sc.trimR t.data.toList set.data.toList = F) ∧ Below w.heap.size w wr) (fun v0 _ _ _ _ wr => strSize v0)
  case atStart => exact ⟨s, rfl, Nat.le_refl _, HF, Below.refl _ _⟩
  case round =>
    obtain ⟨t, rfl, hts, HT, hb⟩ := hrel
    have hE1 := hE.below hb
    have DL := Tryz.utf8_DecodeLastRuneInString t wr (by omega) hE1.u8
    by_cases hp : 0 < t.size
    · obtain ⟨l, b, hl⟩ : ∃ l b, t.data.toList = l ++ [b] := by
        have hne : t.data.toList ≠ [] := by intro h; have := Sc.len_size t; rw [h] at this; simp at this; omega
        exact ⟨t.data.toList.dropLast, t.data.toList.getLast hne, (List.dropLast_concat_getLast hne).symm⟩
      have HIN := inSet_last l b set.data.toList H.out
      have hsn := trimR_snoc l b set.data.toList
      have hlen : l.length + 1 = t.size := by rw [← Sc.len_size, hl]; simp
      rw [hl] at DL
      generalize hd : Lib.decodeLastL (l ++ [b]) = dl at *
      obtain ⟨c, n⟩ := dl
      simp only at DL HIN
      clear hd
      have HIN := Lib.hid HIN
      have HSN := Lib.hid hsn
      have hsz := Lib.hid (show strSize (.string t) = t.size from rfl)
      clear hsn
      go_wp2_with (go_at_call 85; (with_reducible refine DL.mono ?_); rintro e w2 ⟨rfl, hb2⟩)
      have hb2' := hb.trans (hb2.mono hb.size)
      go_loopw [7, 9] (fun i _ wi => ∃ j : Nat, i = .bool (inSet c (set.data.toList.take j)) ∧ j ≤ set.size ∧ wi.heap[w2.heap.size]? = some (.stringIter set j) ∧ Below w2.heap.size w2 wi) (fun _ _ wi => set.size - wi.iterPos w2.heap.size)
      case atStart => exact ⟨0, rfl, Nat.zero_le _, World.iter_heap w2 set 0, (Below.refl _ _).alloc (Nat.le_refl _) _⟩
      case round =>
        obtain ⟨j, rfl, hj, hit3, hb3⟩ := hrel
        have hmj : wr.iterPos w2.heap.size = j := by simp [World.iterPos, hit3]
        have HMJ := Lib.hid hmj
        clear hmj
        by_cases hq : j < set.size
        · have hnx2 : ∀ ty, (Instr.next (.pointer (some ⟨w2.heap.size, 0, none⟩)) true ty).run Tryz.prog wr = _ := fun ty => Lib.run_next_ascii_at wr w2.heap.size set j ty hit3 hq (H.out _ (List.getElem_mem (by simpa using hq : j < set.data.toList.length)))
          have hit4 := Lib.iterAt_heap wr w2.heap.size set j (j + 1) hit3
          have hb4 := Lib.below_iterAt hb3 (Nat.le_refl _) set (j + 1)
          have HS := Lib.hid (inSet_snoc c set j hq)
          generalize hW4 : wr.iterAt w2.heap.size set (j + 1) = w4 at *
          clear hW4
          have hmj4 : w4.iterPos w2.heap.size = j + 1 := by simp [World.iterPos, hit4]
          have HMJ4 := Lib.hid hmj4
          clear hmj4
          cases hI : inSet c (set.data.toList.take j) with
          | true =>
            go_wp2
            go_roundw
            case rel => exact ⟨j + 1, by rw [HS.out, hI]; rfl, by omega, hit4, hb4⟩
            case measure => rw [HMJ4.out, HMJ.out]; omega
          | false =>
            go_wp2
            go_roundw
            case rel => exact ⟨j + 1, by rw [HS.out, hI, ← beq_nat]; simp, by omega, hit4, hb4⟩
            case measure => rw [HMJ4.out, HMJ.out]; omega
        · have hnx2 : ∀ ty, (Instr.next (.pointer (some ⟨w2.heap.size, 0, none⟩)) true ty).run Tryz.prog wr = _ := fun ty => Lib.run_next_end_at wr w2.heap.size set j ty hit3 hq
          have hall : set.data.toList.take j = set.data.toList := List.take_of_length_le (by simp; omega)
          rw [hall, HIN.out.1]
          clear hall
          have hb5 := hb2'.trans (hb3.mono hb2'.size)
          cases hI : set.data.toList.contains b with
          | true =>
            have hw := HIN.out.2 hI
            subst hw
            have HX := Lib.hid (show (t.extract 0 (t.size - 1)).data.toList = l by rw [Sc.take_data, hl]; simp [← hlen])
            have HXz : (t.extract 0 (t.size - 1)).size = t.size - 1 := by rw [← Sc.len_size, HX.out]; omega
            have HXz := Lib.hid HXz
            have hsub : (t.size : Int) - 1 = ((t.size - 1 : Nat) : Int) := by omega
            have HT2 : Hid (Sc.trimR l set.data.toList = F) := by rw [← HT.out, hl, HSN.out, if_pos hI]; rfl
            clear hl hlen
            go_wp2
            refine ⟨⟨_, rfl, by rw [HXz.out]; omega, by rw [HX.out]; exact HT2, hb5⟩, ?_⟩
            show (t.extract 0 (t.size - 1)).size < t.size
            rw [HXz.out]; omega
          | false =>
            have HT2 : Hid (t.data.toList = F) := by rw [← HT.out, hl, HSN.out, if_neg (by rw [hI]; simp)]; rfl
            clear hl hlen
            go_wp2
            go_ret
            exact ⟨by rw [← HT2.out, mk_self]; rfl, hb5⟩
    · have h0 : t.data.toList = [] := by
        cases h : t.data.toList with
        | nil => rfl
        | cons b l => have := Sc.len_size t; rw [h] at this; simp at this; omega
      have HT2 : Hid (t.data.toList = F) := by rw [← HT.out, h0]; rfl
      clear h0
      go_wp2
      go_ret
      exact ⟨by rw [← HT2.out, mk_self]; rfl, hb⟩
namespace Sc
/-- Is a text a rule? -/
def rule : List UInt8 → Bool
  | [] => false
  | b :: t => (b == 42 || b == 45 || b == 95) && decide (3 ≤ (b :: t).count b) && (b :: t).all (fun x => ([32, 9, b] : List UInt8).contains x)
end Sc
theorem trimR_all (l cs : List UInt8) : Sc.trimR (l.dropWhile (cs.contains ·)) cs = [] ↔ l.all (cs.contains ·) = true := by
  rw [← Sc.dropWhile_nil (p := (cs.contains ·))]
  constructor
  · intro h
    cases e : l.dropWhile (cs.contains ·) with
    | nil => rfl
    | cons b t =>
      exfalso
      have hb : cs.contains b = false := by
        have := List.head?_dropWhile_not (cs.contains ·) l
        rw [e] at this
        simpa using this
      rw [e] at h
      unfold Sc.trimR Lib.trimRightS at h
      rw [List.reverse_eq_nil_iff, Sc.dropWhile_nil, List.all_reverse, List.all_cons, hb] at h
      simp at h
  · intro h; rw [h]; rfl
theorem cutLeft_v (s set : ByteArray) (w : World) (hascii : ∀ b ∈ set.data.toList, b.toNat < 128) :
    Calls Tryz.prog 49 #[.string s, .string set] w fun e w' => e = .returned (.string (mk (s.data.toList.dropWhile (set.data.toList.contains ·)))) ∧ Below w.heap.size w w' :=
  (cutLeft_any s set w hascii).mono fun e w' ⟨r, he, hr, hb⟩ => ⟨by rw [he, mk_of hr], hb⟩
set_option maxHeartbeats 1000000 in
theorem rule_any (s : ByteArray) (w : World) (hs : Small s) (hE : Env w) :
    Calls Tryz.prog 15 #[.string s] w fun e w' => e = .returned (.bool (Sc.rule s.data.toList)) ∧ Below w.heap.size w w' := by
  by_cases h0 : s.data.toList = []
  · have h1 : s.toList = [] := by rw [toList_data, h0]
    rw [h0]
    clear h0
    go_enter Tryz.func15, Tryz.ntmps15
    go_wp2
    go_ret
    exact ⟨rfl, Below.refl _ _⟩
  · have hsz := Sc.size_pos h0
    have h1 : (s.toList == ([] : List UInt8)) = false := by rw [toList_data, beq_eq_false_iff_ne]; exact h0
    have key : ∀ b : UInt8, decide (Lib.indexByte [42, 45, 95] b < 0) = !(b == 42 || b == 45 || b == 95) := fun b => by
      have k : ∀ n : Fin 256, decide (Lib.indexByte [42, 45, 95] n.val.toUInt8 < 0) = !(n.val.toUInt8 == 42 || n.val.toUInt8 == 45 || n.val.toUInt8 == 95) := by decide +kernel
      have := k ⟨b.toNat, b.toNat_lt⟩
      simpa using this
    have K := key s[0]
    have F : Sc.rule s.data.toList = ((s[0] == 42 || s[0] == 45 || s[0] == 95) && decide (3 ≤ s.data.toList.count s[0]) && s.data.toList.all (fun x => ([32, 9, s[0]] : List UInt8).contains x)) := by
      have G : ∀ (b : UInt8) (t l : List UInt8), l = b :: t → Sc.rule l = ((b == 42 || b == 45 || b == 95) && decide (3 ≤ l.count b) && l.all (fun x => ([32, 9, b] : List UInt8).contains x)) := by
        intro b t l h; subst h; rfl
      exact G _ _ _ (Sc.head_of hsz)
    have hx : s.extract 0 1 = mk [s[0]] := mk_of (by rw [Sc.take_data]; have := congrArg (List.take 1) (Sc.head_of hsz); simpa using this)
    have IX := fun w => Tryz.strings_IndexByte ⟨#[42, 45, 95]⟩ s[0].toNat w
    rw [byte_back] at IX
    have CN := fun w => Tryz.strings_Count_one s s[0] w
    rw [F]
    clear key F h0
    cases hq : (s[0] == 42 || s[0] == 45 || s[0] == 95) with
    | false =>
      rw [hq] at K
      have hix : Lib.indexByte [42, 45, 95] s[0] < 0 := by simpa using K
      clear hq K
      go_enter Tryz.func15, Tryz.ntmps15
      go_wp2_with (go_at_call 43; (with_reducible refine (IX _).mono ?_); rintro e w1 ⟨rfl, rfl⟩)
      go_ret
      exact ⟨rfl, Below.refl _ _⟩
    | true =>
      rw [hq] at K
      have hix : ¬ Lib.indexByte [42, 45, 95] s[0] < 0 := by simpa using K
      have hb0 : s[0].toNat < 128 := by
        have k : ∀ n : Fin 256, (n.val.toUInt8 == 42 || n.val.toUInt8 == 45 || n.val.toUInt8 == 95) = true → n.val.toUInt8.toNat < 128 := by decide +kernel
        have := k ⟨s[0].toNat, s[0].toNat_lt⟩
        simp only [Nat.toUInt8, UInt8.ofNat_toNat] at this
        exact this hq
      clear hq K
      have hs1 : (1 : Int) ≤ (s.size : Int) := by omega
      have hs2 : 1 ≤ s.size := hsz
      have hmz : (mk [s[0]]).size = 1 := rfl
      by_cases h3 : 3 ≤ s.data.toList.count s[0]
      · rw [decide_eq_true h3]
        have h3i : decide ((3 : Int) ≤ (Lib.countByte s.data.toList s[0] : Int)) = true := by rw [decide_eq_true_iff]; unfold Lib.countByte; omega
        have hcat : ((⟨#[32, 9]⟩ : ByteArray) ++ mk [s[0]]) = mk [32, 9, s[0]] := rfl
        have hset : ∀ b ∈ (mk [32, 9, s[0]]).data.toList, b.toNat < 128 := by
          intro b hb
          simp only [mk_data, List.mem_cons, List.mem_nil_iff, or_false] at hb
          rcases hb with rfl | rfl | rfl
          · decide
          · decide
          · exact hb0
        have hdz : Small (mk (s.data.toList.dropWhile (([32, 9, s[0]] : List UInt8).contains ·))) := by
          have := Sc.len_dropWhile (p := (([32, 9, s[0]] : List UInt8).contains ·)) s.data.toList
          unfold Small at *; rw [mk_size]; rw [Sc.len_size] at this; omega
        have cL : ∀ d os, Calls Tryz.prog 49 #[.string s, .string (mk [32, 9, s[0]])] (Go.Sort.grow (redrawn w d) os) fun e w'' => e = .returned (.string (mk (s.data.toList.dropWhile (([32, 9, s[0]] : List UInt8).contains ·)))) ∧ ∃ p : Regrown, w'' = Go.Sort.grow (redrawn w p.d) p.os := fun d os => Calls.regrown_of (cutLeft_v s (mk [32, 9, s[0]]) _ hset)
        have cR : ∀ d os, Calls Tryz.prog 48 #[.string (mk (s.data.toList.dropWhile (([32, 9, s[0]] : List UInt8).contains ·))), .string (mk [32, 9, s[0]])] (Go.Sort.grow (redrawn w d) os) fun e w'' => e = .returned (.string (mk (Sc.trimR (s.data.toList.dropWhile (([32, 9, s[0]] : List UInt8).contains ·)) [32, 9, s[0]]))) ∧ ∃ p : Regrown, w'' = Go.Sort.grow (redrawn w p.d) p.os := fun d os => Calls.regrown_of (cutRight_any _ (mk [32, 9, s[0]]) _ hdz (hE.below (below_regrown w d os)) hset)
        have mt := mk_toList
        have FIN : Hid ((Sc.trimR (s.data.toList.dropWhile (([32, 9, s[0]] : List UInt8).contains ·)) [32, 9, s[0]]).isEmpty = (true && true && s.data.toList.all (fun x => ([32, 9, s[0]] : List UInt8).contains x))) := by
          have e : ∀ {l : List UInt8} {b : Bool}, (l = [] ↔ b = true) → l.isEmpty = b := fun {l b} h => by rw [Bool.eq_iff_iff, List.isEmpty_iff]; exact h
          exact e (trimR_all _ _)
        generalize Sc.trimR (s.data.toList.dropWhile (([32, 9, s[0]] : List UInt8).contains ·)) [32, 9, s[0]] = tr at *
        generalize s.data.toList.dropWhile (([32, 9, s[0]] : List UInt8).contains ·) = dw at *
        generalize s.data.toList.all (fun x => ([32, 9, s[0]] : List UInt8).contains x) = al at *
        clear hset hb0
        go_enter Tryz.func15, Tryz.ntmps15
        go_wp2_with (first
          | (go_at_call 43; (with_reducible refine (IX _).mono ?_); rintro e w1 ⟨rfl, rfl⟩)
          | (go_at_call 47; refine (CN _).mono ?_; rintro e w1 ⟨rfl, rfl⟩))
        refine wp_region_quiet_below (by kernel_rfl) (by kernel_rfl) ?_
        repeat (first | go_big_quiet_step ((first | exact cL _ _ | exact cR _ _)) | quiet_step ((first | exact cL _ _ | exact cR _ _)))
        refine wpQuiet_nil ?_
        intro _ hw'
        obtain ⟨⟨dq, osq⟩, hw''⟩ := hw'
        subst hw''
        go_wp2
        go_ret
        exact ⟨ret_bool FIN.out, below_regrown _ dq osq⟩
      · rw [decide_eq_false h3]
        have h3i : decide ((3 : Int) ≤ (Lib.countByte s.data.toList s[0] : Int)) = false := by rw [decide_eq_false_iff_not]; unfold Lib.countByte; omega
        go_enter Tryz.func15, Tryz.ntmps15
        go_wp2_with (first
          | (go_at_call 43; (with_reducible refine (IX _).mono ?_); rintro e w1 ⟨rfl, rfl⟩)
          | (go_at_call 47; refine (CN _).mono ?_; rintro e w1 ⟨rfl, rfl⟩))
        go_quiet (fail)
        go_wp2
        go_ret
        exact ⟨by simp, drewN_below _ _⟩
end Go.Proofs.YtokhibghnpcogaaGreatDoor
