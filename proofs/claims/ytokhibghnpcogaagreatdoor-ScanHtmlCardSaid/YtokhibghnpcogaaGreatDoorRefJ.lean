/- The walks of the reference's Lower and Within. -/
import Derived.Test.YtokhibghnpcogaaGreatDoorRefE
open Go Go.RowKit
set_option linter.unusedVariables false
set_option linter.unusedSimpArgs false
set_option maxRecDepth 100000
namespace Go.Proofs.YtokhibghnpcogaaGreatDoor
open Wk
theorem lower_r (s : ByteArray) (w : World) (hs : Small s) :
    Calls Tryz.prog 56 #[.string s] w fun e w' => e = .returned (.string (mk (Sc.lower s.data.toList))) ∧ Below w.heap.size w w' := by
  have kc := Lib.run_convert_string_bytes (P := Tryz.prog) w 9 51 5 s Tryz.underlying9 Tryz.underlying51 Tryz.underlying5
  have hB := Bytes.conv w s
  have hb := Lib.bytesWorld_below w 5 s
  have hz := Lib.bytesWorld_size w 5 s
  generalize Lib.bytesWorld w 5 s = w1 at *
  generalize grownCap w s.size 0 5 = cap at *
  have hl := Sc.len_size s
  unfold Small at hs
  go_enter Tryz.func56, Tryz.ntmps56
  go_wp2
  go_loopw [4] (fun i wr => ∃ k : Nat, i = .int .i64 k ∧ k ≤ s.size ∧ Bytes w.heap.size (Sc.lowTo k s.data.toList) wr ∧ Below w.heap.size w wr) (fun i _ => s.size - (intOf i).toNat)
  case atStart => exact ⟨0, rfl, Nat.zero_le _, by rw [Sc.lowTo_zero]; exact hB, hb⟩
  case round =>
    obtain ⟨k, rfl, hk, hR, hbr⟩ := hrel
    by_cases hp : k < s.size
    · have hkl : k < s.data.toList.length := by omega
      have hc := hR.cell k (by rw [Sc.lowTo_len]; exact hkl)
      rw [Sc.lowTo_at k _ hkl] at hc
      have hf := hR.free k (by rw [Sc.lowTo_len]; exact hkl)
      have hst := Lib.hid (Sc.lowTo_step k s.data.toList hkl)
      have hR2 := hR.set k (by rw [Sc.lowTo_len]; exact hkl) (Sc.low s.data.toList[k])
      generalize hbe : s.data.toList[k] = b at *
      have hbe := Lib.hid hbe
      by_cases hq : 65 ≤ b.toNat ∧ b.toNat ≤ 90
      · obtain ⟨hq1, hq2⟩ := hq
        have hlb : ((Sc.low b).toNat : Int) = (b.toNat : Int) + 32 := by
          have key : ∀ n : Fin 256, 65 ≤ n.val → n.val ≤ 90 → (Sc.low n.val.toUInt8).toNat = n.val + 32 := by decide +kernel
          have := key ⟨b.toNat, b.toNat_lt⟩ hq1 hq2
          simp only [Nat.toUInt8, UInt8.ofNat_toNat] at this
          omega
        rw [hlb] at hR2
        have HR2 := Lib.hid hR2
        clear hR2 hlb
        go_wp2
        go_roundw
        case rel => exact ⟨k + 1, by go_num, by omega, by rw [hst.out]; exact HR2.out, hbr.setCell (Nat.le_refl _) _⟩
        case measure => simp [intOf]; omega
      · have hlb : Sc.low b = b := by
          have key : ∀ n : Fin 256, ¬ (65 ≤ n.val ∧ n.val ≤ 90) → Sc.low n.val.toUInt8 = n.val.toUInt8 := by decide +kernel
          have := key ⟨b.toNat, b.toNat_lt⟩ hq
          simpa only [Nat.toUInt8, UInt8.ofNat_toNat] using this
        have hR3 : Bytes w.heap.size (Sc.lowTo (k + 1) s.data.toList) wr := by
          rw [hst.out, hlb]
          have e : (Sc.lowTo k s.data.toList).set k b = Sc.lowTo k s.data.toList := by
            apply List.ext_getElem?
            intro i
            rw [List.getElem?_set, Sc.lowTo_len]
            by_cases e : k = i
            · subst e
              rw [if_pos rfl, if_pos hkl, List.getElem?_eq_getElem (by rw [Sc.lowTo_len]; exact hkl), Sc.lowTo_at k _ hkl, hbe.out]
            · rw [if_neg e]
          rw [e]; exact hR
        clear hR2 hst hlb
        by_cases h65 : 65 ≤ b.toNat
        · have h90 : ¬ b.toNat ≤ 90 := fun h => hq ⟨h65, h⟩
          clear hq
          go_wp2
          go_roundw
          case rel => exact ⟨k + 1, by go_num, by omega, hR3, hbr⟩
          case measure => simp [intOf]; omega
        · clear hq
          go_wp2
          go_roundw
          case rel => exact ⟨k + 1, by go_num, by omega, hR3, hbr⟩
          case measure => simp [intOf]; omega
    · have hk' : k = s.data.toList.length := by omega
      have hcv : (convert 51 9 (.slice (some ⟨w.heap.size, 0, none⟩) s.size cap)).run Tryz.prog wr = .ok (.string (mk (Sc.lower s.data.toList))) wr := by
        have hlen : (Sc.lower s.data.toList).length = s.size := by unfold Sc.lower; simp
        rw [hk', Sc.lowTo_all] at hR
        have := run_convert_bytes_back (P := Tryz.prog) wr 51 9 5 ⟨w.heap.size, 0, none⟩ cap (Sc.lower s.data.toList) Tryz.underlying51 Tryz.underlying5 Tryz.underlying9 (fun j hj => by
          have e : (⟨w.heap.size, 0, none⟩ : Addr).add j = ⟨w.heap.size, j, none⟩ := by unfold Addr.add; split <;> simp_all
          rw [e, hR.cell j hj])
        rw [hlen] at this
        exact this
      clear hk'
      go_wp2
      go_ret
      exact ⟨rfl, hbr⟩
theorem occ_of_slice {s t : ByteArray} {i : Nat} (h : i + t.size ≤ s.size) : Lib.occAt s.data.toList t.data.toList i = ((s.extract i (i + t.size)).toList == t.toList) := by
  have hd : (s.extract i (i + t.size)).data.toList = (s.data.toList.drop i).take t.size := by
    obtain ⟨⟨l⟩⟩ := s
    rw [ByteArray.extract_mk]
    simp [List.take_drop]
  rw [toList_data, toList_data, hd]
  unfold Lib.occAt
  rw [Bool.eq_iff_iff, beq_iff_eq, List.isPrefixOf_iff_prefix, List.prefix_iff_eq_take, Sc.len_size]
  exact eq_comm
theorem within_r (s t : ByteArray) (w : World) (hs : Small s) (ht : Small t) :
    Calls Tryz.prog 64 #[.string s, .string t] w fun e w' => e = .returned (.bool (Lib.contains s.data.toList t.data.toList)) ∧ w = w' := by
  generalize hX : Lib.contains s.data.toList t.data.toList = X
  have HX := Lib.hid hX.symm
  clear hX
  unfold Small at hs ht
  go_enter Tryz.func64, Tryz.ntmps64
  go_wp2
  go_loop [5] (fun i => ∃ k : Nat, i = .int .i64 k ∧ k ≤ s.size + 1 ∧ Hid (Lib.NoOcc s.data.toList t.data.toList k)) (fun i => s.size + 1 - (intOf i).toNat)
  case atStart => exact ⟨0, rfl, Nat.zero_le _, Lib.hid (Lib.NoOcc.zero _ _)⟩
  case round =>
    obtain ⟨k, rfl, hk, HN⟩ := hrel
    by_cases hp : k + t.size ≤ s.size
    · have O := occ_of_slice hp
      cases ho : Lib.occAt s.data.toList t.data.toList k with
      | true =>
        have q : ((s.extract k (k + t.size)).toList == t.toList) = true := by rw [← O]; exact ho
        have F := Lib.hid (show X = true by
          rw [HX.out]; unfold Lib.contains
          rw [Lib.index_first (by rw [Sc.len_size]; omega) ho HN.out]; simp)
        clear O ho
        go_wp2
        go_ret
        exact ⟨by rw [F.out]; rfl, rfl⟩
      | false =>
        have q : ((s.extract k (k + t.size)).toList == t.toList) = false := by rw [← O]; exact ho
        have HN2 := Lib.hid (show Lib.NoOcc s.data.toList t.data.toList (k + 1) from fun j hj => by
          by_cases e : j = k
          · rw [e]; exact ho
          · exact HN.out j (by omega))
        clear O ho
        go_wp2
        go_round
        case rel => exact ⟨k + 1, by go_num, by omega, HN2⟩
        case measure => simp [intOf]; omega
    · have F := Lib.hid (show X = false by
        rw [HX.out]; unfold Lib.contains
        rw [Lib.index_none fun j hj => ?_]
        · simp
        · by_cases e : j < k
          · exact HN.out j e
          · cases ho : Lib.occAt s.data.toList t.data.toList j with
            | false => rfl
            | true =>
              rw [Sc.len_size] at hj
              rcases Lib.occAt_room ho with h | h
              · rw [Sc.len_size, Sc.len_size] at h; omega
              · have h2 : t.size = 0 := by rw [← Sc.len_size, h]; rfl
                omega)
      go_wp2
      go_ret
      exact ⟨by rw [F.out]; rfl, rfl⟩
end Go.Proofs.YtokhibghnpcogaaGreatDoor
