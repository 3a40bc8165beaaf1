/- The walk of ScanEnds. -/
import Derived.Test.YtokhibghnpcogaaDoorLaw1
import Derived.Test.YtokhibghnpcogaaDoorPEnds
open Go Go.RowKit
set_option linter.unusedVariables false
set_option linter.unusedSimpArgs false
set_option maxRecDepth 100000
namespace Go.Proofs.YtokhibghnpcogaaDoor
open Wk
theorem scanEnds_any (s m : ByteArray) (w : World) (hE : Env w) (hz : s.size ≤ 9223372036854775807) (hz2 : m.size ≤ 9223372036854775807) :
    Calls Tryd.prog 3 #[.string s, .string m] w fun e w' => e = .returned (.bool true) ∧ Below w.heap.size w w' := by
  have AW := awake_any w hE
  by_cases h1 : 500 < s.size
  · go_enter Tryd.func3, Tryd.ntmps3
    go_wp2_with (first
      | (go_at_call 7; (with_reducible refine AW.mono ?_); rintro e w1 ⟨rfl, b1⟩))
    go_ret
    exact ⟨rfl, b1⟩
  by_cases h2 : 500 < m.size
  · go_enter Tryd.func3, Tryd.ntmps3
    go_wp2_with (first
      | (go_at_call 7; (with_reducible refine AW.mono ?_); rintro e w1 ⟨rfl, b1⟩))
    go_ret
    exact ⟨rfl, b1⟩
  have TG := fun w => tag_any s w (by unfold Small; omega)
  have L := Sc.ends_law (l := s.data.toList)
  by_cases h0 : Sc.tag s.data.toList = 0
  · rw [h0] at TG
    clear L
    go_enter Tryd.func3, Tryd.ntmps3
    go_wp2_with (first
      | (go_at_call 7; (with_reducible refine AW.mono ?_); rintro e w1 ⟨rfl, b1⟩)
      | (go_at_call 8; (with_reducible refine (TG _).mono ?_); rintro e w2 ⟨rfl, b2⟩))
    go_ret
    exact ⟨rfl, b1.trans (b2.mono b1.size)⟩
  · obtain ⟨l1, l2, l3, l4, l5, l6⟩ := L h0
    have l5 := l5 m.data.toList
    generalize Sc.tag s.data.toList = n at *
    rw [Sc.len_size] at l2
    have hp0 : 0 < s.size := by omega
    have i0 : s[0] = 60 := by
      have e := Sc.head_of hp0
      rw [e] at l3; simpa using l3
    have hn1 : n - 1 < s.size := by omega
    have i1 : s[n - 1] = 62 := by
      have e := Sc.at_of s (n - 1) hn1
      rw [List.getElem?_eq_getElem (by rw [Sc.len_size]; exact hn1)] at l4
      rw [← e]; exact Option.some.inj l4
    have T1 : ∀ w, Calls Tryd.prog 8 #[.string (s.extract 0 n ++ m)] w fun e w' => e = .returned (.int .i64 n) ∧ Below w.heap.size w w' := by
      intro w
      have hd : (s.extract 0 n ++ m).data.toList = s.data.toList.take n ++ m.data.toList := by
        rw [show (s.extract 0 n ++ m).data = (s.extract 0 n).data ++ m.data from ByteArray.data_append .., Array.toList_append, Sc.take_data]
      have h := tag_any (s.extract 0 n ++ m) w (by unfold Small; rw [← Sc.len_size, hd]; simp; omega)
      rw [hd, l5] at h
      exact h
    have T2 : ∀ w, Calls Tryd.prog 8 #[.string (s.extract 0 (n - 1))] w fun e w' => e = .returned (.int .i64 0) ∧ Below w.heap.size w w' := by
      intro w
      have hd := Sc.take_data s (n - 1)
      have h := tag_any (s.extract 0 (n - 1)) w (by unfold Small; rw [← Sc.len_size, hd]; simp; omega)
      rw [hd, l6] at h
      exact h
    obtain ⟨k, rfl⟩ : ∃ k, n = k + 1 := ⟨n - 1, by omega⟩
    clear l3 l4 l5 l6
    simp only [Nat.add_sub_cancel] at *
    go_enter Tryd.func3, Tryd.ntmps3
    go_wp2_with (first
      | (go_at_call 7; (with_reducible refine AW.mono ?_); rintro e w1 ⟨rfl, b1⟩)
      | (go_at_call 8; (with_reducible refine (TG _).mono ?_); rintro e w2 ⟨rfl, b2⟩)
      | (go_at_call 8; (with_reducible refine (T1 _).mono ?_); rintro e w3 ⟨rfl, b3⟩)
      | (go_at_call 8; (with_reducible refine (T2 _).mono ?_); rintro e w4 ⟨rfl, b4⟩))
    go_ret
    have q2 := b1.trans (b2.mono b1.size)
    have q3 := q2.trans (b3.mono q2.size)
    exact ⟨rfl, q3.trans (b4.mono q3.size)⟩
end Go.Proofs.YtokhibghnpcogaaDoor
