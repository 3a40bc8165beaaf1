/- Parts of this session's proof, one behind the other: M18 M16 M19 M20. -/
import Derived.Test.YtehmcahdjldhbaaGreatDoorZ09
import Derived.Test.YtehmcahdjldhbaaGreatDoorZ06
import Derived.Deep.DeepCutAuto
section
/- Package block: begins: a block that is all of the line. -/
open Go Go.RowKit
set_option linter.unusedVariables false
set_option linter.unusedSimpArgs false
set_option maxRecDepth 100000
namespace Go.Proofs.YtehmcahdjldhbaaGreatDoor
open Wk
namespace Bk
/-- What is asked of escape.Unescape at a text. -/
def UnescC (U : Bs → Bs) (s : Bs) : Prop := ∀ w, Env w → Calls Tryz.prog 80 #[.string (mk s)] w fun e w' => e = .returned (.string (mk (U s))) ∧ Below w.heap.size w w'
theorem lay_line {B : Nat} {w : World} {mb : Nat} {mask : Int} {nb : Nat → Nat} {kv lv : Nat → Value} {ov : Value} {σ : St} {C L : Nat} (h : MRep B w mb mask nb kv lv ov σ) (hF : Fit C L σ) (hC : C ≤ 1000000000000) (d : Nd) (s : Bs) (hl : d.lines = [s]) (hk : d.kids = []) (hp : d.parent = none)
    (cs : Array Value) (hcs : cells nb (.slice none 0 0) (.slice (some ⟨w.heap.size, 0, none⟩) 1 1) d = cs) :
    Calls Tryz.prog 61 #[.pointer (some ⟨mb, 0, none⟩), .pointer (some ⟨w.heap.size + 1, 0, none⟩)] ((w.alloc (.cells #[.string (mk s)] 9)).alloc (.cells cs 53))
      (LayPost B mb mask (w.heap.size + 1) σ.n (σ.lay d) ((w.alloc (.cells #[.string (mk s)] 9)).alloc (.cells cs 53))) := by
  refine lay_any h hF hC (((Below.refl _ _).alloc (Nat.le_refl _) _).alloc (by simp) _) (lv' := .slice (some ⟨w.heap.size, 0, none⟩) 1 1) ?_ ?_ hk hp (by omega) (fun k e => by cases e; exact Nat.le_refl _)
  · rw [hcs]
    have := heap_alloc_new (w.alloc (.cells #[.string (mk s)] 9)) (.cells cs 53)
    rw [World.size_alloc] at this
    exact this
  · rw [hl]
    refine ⟨rfl, .inr ⟨w.heap.size, 1, #[.string (mk s)], rfl, h.mlow, ?_, Nat.le_refl _, by decide, rfl, rfl⟩⟩
    exact blk_below (heap_alloc_new w _) ((Below.refl _ _).alloc (Nat.le_refl _) _)

set_option maxHeartbeats 16000000 in
theorem begins_any {B : Nat} {w : World} {mb : Nat} {mask : Int} {nb : Nat → Nat} {kv lv : Nat → Value} {ov : Value} {σ : St} {C L : Nat} {F : Bs → List Ref × Bs} {U : Bs → Bs} (h : MRep B w mb mask nb kv lv ov σ) (hF : Fit C L σ) (hC : C < 1000000000000) (hL : L ≤ 1000000000000) (hA : Asked F σ)
    (wd : Nat) (hwd : wd ≤ 1000000) (t : Bs) (ht : t.length ≤ 1000000) (hU : UnescC U (Sc.fence t).2.2) :
    Calls Tryz.prog 55 #[.pointer (some ⟨mb, 0, none⟩), .int .i64 wd, .string (mk t)] w (EntPostB B mb mask (σ.begins F U wd t).1 (σ.begins F U wd t).2 w) := by
  have hB := h.mlow
  have hN := hF.near
  have hts := small_of (l := t) (by omega)
  have AX := fun w => atx_any (mk t) w hts
  have FE := fun w => fence_any (mk t) w hts
  have HS := fun w => htmlStart_any (mk t) w hts
  have SE := fun w => setext_any (mk t) w hts
  have RU := fun w hE => rule_any (mk t) w hts hE
  have HE := fun w k hE => htmlEnds_any (mk σ.s) k w (small_of hN.len) hE
  have GO := fun w (h : MRep B w mb mask nb kv lv ov σ) => goes_any h hF.leafN
  have HD := fun w (h : MRep B w mb mask nb kv lv ov σ) => head_any h hF hC hL hA (Sc.setext t)
  rw [mk_data] at AX FE HS SE RU HE
  by_cases ha : 0 < (Sc.atx t).1
  · have e1 : σ.begins F U wd t = (true, σ.lay { kind := 8, N := (Sc.atx t).1, lines := [(Sc.atx t).2] }) := by unfold St.begins; rw [if_pos ha]
    have da : decide ((0 : Int) < ((Sc.atx t).1 : Int)) = true := by rw [decide_eq_true_iff]; omega
    rw [e1]
    clear e1 FE HS SE RU HE GO HD
    generalize (Sc.atx t).1 = a1 at *
    generalize (Sc.atx t).2 = a2 at *
    have LY := fun w (h : MRep B w mb mask nb kv lv ov σ) => lay_line h hF (by omega) { kind := 8, N := a1, lines := [a2] } a2 rfl rfl rfl _ rfl
    go_enter Tryz.func55, Tryz.ntmps55
    go_wp2_with (first
      | (go_at_call 78; (with_reducible refine (AX _).mono ?_); rintro e w1 ⟨rfl, hb1⟩; have M1 := h.below hb1; have LY1 := LY _ M1; have hbA := ((Below.refl w1.heap.size w1).alloc (Nat.le_refl _) (.cells #[.string (mk a2)] 9)))
      | (go_at_call 61; (refine LY1.mono ?_); clear LY LY1; rintro e w2 ⟨nb2, kv2, lv2, ov2, rfl, M2, hnb2, hb2, og, rfl⟩))
    go_ret
    exact ⟨nb2, kv2, lv2, _, rfl, M2, ((hb1.mono hB).trans ((hbA.alloc (by simp) _).mono M1.mlow)).trans hb2⟩
  · have ha' : (Sc.atx t).1 = 0 := by omega
    rw [ha'] at AX
    generalize (Sc.atx t).2 = a2 at *
    by_cases hf : 0 < (Sc.fence t).2.1
    · have e1 : σ.begins F U wd t = (true, σ.layLeaf { kind := 5, T := U (Sc.fence t).2.2, fc := (Sc.fence t).1, fn := (Sc.fence t).2.1, fi := wd }) := by unfold St.begins; rw [if_neg ha, if_pos hf]
      rw [e1]
      clear e1 ha HS SE RU HE GO HD ha'
      generalize (Sc.fence t).1 = f1 at *
      generalize (Sc.fence t).2.1 = f2 at *
      generalize (Sc.fence t).2.2 = f3 at *
      unfold UnescC at hU
      generalize U f3 = uf at *
      have LY := fun w (h : MRep B w mb mask nb kv lv ov σ) => lay_fresh h hF (by omega) { kind := 5, T := uf, fc := f1, fn := f2, fi := wd } rfl rfl rfl _ rfl
      go_enter Tryz.func55, Tryz.ntmps55
      go_wp2_with (first
        | (go_at_call 78; (with_reducible refine (AX _).mono ?_); rintro e w1 ⟨rfl, hb1⟩; have M1 := h.below hb1)
        | (go_at_call 79; (with_reducible refine (FE _).mono ?_); rintro e w2 ⟨rfl, hb2⟩; have M2 := M1.below hb2)
        | (go_at_call 80; (with_reducible refine (hU _ M2.low.env).mono ?_); rintro e w3 ⟨rfl, hb3⟩; have M3 := M2.below hb3; have LY3 := LY _ M3; have hbA := fun o => ((Below.refl w3.heap.size w3).alloc (Nat.le_refl _) o))
        | (go_at_call 61; (refine LY3.mono ?_); clear LY LY3; rintro e w4 ⟨nb2, kv2, lv2, ov2, rfl, M4, hnb2, hb4, og, rfl⟩; have f3 := M4.free 3; have c3 := M4.c3_none (show (St.lay σ _).leaf = none from rfl); have M5 := M4.mset 3 (ptrV (some (nb2 σ.n))) (σ.layLeaf { kind := 5, T := uf, fc := f1, fn := f2, fi := wd }) rfl rfl rfl rfl; rw [hnb2] at M5; have M6 : MRep B (w4.setCell ⟨mb, 3, none⟩ (.pointer (some ⟨w3.heap.size, 0, none⟩))) mb mask nb2 kv2 lv2 _ (σ.layLeaf { kind := 5, T := uf, fc := f1, fn := f2, fi := wd }) := M5; have hb6 := hb4.setCell (p := ⟨mb, 3, none⟩) M4.mbase (.pointer (some ⟨w3.heap.size, 0, none⟩)); clear M5))
      go_ret
      exact ⟨nb2, kv2, lv2, _, rfl, M6, ((((hb1.mono hB).trans (hb2.mono M1.mlow)).trans (hb3.mono M2.mlow)).trans ((hbA _).mono M3.mlow)).trans hb6⟩
    · have hf' : (Sc.fence t).2.1 = 0 := by omega
      rw [hf'] at FE
      by_cases hh : 0 < Sc.htmlStart t ∧ (Sc.htmlStart t ≠ 7 ∨ σ.goes = false)
      · have ends : Hid (σ.begins F U wd t = (true, if Sc.htmlStart t ≤ 5 ∧ Sc.htmlEnds σ.s (Sc.htmlStart t) = true then (σ.layLeaf { kind := 6, N := Sc.htmlStart t, lines := [σ.s] }).close else σ.layLeaf { kind := 6, N := Sc.htmlStart t, lines := [σ.s] })) := by
          apply Lib.hid; unfold St.begins; rw [if_neg ha, if_neg hf, if_pos hh]
        obtain ⟨hk0, hk7⟩ := hh
        rw [ends.out]
        dsimp only
        clear ends ha hf hf' ha' hU SE RU HD
        have LY := fun w (h : MRep B w mb mask nb kv lv ov σ) => lay_line h hF (by omega) { kind := 6, N := Sc.htmlStart t, lines := [σ.s] } σ.s rfl rfl rfl _ rfl
        have HE2 := fun w hE => HE w (Sc.htmlStart t) hE
        generalize Sc.htmlStart t = k at *
        have hs2 : (σ.layLeaf { kind := 6, N := k, lines := [σ.s] }).s = σ.s := (lay_keeps σ _).1
        have S0 : ∀ {w nb kv lv ov}, MRep B w mb mask nb kv lv ov (σ.layLeaf { kind := 6, N := k, lines := [σ.s] }) → w.cell? ⟨mb, 0, none⟩ = some (.string (mk σ.s)) := fun h => by rw [← hs2]; exact h.c0
        clear hs2 HE
        by_cases k5 : k ≤ 5
        · have e7 : ((k : Int) != 7) = true := by rw [bne_iff_ne]; omega
          have e5 : decide ((k : Int) ≤ 5) = true := by rw [decide_eq_true_iff]; omega
          clear hk7 GO
          cases hq : Sc.htmlEnds σ.s k with
          | true =>
            rw [hq] at HE2
            rw [if_pos ⟨k5, rfl⟩]
            go_enter Tryz.func55, Tryz.ntmps55
            go_wp2_with (first
              | (go_at_call 78; (with_reducible refine (AX _).mono ?_); rintro e w1 ⟨rfl, hb1⟩; have M1 := h.below hb1)
              | (go_at_call 79; (with_reducible refine (FE _).mono ?_); rintro e w2 ⟨rfl, hb2⟩; have M2 := M1.below hb2)
              | (go_at_call 81; (with_reducible refine (HS _).mono ?_); rintro e w3 ⟨rfl, hb3⟩; have M3 := M2.below hb3; have c0 := M3.c0; have LY3 := LY _ M3; have hbA := ((Below.refl w3.heap.size w3).alloc (Nat.le_refl _) (.cells #[.string (mk σ.s)] 9)))
              | (go_at_call 61; (refine LY3.mono ?_); clear LY; rintro e w4 ⟨nb2, kv2, lv2, ov2, rfl, M4, hnb2, hb4, og, rfl⟩; have f3 := M4.free 3; have c3 := M4.c3_none (show (St.lay σ _).leaf = none from rfl); have M5 := M4.mset 3 (ptrV (some (nb2 σ.n))) (σ.layLeaf { kind := 6, N := k, lines := [σ.s] }) rfl rfl rfl rfl; rw [hnb2] at M5; have M6 : MRep B (w4.setCell ⟨mb, 3, none⟩ (.pointer (some ⟨w3.heap.size + 1, 0, none⟩))) mb mask nb2 kv2 lv2 _ (σ.layLeaf { kind := 6, N := k, lines := [σ.s] }) := M5; have hb6 := hb4.setCell (p := ⟨mb, 3, none⟩) M4.mbase (.pointer (some ⟨w3.heap.size + 1, 0, none⟩)); have c0' := S0 M6; clear M5)
              | (go_at_call 76; (with_reducible refine (HE2 _ M6.low.env).mono ?_); rintro e w8 ⟨rfl, hb8⟩; have M8 := M6.below hb8; have f3' := M8.free 3; have c3' := M8.c3_some (i := σ.n) rfl))
            go_ret
            exact ⟨nb2, kv2, lv2, _, rfl, M8.mset 3 (.pointer none) _ rfl rfl rfl rfl, ((((((hb1.mono hB).trans (hb2.mono M1.mlow)).trans (hb3.mono M2.mlow)).trans ((hbA.alloc (by simp) _).mono M3.mlow)).trans hb6).trans (hb8.mono M6.mlow)).setCell M8.mbase _⟩
          | false =>
            rw [hq] at HE2
            rw [if_neg (by simp)]
            go_enter Tryz.func55, Tryz.ntmps55
            go_wp2_with (first
              | (go_at_call 78; (with_reducible refine (AX _).mono ?_); rintro e w1 ⟨rfl, hb1⟩; have M1 := h.below hb1)
              | (go_at_call 79; (with_reducible refine (FE _).mono ?_); rintro e w2 ⟨rfl, hb2⟩; have M2 := M1.below hb2)
              | (go_at_call 81; (with_reducible refine (HS _).mono ?_); rintro e w3 ⟨rfl, hb3⟩; have M3 := M2.below hb3; have c0 := M3.c0; have LY3 := LY _ M3; have hbA := ((Below.refl w3.heap.size w3).alloc (Nat.le_refl _) (.cells #[.string (mk σ.s)] 9)))
              | (go_at_call 61; (refine LY3.mono ?_); clear LY; rintro e w4 ⟨nb2, kv2, lv2, ov2, rfl, M4, hnb2, hb4, og, rfl⟩; have f3 := M4.free 3; have c3 := M4.c3_none (show (St.lay σ _).leaf = none from rfl); have M5 := M4.mset 3 (ptrV (some (nb2 σ.n))) (σ.layLeaf { kind := 6, N := k, lines := [σ.s] }) rfl rfl rfl rfl; rw [hnb2] at M5; have M6 : MRep B (w4.setCell ⟨mb, 3, none⟩ (.pointer (some ⟨w3.heap.size + 1, 0, none⟩))) mb mask nb2 kv2 lv2 _ (σ.layLeaf { kind := 6, N := k, lines := [σ.s] }) := M5; have hb6 := hb4.setCell (p := ⟨mb, 3, none⟩) M4.mbase (.pointer (some ⟨w3.heap.size + 1, 0, none⟩)); have c0' := S0 M6; clear M5)
              | (go_at_call 76; (with_reducible refine (HE2 _ M6.low.env).mono ?_); rintro e w8 ⟨rfl, hb8⟩; have M8 := M6.below hb8; have f3' := M8.free 3; have c3' := M8.c3_some (i := σ.n) rfl))
            go_ret
            exact ⟨nb2, kv2, lv2, _, rfl, M8, (((((hb1.mono hB).trans (hb2.mono M1.mlow)).trans (hb3.mono M2.mlow)).trans ((hbA.alloc (by simp) _).mono M3.mlow)).trans hb6).trans (hb8.mono M6.mlow)⟩
        · have e5 : decide ((k : Int) ≤ 5) = false := by rw [decide_eq_false_iff_not]; omega
          rw [if_neg (fun hx => k5 hx.1)]
          clear HE2
          by_cases k7 : k = 7
          · have hg : σ.goes = false := by rcases hk7 with h | h; exact absurd k7 h; exact h
            rw [hg] at GO
            have e7 : ((k : Int) != 7) = false := by rw [bne_eq_false_iff_eq]; omega
            clear hk7 k7 hg
            go_enter Tryz.func55, Tryz.ntmps55
            go_wp2_with (first
              | (go_at_call 78; (with_reducible refine (AX _).mono ?_); rintro e w1 ⟨rfl, hb1⟩; have M1 := h.below hb1)
              | (go_at_call 79; (with_reducible refine (FE _).mono ?_); rintro e w2 ⟨rfl, hb2⟩; have M2 := M1.below hb2)
              | (go_at_call 81; (with_reducible refine (HS _).mono ?_); rintro e w3 ⟨rfl, hb3⟩; have M3 := M2.below hb3)
              | (go_at_call 52; (with_reducible refine (GO _ M3).mono ?_); rintro e w9 ⟨rfl, hb9⟩; have M9 := M3.below hb9; have c0 := M9.c0; have LY9 := LY _ M9; have hbA := ((Below.refl w9.heap.size w9).alloc (Nat.le_refl _) (.cells #[.string (mk σ.s)] 9)))
              | (go_at_call 61; (refine LY9.mono ?_); clear LY; rintro e w4 ⟨nb2, kv2, lv2, ov2, rfl, M4, hnb2, hb4, og, rfl⟩; have f3 := M4.free 3; have c3 := M4.c3_none (show (St.lay σ _).leaf = none from rfl); have M5 := M4.mset 3 (ptrV (some (nb2 σ.n))) (σ.layLeaf { kind := 6, N := k, lines := [σ.s] }) rfl rfl rfl rfl; rw [hnb2] at M5; have M6 : MRep B (w4.setCell ⟨mb, 3, none⟩ (.pointer (some ⟨w9.heap.size + 1, 0, none⟩))) mb mask nb2 kv2 lv2 _ (σ.layLeaf { kind := 6, N := k, lines := [σ.s] }) := M5; have hb6 := hb4.setCell (p := ⟨mb, 3, none⟩) M4.mbase (.pointer (some ⟨w9.heap.size + 1, 0, none⟩)); have c0' := S0 M6; clear M5))
            go_ret
            exact ⟨nb2, kv2, lv2, _, rfl, M6, (((((hb1.mono hB).trans (hb2.mono M1.mlow)).trans (hb3.mono M2.mlow)).trans (hb9.mono M3.mlow)).trans ((hbA.alloc (by simp) _).mono M9.mlow)).trans hb6⟩
          · have e7 : ((k : Int) != 7) = true := by rw [bne_iff_ne]; omega
            clear hk7 k7 GO
            go_enter Tryz.func55, Tryz.ntmps55
            go_wp2_with (first
              | (go_at_call 78; (with_reducible refine (AX _).mono ?_); rintro e w1 ⟨rfl, hb1⟩; have M1 := h.below hb1)
              | (go_at_call 79; (with_reducible refine (FE _).mono ?_); rintro e w2 ⟨rfl, hb2⟩; have M2 := M1.below hb2)
              | (go_at_call 81; (with_reducible refine (HS _).mono ?_); rintro e w3 ⟨rfl, hb3⟩; have M3 := M2.below hb3; have c0 := M3.c0; have LY3 := LY _ M3; have hbA := ((Below.refl w3.heap.size w3).alloc (Nat.le_refl _) (.cells #[.string (mk σ.s)] 9)))
              | (go_at_call 61; (refine LY3.mono ?_); clear LY; rintro e w4 ⟨nb2, kv2, lv2, ov2, rfl, M4, hnb2, hb4, og, rfl⟩; have f3 := M4.free 3; have c3 := M4.c3_none (show (St.lay σ _).leaf = none from rfl); have M5 := M4.mset 3 (ptrV (some (nb2 σ.n))) (σ.layLeaf { kind := 6, N := k, lines := [σ.s] }) rfl rfl rfl rfl; rw [hnb2] at M5; have M6 : MRep B (w4.setCell ⟨mb, 3, none⟩ (.pointer (some ⟨w3.heap.size + 1, 0, none⟩))) mb mask nb2 kv2 lv2 _ (σ.layLeaf { kind := 6, N := k, lines := [σ.s] }) := M5; have hb6 := hb4.setCell (p := ⟨mb, 3, none⟩) M4.mbase (.pointer (some ⟨w3.heap.size + 1, 0, none⟩)); have c0' := S0 M6; clear M5))
            go_ret
            exact ⟨nb2, kv2, lv2, _, rfl, M6, ((((hb1.mono hB).trans (hb2.mono M1.mlow)).trans (hb3.mono M2.mlow)).trans ((hbA.alloc (by simp) _).mono M3.mlow)).trans hb6⟩
      · have hbg : Hid (σ.begins F U wd t = (if σ.headOk F (Sc.setext t) then (true, σ.head F (Sc.setext t)) else if Sc.rule t then (true, σ.lay { kind := 9 }) else (false, σ))) := by
          apply Lib.hid; unfold St.begins; rw [if_neg ha, if_neg hf, if_neg hh]
        rw [hbg.out]
        have hgoes : 0 < Sc.htmlStart t → Sc.htmlStart t = 7 ∧ σ.goes = true := by
          intro h0
          by_cases h7 : Sc.htmlStart t = 7
          · refine ⟨h7, ?_⟩
            cases hg : σ.goes with
            | true => rfl
            | false => exact absurd ⟨h0, .inr hg⟩ hh
          · exact absurd ⟨h0, .inl h7⟩ hh
        clear hbg hh ha hf ha' hf' HE hU
        have hd2 : ∀ b τ, σ.headOk F (Sc.setext t) = b → σ.head F (Sc.setext t) = τ → ∀ w, MRep B w mb mask nb kv lv ov σ → Calls Tryz.prog 82 #[.pointer (some ⟨mb, 0, none⟩), .int .i64 (Sc.setext t)] w (EntPostB B mb mask b τ w) := fun b τ h1 h2 w h => by rw [← h1, ← h2]; exact HD w h
        have hh2 : σ.headOk F (Sc.setext t) = false → σ.head F (Sc.setext t) = σ := fun h => by unfold St.head; rw [h]; rfl
        generalize σ.head F (Sc.setext t) = hτ at *
        generalize σ.headOk F (Sc.setext t) = hb at *
        have HD := hd2 _ _ rfl rfl
        clear hd2
        unfold EntPostB at HD
        generalize Sc.setext t = sx at *
        generalize Sc.htmlStart t = k at *
        cases hb with
        | true =>
          rw [if_pos rfl]
          by_cases hk0 : 0 < k
          · obtain ⟨k7, hg⟩ := hgoes hk0
            rw [hg] at GO
            have e7 : ((k : Int) != 7) = false := by rw [bne_eq_false_iff_eq]; omega
            clear hgoes hg k7 hh2
            go_enter Tryz.func55, Tryz.ntmps55
            go_wp2_with (first
              | (go_at_call 78; (with_reducible refine (AX _).mono ?_); rintro e w1 ⟨rfl, hb1⟩; have M1 := h.below hb1) | (go_at_call 79; (with_reducible refine (FE _).mono ?_); rintro e w2 ⟨rfl, hb2⟩; have M2 := M1.below hb2)
              | (go_at_call 81; (with_reducible refine (HS _).mono ?_); rintro e w3 ⟨rfl, hb3⟩; have M3 := M2.below hb3)
              | (go_at_call 52; (with_reducible refine (GO _ M3).mono ?_); rintro e w4 ⟨rfl, hb4⟩; have M4 := M3.below hb4)
              | (go_at_call 83; (with_reducible refine (SE _).mono ?_); rintro e w5 ⟨rfl, hb5⟩; have M5 := M4.below hb5)
              | (go_at_call 82; (refine (HD _ M5).mono ?_); rintro e w6 ⟨nb6, kv6, lv6, ov6, rfl, M6, hb6⟩))
            go_ret
            exact ⟨nb6, kv6, lv6, ov6, rfl, M6, (((((hb1.mono hB).trans (hb2.mono M1.mlow)).trans (hb3.mono M2.mlow)).trans (hb4.mono M3.mlow)).trans (hb5.mono M4.mlow)).trans hb6⟩
          · have hk0' : k = 0 := by omega
            rw [hk0'] at HS
            clear hgoes hk0 hk0' hh2
            go_enter Tryz.func55, Tryz.ntmps55
            go_wp2_with (first
              | (go_at_call 78; (with_reducible refine (AX _).mono ?_); rintro e w1 ⟨rfl, hb1⟩; have M1 := h.below hb1) | (go_at_call 79; (with_reducible refine (FE _).mono ?_); rintro e w2 ⟨rfl, hb2⟩; have M2 := M1.below hb2)
              | (go_at_call 81; (with_reducible refine (HS _).mono ?_); rintro e w3 ⟨rfl, hb3⟩; have M3 := M2.below hb3; have M4 := M3)
              | (go_at_call 83; (with_reducible refine (SE _).mono ?_); rintro e w5 ⟨rfl, hb5⟩; have M5 := M4.below hb5)
              | (go_at_call 82; (refine (HD _ M5).mono ?_); rintro e w6 ⟨nb6, kv6, lv6, ov6, rfl, M6, hb6⟩))
            go_ret
            exact ⟨nb6, kv6, lv6, ov6, rfl, M6, ((((hb1.mono hB).trans (hb2.mono M1.mlow)).trans (hb3.mono M2.mlow)).trans (hb5.mono M3.mlow)).trans hb6⟩
        | false =>
          rw [if_neg (by simp)]
          have hσ := hh2 rfl
          subst hσ
          cases hr : Sc.rule t with
          | true =>
            rw [hr] at RU
            rw [if_pos rfl]
            have LY := fun w nb kv lv ov (h : MRep B w mb mask nb kv lv ov hτ) => lay_fresh h hF (by omega) { kind := 9 } rfl rfl rfl _ (zeroNode_cells nb 9)
            by_cases hk0 : 0 < k
            · obtain ⟨k7, hg⟩ := hgoes hk0
              rw [hg] at GO
              have e7 : ((k : Int) != 7) = false := by rw [bne_eq_false_iff_eq]; omega
              clear hgoes hg k7 hh2
              go_enter Tryz.func55, Tryz.ntmps55
              go_wp2_with (first
                | (go_at_call 78; (with_reducible refine (AX _).mono ?_); rintro e w1 ⟨rfl, hb1⟩; have M1 := h.below hb1) | (go_at_call 79; (with_reducible refine (FE _).mono ?_); rintro e w2 ⟨rfl, hb2⟩; have M2 := M1.below hb2)
                | (go_at_call 81; (with_reducible refine (HS _).mono ?_); rintro e w3 ⟨rfl, hb3⟩; have M3 := M2.below hb3)
                | (go_at_call 52; (with_reducible refine (GO _ M3).mono ?_); rintro e w4 ⟨rfl, hb4⟩; have M4 := M3.below hb4)
                | (go_at_call 83; (with_reducible refine (SE _).mono ?_); rintro e w5 ⟨rfl, hb5⟩; have M5 := M4.below hb5) | (go_at_call 82; (refine (HD _ M5).mono ?_); rintro e w6 ⟨nb6, kv6, lv6, ov6, rfl, M6, hb6⟩) | (go_at_call 84; (with_reducible refine (RU _ M6.low.env).mono ?_); rintro e w7 ⟨rfl, hb7⟩; have M7 := M6.below hb7; have LY7 := LY _ _ _ _ _ M7; have hbA := ((Below.refl w7.heap.size w7).alloc (Nat.le_refl _) (.cells #[.int .i64 9, .string ⟨#[]⟩, .string ⟨#[]⟩, .int .i64 0, .int .i64 0, .bool false, .int .i64 0, .int .i64 0, .slice none 0 0, .pointer none, .slice none 0 0, .slice none 0 0, .int .u8 0, .int .i64 0, .int .i64 0, .int .i64 0, .bool false] 53))) | (go_at_call 61; (refine LY7.mono ?_); clear LY LY7; rintro e w8 ⟨nb8, kv8, lv8, ov8, rfl, M8, hnb8, hb8, og, rfl⟩))
              go_ret
              exact ⟨nb8, kv8, lv8, _, rfl, M8, (((((((((hb1.mono hB).trans (hb2.mono M1.mlow)).trans (hb3.mono M2.mlow)).trans (hb4.mono M3.mlow)).trans (hb5.mono M4.mlow)).trans hb6).trans (hb7.mono M6.mlow))).trans (hbA.mono M7.mlow)).trans hb8⟩
            · have hk0' : k = 0 := by omega
              rw [hk0'] at HS
              clear hgoes hk0 hk0' hh2
              go_enter Tryz.func55, Tryz.ntmps55
              go_wp2_with (first
                | (go_at_call 78; (with_reducible refine (AX _).mono ?_); rintro e w1 ⟨rfl, hb1⟩; have M1 := h.below hb1) | (go_at_call 79; (with_reducible refine (FE _).mono ?_); rintro e w2 ⟨rfl, hb2⟩; have M2 := M1.below hb2)
                | (go_at_call 81; (with_reducible refine (HS _).mono ?_); rintro e w3 ⟨rfl, hb3⟩; have M3 := M2.below hb3; have M4 := M3)
                | (go_at_call 83; (with_reducible refine (SE _).mono ?_); rintro e w5 ⟨rfl, hb5⟩; have M5 := M4.below hb5) | (go_at_call 82; (refine (HD _ M5).mono ?_); rintro e w6 ⟨nb6, kv6, lv6, ov6, rfl, M6, hb6⟩) | (go_at_call 84; (with_reducible refine (RU _ M6.low.env).mono ?_); rintro e w7 ⟨rfl, hb7⟩; have M7 := M6.below hb7; have LY7 := LY _ _ _ _ _ M7; have hbA := ((Below.refl w7.heap.size w7).alloc (Nat.le_refl _) (.cells #[.int .i64 9, .string ⟨#[]⟩, .string ⟨#[]⟩, .int .i64 0, .int .i64 0, .bool false, .int .i64 0, .int .i64 0, .slice none 0 0, .pointer none, .slice none 0 0, .slice none 0 0, .int .u8 0, .int .i64 0, .int .i64 0, .int .i64 0, .bool false] 53))) | (go_at_call 61; (refine LY7.mono ?_); clear LY LY7; rintro e w8 ⟨nb8, kv8, lv8, ov8, rfl, M8, hnb8, hb8, og, rfl⟩))
              go_ret
              exact ⟨nb8, kv8, lv8, _, rfl, M8, ((((((((hb1.mono hB).trans (hb2.mono M1.mlow)).trans (hb3.mono M2.mlow)).trans (hb5.mono M3.mlow)).trans hb6).trans (hb7.mono M6.mlow))).trans (hbA.mono M7.mlow)).trans hb8⟩
          | false =>
            rw [hr] at RU
            rw [if_neg (by simp)]
            by_cases hk0 : 0 < k
            · obtain ⟨k7, hg⟩ := hgoes hk0
              rw [hg] at GO
              have e7 : ((k : Int) != 7) = false := by rw [bne_eq_false_iff_eq]; omega
              clear hgoes hg k7 hh2
              go_enter Tryz.func55, Tryz.ntmps55
              go_wp2_with (first
                | (go_at_call 78; (with_reducible refine (AX _).mono ?_); rintro e w1 ⟨rfl, hb1⟩; have M1 := h.below hb1) | (go_at_call 79; (with_reducible refine (FE _).mono ?_); rintro e w2 ⟨rfl, hb2⟩; have M2 := M1.below hb2)
                | (go_at_call 81; (with_reducible refine (HS _).mono ?_); rintro e w3 ⟨rfl, hb3⟩; have M3 := M2.below hb3)
                | (go_at_call 52; (with_reducible refine (GO _ M3).mono ?_); rintro e w4 ⟨rfl, hb4⟩; have M4 := M3.below hb4)
                | (go_at_call 83; (with_reducible refine (SE _).mono ?_); rintro e w5 ⟨rfl, hb5⟩; have M5 := M4.below hb5) | (go_at_call 82; (refine (HD _ M5).mono ?_); rintro e w6 ⟨nb6, kv6, lv6, ov6, rfl, M6, hb6⟩) | (go_at_call 84; (with_reducible refine (RU _ M6.low.env).mono ?_); rintro e w7 ⟨rfl, hb7⟩; have M7 := M6.below hb7))
              go_ret
              exact ⟨nb6, kv6, lv6, ov6, rfl, M7, ((((((hb1.mono hB).trans (hb2.mono M1.mlow)).trans (hb3.mono M2.mlow)).trans (hb4.mono M3.mlow)).trans (hb5.mono M4.mlow)).trans hb6).trans (hb7.mono M6.mlow)⟩
            · have hk0' : k = 0 := by omega
              rw [hk0'] at HS
              clear hgoes hk0 hk0' hh2
              go_enter Tryz.func55, Tryz.ntmps55
              go_wp2_with (first
                | (go_at_call 78; (with_reducible refine (AX _).mono ?_); rintro e w1 ⟨rfl, hb1⟩; have M1 := h.below hb1) | (go_at_call 79; (with_reducible refine (FE _).mono ?_); rintro e w2 ⟨rfl, hb2⟩; have M2 := M1.below hb2)
                | (go_at_call 81; (with_reducible refine (HS _).mono ?_); rintro e w3 ⟨rfl, hb3⟩; have M3 := M2.below hb3; have M4 := M3)
                | (go_at_call 83; (with_reducible refine (SE _).mono ?_); rintro e w5 ⟨rfl, hb5⟩; have M5 := M4.below hb5) | (go_at_call 82; (refine (HD _ M5).mono ?_); rintro e w6 ⟨nb6, kv6, lv6, ov6, rfl, M6, hb6⟩) | (go_at_call 84; (with_reducible refine (RU _ M6.low.env).mono ?_); rintro e w7 ⟨rfl, hb7⟩; have M7 := M6.below hb7))
              go_ret
              exact ⟨nb6, kv6, lv6, ov6, rfl, M7, (((((hb1.mono hB).trans (hb2.mono M1.mlow)).trans (hb3.mono M2.mlow)).trans (hb5.mono M3.mlow)).trans hb6).trans (hb7.mono M6.mlow)⟩
end Bk
end Go.Proofs.YtehmcahdjldhbaaGreatDoor
end
section
/- Package block: Label, where strings.IndexAny answers. -/
open Go Go.RowKit
set_option linter.unusedVariables false
set_option linter.unusedSimpArgs false
set_option maxRecDepth 100000
namespace Go.Proofs.YtehmcahdjldhbaaGreatDoor
open Wk
namespace Bk
def stopSet : Bs := [32, 9, 10, 91, 93]
theorem stop_has (b : UInt8) : stopSet.contains b = stopsLabel b := by
  unfold stopSet stopsLabel
  simp only [List.contains_cons, List.contains_nil, Bool.or_false]
  rcases b with ⟨b⟩
  cases h1 : (UInt8.ofBitVec b == 32) <;> cases h2 : (UInt8.ofBitVec b == 9) <;> cases h3 : (UInt8.ofBitVec b == 10) <;> cases h4 : (UInt8.ofBitVec b == 91) <;> cases h5 : (UInt8.ofBitVec b == 93) <;> rfl
theorem index_stop : ∀ l : Bs, (Lib.indexAny l stopSet = -1 ∧ l.takeWhile (fun b => !stopsLabel b) = l ∧ l.dropWhile (fun b => !stopsLabel b) = []) ∨
    (∃ k : Nat, Lib.indexAny l stopSet = k ∧ k < l.length ∧ l.takeWhile (fun b => !stopsLabel b) = l.take k ∧ l.dropWhile (fun b => !stopsLabel b) = l.drop k)
  | [] => .inl ⟨rfl, rfl, rfl⟩
  | b :: t => by
    simp only [Lib.indexAny, stop_has, List.takeWhile_cons, List.dropWhile_cons]
    cases hb : stopsLabel b with
    | true => right; exact ⟨0, by simp, by simp, by simp, by simp⟩
    | false =>
      rcases index_stop t with ⟨h1, h2, h3⟩ | ⟨k, h1, h2, h3, h4⟩
      · left; simp [h1, h2, h3]
      · right
        refine ⟨k + 1, ?_, by simp; omega, by simp [h3], by simp [h4]⟩
        rw [h1]; simp
/-- Label, as the program reckons it. -/
theorem label_eq (t : Bs) : label t = if Lib.hasPrefix t [91, 94] = true then
    (if Lib.indexAny (t.drop 2) stopSet < 1 then ([], 0) else if Lib.hasPrefix ((t.drop 2).drop (Lib.indexAny (t.drop 2) stopSet).toNat) [93, 58] = true then ((t.drop 2).take (Lib.indexAny (t.drop 2) stopSet).toNat, 2 + (Lib.indexAny (t.drop 2) stopSet).toNat + 2) else ([], 0)) else ([], 0) := by
  have two : ∀ (x y : UInt8) (l : Bs), Lib.hasPrefix l [x, y] = true ↔ ∃ r, l = x :: y :: r := by
    intro x y l
    unfold Lib.hasPrefix
    rw [List.isPrefixOf_iff_prefix]
    constructor
    · rintro ⟨r, rfl⟩; exact ⟨r, rfl⟩
    · rintro ⟨r, rfl⟩; exact ⟨r, rfl⟩
  by_cases hp : Lib.hasPrefix t [91, 94] = true
  · rw [if_pos hp]
    obtain ⟨l, rfl⟩ := (two _ _ _).1 hp
    show labelAt l = if Lib.indexAny l stopSet < 1 then ([], 0) else if Lib.hasPrefix (l.drop (Lib.indexAny l stopSet).toNat) [93, 58] = true then (l.take (Lib.indexAny l stopSet).toNat, 2 + (Lib.indexAny l stopSet).toNat + 2) else ([], 0)
    unfold labelAt
    rcases index_stop l with ⟨h1, h2, h3⟩ | ⟨k, h1, h2, h3, h4⟩
    · rw [h1, h2, h3]
      simp only [show (-1 : Int) < 1 from by decide, if_true]
      cases l <;> rfl
    · rw [h1, h3, h4]
      dsimp only
      by_cases hk : k = 0
      · subst hk
        rw [if_pos (by simp), if_pos (by decide)]
      · rw [if_neg (by cases l with | nil => simp at h2 | cons b r => cases k with | zero => exact absurd rfl hk | succ k => simp), if_neg (by omega)]
        try simp only [Int.toNat_natCast]
        by_cases hq : Lib.hasPrefix (l.drop k) [93, 58] = true
        · obtain ⟨r, hr⟩ := (two _ _ _).1 hq
          rw [if_pos hq, hr]
          show (l.take k, 2 + (l.take k).length + 2) = _
          rw [List.length_take, Nat.min_eq_left (by omega)]
        · rw [if_neg hq]
          split
          · rename_i r hr
            exact absurd ((two _ _ _).2 ⟨_, hr⟩) hq
          · rfl
  · rw [if_neg hp]
    unfold label
    split
    · rename_i l
      exact absurd ((two _ _ _).2 ⟨l, rfl⟩) hp
    · rfl

def IdxC (l : Bs) : Prop := ∀ w, Calls Tryz.prog 29 #[.string (mk l), .string ⟨#[32, 9, 10, 91, 93]⟩] w fun e w' => e = .returned (.int .i64 (Lib.indexAny l stopSet)) ∧ Below w.heap.size w w'
theorem idx_ascii (l : Bs) (hl : l.length ≤ 4000000000) (ha : ∀ b ∈ l, b.toNat < 128) : IdxC l := fun w =>
  Tryz.strings_IndexAny_laid (mk l) ⟨#[32, 9, 10, 91, 93]⟩ w (by rw [mk_size]; omega) (by decide) (fun j b hb => ha b (List.mem_of_getElem? hb)) (ascii_of_all (by decide))
def LabelC (t : Bs) : Prop := ∀ w, Calls Tryz.prog 20 #[.string (mk t)] w fun e w' => e = .returned (.tuple #[.string (mk (label t).1), .int .i64 (label t).2]) ∧ Below w.heap.size w w'

set_option maxHeartbeats 4000000 in
theorem Label_of (t : Bs) (ht : t.length ≤ 4000000000) (hI : IdxC (if Lib.hasPrefix t [91, 94] = true then t.drop 2 else t)) : LabelC t := by
  intro w
  have CP := fun w => Tryz.strings_CutPrefix (mk t) ⟨#[91, 94]⟩ w
  simp only [mk_data] at CP
  have HP : ∀ (l : Bs) w, Calls Tryz.prog 30 #[.string (mk l), .string ⟨#[93, 58]⟩] w fun e w' => e = .returned (.bool (Lib.hasPrefix l [93, 58])) ∧ w' = w := fun l w => by
    have := Tryz.strings_HasPrefix (mk l) ⟨#[93, 58]⟩ w
    rw [mk_data] at this
    exact this
  have LE := Lib.hid (label_eq t)
  cases hp : Lib.hasPrefix t [91, 94] with
  | false =>
    rw [hp] at CP hI LE
    have htp : Lib.trimPrefix t [91, 94] = t := by unfold Lib.trimPrefix; rw [hp]; rfl
    rw [htp] at CP
    change ∀ w, Calls Tryz.prog 28 #[.string (mk t), .string ⟨#[91, 94]⟩] w fun e w' => e = .returned (.tuple #[.string (mk t), .bool false]) ∧ w' = w at CP
    rw [if_neg (by simp)] at hI
    unfold IdxC at hI
    rw [if_neg (by simp)] at LE
    go_enter Tryz.func20, Tryz.ntmps20
    go_wp2_with (first
      | (go_at_call 28; (with_reducible refine (CP _).mono ?_); rintro e w1 ⟨rfl, rfl⟩)
      | (go_at_call 29; (with_reducible refine (hI _).mono ?_); rintro e w2 ⟨rfl, hb2⟩))
    go_ret2
    exact ⟨by rw [LE.out]; rfl, hb2⟩
  | true =>
    rw [hp] at CP hI LE
    have htp : Lib.trimPrefix t [91, 94] = t.drop 2 := by unfold Lib.trimPrefix; rw [hp]; rfl
    rw [htp] at CP
    change ∀ w, Calls Tryz.prog 28 #[.string (mk t), .string ⟨#[91, 94]⟩] w fun e w' => e = .returned (.tuple #[.string (mk (t.drop 2)), .bool true]) ∧ w' = w at CP
    rw [if_pos rfl] at hI
    rw [if_pos rfl] at LE
    have hst := index_stop (t.drop 2)
    have hlen : (t.drop 2).length ≤ 4000000000 := by simp; omega
    generalize t.drop 2 = l at *
    have hsz := mk_size l
    rcases hst with ⟨h1, _, _⟩ | ⟨k, h1, h2, _, _⟩
    · rw [h1] at LE
      unfold IdxC at hI
      rw [h1] at hI
      go_enter Tryz.func20, Tryz.ntmps20
      go_wp2_with (first
        | (go_at_call 28; (with_reducible refine (CP _).mono ?_); rintro e w1 ⟨rfl, rfl⟩)
        | (go_at_call 29; (with_reducible refine (hI _).mono ?_); rintro e w2 ⟨rfl, hb2⟩))
      go_ret2
      exact ⟨by rw [LE.out]; rfl, hb2⟩
    · rw [h1] at LE
      unfold IdxC at hI
      rw [h1] at hI
      have hK := Lib.hid h1
      clear h1
      have hex : Hid ((mk l).extract k (mk l).size = mk (l.drop k)) := by apply Lib.hid; rw [mk_extract, mk_data]
      have htk : Hid ((mk l).extract 0 k = mk (l.take k)) := by apply Lib.hid; exact mk_of (Sc.take_data _ _)
      have HPk := HP (l.drop k)
      by_cases hk : k < 1
      · have dk : decide ((k : Int) < 1) = true := by rw [decide_eq_true_iff]; omega
        go_enter Tryz.func20, Tryz.ntmps20
        go_wp2_with (first
          | (go_at_call 28; (with_reducible refine (CP _).mono ?_); rintro e w1 ⟨rfl, rfl⟩)
          | (go_at_call 29; (with_reducible refine (hI _).mono ?_); rintro e w2 ⟨rfl, hb2⟩))
        go_ret2
        exact ⟨by rw [LE.out, if_pos (by omega)]; rfl, hb2⟩
      · have dk : decide ((k : Int) < 1) = false := by rw [decide_eq_false_iff_not]; omega
        have hexx := hex.out
        rw [hsz] at hexx
        rw [← hexx] at HPk
        cases hq : Lib.hasPrefix (l.drop k) [93, 58] with
        | false =>
          rw [hq] at HPk
          go_enter Tryz.func20, Tryz.ntmps20
          clear hexx
          go_wp2_with (first
            | (go_at_call 28; (with_reducible refine (CP _).mono ?_); rintro e w1 ⟨rfl, rfl⟩)
            | (go_at_call 29; (with_reducible refine (hI _).mono ?_); rintro e w2 ⟨rfl, hb2⟩)
            | (go_at_call 30; (with_reducible refine (HPk _).mono ?_); rintro e w3 ⟨rfl, rfl⟩))
          go_ret2
          exact ⟨by rw [LE.out, if_neg (by omega), if_neg (by rw [Int.toNat_natCast, hq]; simp)]; rfl, hb2⟩
        | true =>
          rw [hq] at HPk
          have e4 : Hid ((label t).1 = l.take k ∧ (label t).2 = 2 + k + 2) := by
            apply Lib.hid
            rw [LE.out, if_neg (by omega), if_pos (by rw [Int.toNat_natCast]; exact hq)]
            exact ⟨by rw [Int.toNat_natCast], by rw [Int.toNat_natCast]⟩
          go_enter Tryz.func20, Tryz.ntmps20
          clear hexx
          go_wp2_with (first
            | (go_at_call 28; (with_reducible refine (CP _).mono ?_); rintro e w1 ⟨rfl, rfl⟩)
            | (go_at_call 29; (with_reducible refine (hI _).mono ?_); rintro e w2 ⟨rfl, hb2⟩)
            | (go_at_call 30; (with_reducible refine (HPk _).mono ?_); rintro e w3 ⟨rfl, rfl⟩))
          go_ret2
          refine ⟨?_, hb2⟩
          rw [e4.out.1, e4.out.2, ← htk.out]
          simp
end Bk
end Go.Proofs.YtehmcahdjldhbaaGreatDoor
end
section
/- Package block: note. -/
open Go Go.RowKit
set_option linter.unusedVariables false
set_option linter.unusedSimpArgs false
set_option maxRecDepth 100000
namespace Go.Proofs.YtehmcahdjldhbaaGreatDoor
open Wk
namespace Bk
theorem Fit.past {C L : Nat} {σ : St} (h : Fit C L σ) (m : Nat) (hm : m ≤ σ.t.length) : Fit C L (σ.past m) := { h with near := h.near.past m hm }
theorem Fit.skipped {C L : Nat} {σ : St} (h : Fit C L σ) (n : Nat) : Fit C L (σ.skipped n) := { h with near := h.near.skipped n }
theorem label_le (t : Bs) : (label t).2 ≤ t.length := by
  rw [label_eq]
  split
  · split
    · exact Nat.zero_le _
    · split
      · rename_i h1 h2 h3
        simp only
        have e : 2 ≤ t.length := by
          unfold Lib.hasPrefix at h1; rw [List.isPrefixOf_iff_prefix] at h1; have := h1.length_le; simpa using this
        have e2 : 2 ≤ ((t.drop 2).drop (Lib.indexAny (t.drop 2) stopSet).toNat).length := by
          unfold Lib.hasPrefix at h3; rw [List.isPrefixOf_iff_prefix] at h3; have := h3.length_le; simpa using this
        simp at e2
        omega
      · exact Nat.zero_le _
  · exact Nat.zero_le _
/-- Does the mask let notes be? -/
def notesOf (mask : Int) : Bool := !(Go.bits .and .i64 mask 32 == 0)

set_option maxHeartbeats 8000000 in
theorem note_any {B : Nat} {w : World} {mb : Nat} {mask : Int} {nb : Nat → Nat} {kv lv : Nat → Value} {ov : Value} {σ : St} {C L : Nat} (h : MRep B w mb mask nb kv lv ov σ) (hF : Fit C L σ) (hC : C < 1000000000000) (hL : L ≤ 1000000000000) (hLb : LabelC σ.t) :
    Calls Tryz.prog 56 #[.pointer (some ⟨mb, 0, none⟩), .string (mk σ.t)] w (EntPostB B mb mask (σ.note (notesOf mask) σ.t).1 (σ.note (notesOf mask) σ.t).2 w) := by
  have hB := h.mlow
  have GO := fun w (h : MRep B w mb mask nb kv lv ov σ) => goes_any h hF.leafN
  unfold LabelC at hLb
  have hle := label_le σ.t
  have hz := hF.near.tLe
  by_cases h0 : (label σ.t).2 = 0
  · have e1 : σ.note (notesOf mask) σ.t = (false, σ) := by unfold St.note; rw [if_pos (Or.inl h0)]
    rw [e1]
    rw [h0] at hLb
    go_enter Tryz.func56, Tryz.ntmps56
    go_wp2_with (first
      | (go_at_call 20; (with_reducible refine (hLb _).mono ?_); rintro e w1 ⟨rfl, hb1⟩; have M1 := h.below hb1))
    go_ret
    exact ⟨nb, kv, lv, ov, rfl, M1, hb1.mono hB⟩
  · have d0 : (((label σ.t).2 : Int) == 0) = false := by rw [beq_eq_false_iff_ne]; omega
    cases hn : notesOf mask with
    | false =>
      have dn : (Go.bits .and .i64 mask 32 == 0) = true := by unfold notesOf at hn; simpa using hn
      have e1 : σ.note false σ.t = (false, σ) := by unfold St.note; rw [if_pos (Or.inr (Or.inl rfl))]
      rw [e1]
      go_enter Tryz.func56, Tryz.ntmps56
      go_wp2_with (first
        | (go_at_call 20; (with_reducible refine (hLb _).mono ?_); rintro e w1 ⟨rfl, hb1⟩; have M1 := h.below hb1; have c7 := M1.c7))
      go_ret
      exact ⟨nb, kv, lv, ov, rfl, M1, hb1.mono hB⟩
    | true =>
      have dn : (Go.bits .and .i64 mask 32 == 0) = false := by unfold notesOf at hn; simpa using hn
      cases hg : σ.goes with
      | true =>
        have e1 : σ.note true σ.t = (false, σ) := by unfold St.note; rw [if_pos (Or.inr (Or.inr hg))]
        rw [hg] at GO
        rw [e1]
        go_enter Tryz.func56, Tryz.ntmps56
        go_wp2_with (first
          | (go_at_call 20; (with_reducible refine (hLb _).mono ?_); rintro e w1 ⟨rfl, hb1⟩; have M1 := h.below hb1; have c7 := M1.c7)
          | (go_at_call 52; (with_reducible refine (GO _ M1).mono ?_); rintro e w2 ⟨rfl, hb2⟩; have M2 := M1.below hb2))
        go_ret
        exact ⟨nb, kv, lv, ov, rfl, M2, (hb1.mono hB).trans (hb2.mono M1.mlow)⟩
      | false =>
        have e1 : Hid (σ.note true σ.t = (true, ((σ.past (label σ.t).2).enter { kind := 13, S := (label σ.t).1 }).skipped ((σ.past (label σ.t).2).enter { kind := 13, S := (label σ.t).1 }).w)) := by
          apply Lib.hid; unfold St.note; rw [if_neg (by rw [hg]; simp [h0])]
        rw [hg] at GO
        rw [e1.out]
        dsimp only
        have PA := fun w (h : MRep B w mb mask nb kv lv ov σ) => mpast_any h hF.near (label σ.t).2 _ rfl hle
        have hF1 := hF.past (label σ.t).2 hle
        generalize σ.past (label σ.t).2 = ρ at *
        generalize (label σ.t).1 = la at *
        generalize (label σ.t).2 = ln at *
        have EN := fun w (h : MRep B w mb mask nb kv lv ov ρ) => enter_fresh h hF1 (by omega) { kind := 13, S := la } rfl rfl rfl _ rfl
        have hF2 := hF1.enter (d := { kind := 13, S := la }) rfl ⟨Nat.zero_le _, Nat.zero_le _, Nat.zero_le _⟩ (Nat.zero_le _)
        have IN := fun w nb kv lv ov (h : MRep B w mb mask nb kv lv ov (ρ.enter { kind := 13, S := la })) => mindent_any h hF2.near
        have hwl := hF2.near.wLe
        have SK := fun w nb kv lv ov (h : MRep B w mb mask nb kv lv ov (ρ.enter { kind := 13, S := la })) => mskip_any h hF2.near (ρ.enter { kind := 13, S := la }).w _ rfl (by omega)
        clear e1
        go_enter Tryz.func56, Tryz.ntmps56
        go_wp2_with (first
          | (go_at_call 20; (with_reducible refine (hLb _).mono ?_); rintro e w1 ⟨rfl, hb1⟩; have M1 := h.below hb1; have c7 := M1.c7)
          | (go_at_call 52; (with_reducible refine (GO _ M1).mono ?_); rintro e w2 ⟨rfl, hb2⟩; have M2 := M1.below hb2)
          | (go_at_call 73; (with_reducible refine (PA _ M2).mono ?_); rintro e w3 ⟨rfl, M3, hb3⟩; have EN3 := EN _ M3; have hbA := fun o => ((Below.refl w3.heap.size w3).alloc (Nat.le_refl _) o))
          | (go_at_call 54; (refine EN3.mono ?_); rintro e w4 ⟨nb4, kv4, lv4, ov4, rfl, M4, hb4⟩)
          | (go_at_call 51; (with_reducible refine (IN _ _ _ _ _ M4).mono ?_); rintro e w5 ⟨rfl, hb5⟩; have M5 := M4.below hb5)
          | (go_at_call 74; (with_reducible refine (SK _ _ _ _ _ M5).mono ?_); rintro e w6 ⟨rfl, M6, hb6⟩))
        go_ret
        exact ⟨nb4, kv4, lv4, ov4, rfl, M6, ((((((hb1.mono hB).trans (hb2.mono M1.mlow)).trans hb3).trans ((hbA _).mono M3.mlow)).trans hb4).trans (hb5.mono M4.mlow)).trans hb6⟩
end Bk
end Go.Proofs.YtehmcahdjldhbaaGreatDoor
end
section
/- Package block: item. -/
open Go Go.RowKit
set_option linter.unusedVariables false
set_option linter.unusedSimpArgs false
set_option maxRecDepth 100000
namespace Go.Proofs.YtehmcahdjldhbaaGreatDoor
open Wk
namespace Bk
theorem bullet_le (t : Bs) (h : 0 < Sc.bullet t) : 1 ≤ t.length := by
  cases t with
  | nil => simp [Sc.bullet] at h
  | cons b r => simp
theorem ordered_le (t : Bs) : (Sc.ordered t).2.2 ≤ t.length := by
  have hd : (t.takeWhile Sc.digit).length + (t.dropWhile Sc.digit).length = t.length := by
    rw [← List.length_append, List.takeWhile_append_dropWhile]
  unfold Sc.ordered Sc.orderedAt
  split
  · exact Nat.zero_le _
  · split
    · exact Nat.zero_le _
    · rename_i b r e
      rw [e, List.length_cons] at hd
      split
      · show (t.takeWhile Sc.digit).length + 1 ≤ _; omega
      · exact Nat.zero_le _
theorem marker_le (t : Bs) : (marker t).2.2.1 ≤ t.length := by
  unfold marker
  split
  · rename_i h; exact bullet_le t h
  · exact ordered_le t
/-- item says no, though a sign is there. -/
def St.refuses (σ : St) (t : Bs) : Bool := σ.all && σ.goes && (Sc.blanks (t.drop (marker t).2.2.1) || ((marker t).2.2.2 && (marker t).1 != 1))

set_option maxHeartbeats 16000000 in
theorem item_any {B : Nat} {w : World} {mb : Nat} {mask : Int} {nb : Nat → Nat} {kv lv : Nat → Value} {ov : Value} {σ : St} {C L : Nat} (h : MRep B w mb mask nb kv lv ov σ) (hF : Fit C L σ) (hC : C + 1 < 1000000000000) (hL : L ≤ 1000000000000) :
    Calls Tryz.prog 57 #[.pointer (some ⟨mb, 0, none⟩), .int .i64 σ.w, .string (mk σ.t)] w (EntPostB B mb mask (σ.item σ.w σ.t).1 (σ.item σ.w σ.t).2 w) := by
  have hB := h.mlow
  have hN := hF.near
  have GO := fun w (h : MRep B w mb mask nb kv lv ov σ) => goes_any h hF.leafN
  have AL := fun w (h : MRep B w mb mask nb kv lv ov σ) => all_any h
  have hz := hF.near.tLe
  have hwl := hF.near.wLe
  have hcl := hF.near
  have hml := marker_le σ.t
  have MA := fun w => marker_any σ.t w (by omega)
  have BK := fun w => Blank_any (mk (σ.t.drop (marker σ.t).2.2.1)) w (small_of (by simp; omega))
  have IN := fun w => indent_any (mk (σ.t.drop (marker σ.t).2.2.1)) (σ.col + σ.w + (marker σ.t).2.2.1) w (by rw [mk_size]; simp; omega) (by unfold Near at hcl; omega)
  rw [mk_data] at BK IN
  have hsz := mk_size σ.t
  have hex : Hid ((mk σ.t).extract (marker σ.t).2.2.1 σ.t.length = mk (σ.t.drop (marker σ.t).2.2.1)) := by apply Lib.hid; rw [← hsz, mk_extract, mk_data]
  by_cases h0 : (marker σ.t).2.2.1 = 0
  · have e1 : σ.item σ.w σ.t = (false, σ) := by unfold St.item; rw [if_pos h0]
    rw [e1]
    rw [h0] at MA
    go_enter Tryz.func57, Tryz.ntmps57
    go_wp2_with (first
      | (go_at_call 85; (with_reducible refine (MA _).mono ?_); rintro e w1 ⟨rfl, hb1⟩; have M1 := h.below hb1))
    go_ret
    exact ⟨nb, kv, lv, ov, rfl, M1, hb1.mono hB⟩
  · have d0 : (((marker σ.t).2.2.1 : Int) == 0) = false := by rw [beq_eq_false_iff_ne]; omega
    have hrf : σ.refuses σ.t = true ↔ (σ.all = true ∧ σ.goes = true ∧ (Sc.blanks (σ.t.drop (marker σ.t).2.2.1) = true ∨ ((marker σ.t).2.2.2 = true ∧ (marker σ.t).1 ≠ 1))) := by
      unfold St.refuses; simp [and_assoc]
    have BKx := BK
    rw [← hex.out] at BKx
    go_enter Tryz.func57, Tryz.ntmps57
    go_upto_region 5 with (first
      | (go_at_call 85; (with_reducible refine (MA _).mono ?_); rintro e w1 ⟨rfl, hb1⟩; have M1 := h.below hb1)
      | (go_at_call 65; (with_reducible refine (BKx _).mono ?_); rintro e w2 ⟨rfl, hb2⟩; have M2 := M1.below hb2))
    have hbw2 := (hb1.mono hB).trans (hb2.mono M1.mlow)
    clear M1 hb1 hb2 BKx
    go_cut [10, 11, 43] (fun o em v wx => Hid (o = .bool (marker σ.t).2.2.2) ∧ Hid (em = .bool (Sc.blanks (σ.t.drop (marker σ.t).2.2.1))) ∧ Hid (v = .bool (σ.refuses σ.t)) ∧ MRep B wx mb mask nb kv lv ov σ ∧ Below B w wx)
    case first =>
      have hR : Hid (σ.refuses σ.t = (σ.all && σ.goes && (Sc.blanks (σ.t.drop (marker σ.t).2.2.1) || ((marker σ.t).2.2.2 && (marker σ.t).1 != 1)))) := Lib.hid rfl
      clear hrf
      cases ha : σ.all with
      | false =>
        rw [ha] at AL
        go_wp2_with (go_at_call 48; (with_reducible refine (AL _ M2).mono ?_); rintro e w3 ⟨rfl, hb3⟩; have M3 := M2.below hb3)
        go_meet
        case rel => exact ⟨Lib.hid rfl, Lib.hid rfl, Lib.hid (by rw [hR.out, ha]; rfl), M3, hbw2.trans (hb3.mono M2.mlow)⟩
      | true =>
        rw [ha] at AL
        cases hg : σ.goes with
        | false =>
          rw [hg] at GO
          go_wp2_with (first
            | (go_at_call 48; (with_reducible refine (AL _ M2).mono ?_); rintro e w3 ⟨rfl, hb3⟩; have M3 := M2.below hb3)
            | (go_at_call 52; (with_reducible refine (GO _ M3).mono ?_); rintro e w4 ⟨rfl, hb4⟩; have M4 := M3.below hb4))
          go_meet
          case rel => exact ⟨Lib.hid rfl, Lib.hid rfl, Lib.hid (by rw [hR.out, ha, hg]; rfl), M4, (hbw2.trans (hb3.mono M2.mlow)).trans (hb4.mono M3.mlow)⟩
        | true =>
          rw [hg] at GO
          cases hbl : Sc.blanks (σ.t.drop (marker σ.t).2.2.1) with
          | true =>
            go_wp2_with (first
              | (go_at_call 48; (with_reducible refine (AL _ M2).mono ?_); rintro e w3 ⟨rfl, hb3⟩; have M3 := M2.below hb3)
              | (go_at_call 52; (with_reducible refine (GO _ M3).mono ?_); rintro e w4 ⟨rfl, hb4⟩; have M4 := M3.below hb4))
            go_meet
            case rel => exact ⟨Lib.hid rfl, Lib.hid (by rw [hbl]), Lib.hid (by rw [hR.out, ha, hg, hbl]; rfl), M4, (hbw2.trans (hb3.mono M2.mlow)).trans (hb4.mono M3.mlow)⟩
          | false =>
            cases ho : (marker σ.t).2.2.2 with
            | false =>
              go_wp2_with (first
                | (go_at_call 48; (with_reducible refine (AL _ M2).mono ?_); rintro e w3 ⟨rfl, hb3⟩; have M3 := M2.below hb3)
                | (go_at_call 52; (with_reducible refine (GO _ M3).mono ?_); rintro e w4 ⟨rfl, hb4⟩; have M4 := M3.below hb4))
              go_meet
              case rel => exact ⟨Lib.hid (by rw [ho]), Lib.hid (by rw [hbl]), Lib.hid (by rw [hR.out, ha, hg, hbl, ho]; rfl), M4, (hbw2.trans (hb3.mono M2.mlow)).trans (hb4.mono M3.mlow)⟩
            | true =>
              have e1 : Hid ((((marker σ.t).1 : Int) != 1) = ((marker σ.t).1 != 1)) := by
                apply Lib.hid; rw [Bool.eq_iff_iff, bne_iff_ne, bne_iff_ne]; omega
              go_wp2_with (first
                | (go_at_call 48; (with_reducible refine (AL _ M2).mono ?_); rintro e w3 ⟨rfl, hb3⟩; have M3 := M2.below hb3)
                | (go_at_call 52; (with_reducible refine (GO _ M3).mono ?_); rintro e w4 ⟨rfl, hb4⟩; have M4 := M3.below hb4))
              go_meet
              case rel => exact ⟨Lib.hid (by rw [ho]), Lib.hid (by rw [hbl]), Lib.hid (by rw [hR.out, ha, hg, hbl, ho, ← e1.out]; simp), M4, (hbw2.trans (hb3.mono M2.mlow)).trans (hb4.mono M3.mlow)⟩
    case rest =>
      obtain ⟨ho, hem, hv, M3, hbw3⟩ := hcut
      have ho := ho.out
      have hem := hem.out
      have hv := hv.out
      subst ho hem hv
      clear M2 hbw2
      cases hr : σ.refuses σ.t with
      | true =>
        have e1 : Hid (σ.item σ.w σ.t = (false, σ)) := by apply Lib.hid; unfold St.item; rw [if_neg h0, if_pos (hrf.1 hr)]
        go_wp2
        go_ret
        exact ⟨nb, kv, lv, ov, by rw [e1.out]; rfl, by rw [e1.out]; exact M3, hbw3⟩
      | false =>
        go_upto_region 7 with fail
        have hIT : Hid (σ.item σ.w σ.t = (true, (if ((((σ.past (marker σ.t).2.2.1).skipped (σ.itemGap σ.w σ.t (marker σ.t).2.2.1)).nd ((σ.past (marker σ.t).2.2.1).skipped (σ.itemGap σ.w σ.t (marker σ.t).2.2.1)).last).kind ≠ 3 ∨ (((σ.past (marker σ.t).2.2.1).skipped (σ.itemGap σ.w σ.t (marker σ.t).2.2.1)).nd ((σ.past (marker σ.t).2.2.1).skipped (σ.itemGap σ.w σ.t (marker σ.t).2.2.1)).last).M ≠ (marker σ.t).2.1.toNat) then ((σ.past (marker σ.t).2.2.1).skipped (σ.itemGap σ.w σ.t (marker σ.t).2.2.1)).enter { kind := 3, N := (marker σ.t).1, M := (marker σ.t).2.1.toNat } else ((σ.past (marker σ.t).2.2.1).skipped (σ.itemGap σ.w σ.t (marker σ.t).2.2.1))).enter { kind := 4, need := σ.w + (marker σ.t).2.2.1 + σ.itemGap σ.w σ.t (marker σ.t).2.2.1 })) := by
          apply Lib.hid; unfold St.item; rw [if_neg h0, if_neg (fun hx => by have := hrf.2 hx; rw [hr] at this; cases this)]
        have hga : Hid (σ.itemGap σ.w σ.t (marker σ.t).2.2.1 = if Sc.blanks (σ.t.drop (marker σ.t).2.2.1) ∨ 5 ≤ indW (σ.t.drop (marker σ.t).2.2.1) (σ.col + σ.w + (marker σ.t).2.2.1) then 1 else indW (σ.t.drop (marker σ.t).2.2.1) (σ.col + σ.w + (marker σ.t).2.2.1)) := Lib.hid rfl
        have PA := fun w (h : MRep B w mb mask nb kv lv ov σ) => mpast_any h hF.near (marker σ.t).2.2.1 _ rfl hml
        have hF1 := hF.past (marker σ.t).2.2.1 hml
        have hcast : ((σ.col + σ.w + (marker σ.t).2.2.1 : Nat) : Int) = (σ.col : Int) + (σ.w : Int) + ((marker σ.t).2.2.1 : Int) := by omega
        rw [hcast] at IN
        clear hrf hr MA BK hcast
        generalize hgap : σ.itemGap σ.w σ.t (marker σ.t).2.2.1 = gap at *
        generalize hiw : indW (σ.t.drop (marker σ.t).2.2.1) (σ.col + σ.w + (marker σ.t).2.2.1) = iw at *
        generalize indK (σ.t.drop (marker σ.t).2.2.1) = ik at *
        have hgle : gap ≤ 4 := by have := hga.out; split at this <;> omega
        clear hgap hiw
        have HX := hex.out
        rw [← HX] at IN
        have c1 := M3.c1
        have c1' := fun d os => cell_regrown c1 d os
        have cQ : ∀ d os, Calls Tryz.prog 77 #[.string ((mk σ.t).extract (marker σ.t).2.2.1 σ.t.length), .int .i64 ((σ.col : Int) + (σ.w : Int) + ((marker σ.t).2.2.1 : Int))] (Go.Sort.grow (redrawn wc d) os) fun e w'' => e = .returned (.tuple #[.int .i64 iw, .int .i64 ik]) ∧ ∃ p : Regrown, w'' = Go.Sort.grow (redrawn wc p.d) p.os := fun d os => Calls.regrown_of (IN _)
        have hno : σ.col ≤ 1000000 := by unfold Near at hcl; omega
        clear HX
        refine wp_region_quiet_below (by kernel_rfl) (by kernel_rfl) ?_
        repeat (first | go_big_quiet_step ((first | exact cQ _ _)) | quiet_step ((first | exact cQ _ _)))
        refine wpQuiet_nil ?_
        intro _ hw'
        obtain ⟨⟨dq, osq⟩, hw''⟩ := hw'
        subst hw''
        have M5 := M3.below (below_regrown wc dq osq)
        have hb5 := hbw3.trans ((below_regrown wc dq osq).mono M3.mlow)
        clear c1 c1' cQ IN
        generalize Go.Sort.grow (redrawn wc dq) osq = w5 at *
        go_upto_region 8 with fail
        go_cut [11, 64] (fun _ v wx => Hid (v = .bool (Sc.blanks (σ.t.drop (marker σ.t).2.2.1) || decide (5 ≤ iw))) ∧ wx = w5)
        case first =>
          have e5 : Hid (decide ((5 : Int) ≤ (iw : Int)) = decide (5 ≤ iw)) := by
            apply Lib.hid; rw [Bool.eq_iff_iff, decide_eq_true_iff, decide_eq_true_iff]; omega
          cases hbl : Sc.blanks (σ.t.drop (marker σ.t).2.2.1) with
          | true =>
            go_wp2
            go_meet
            case rel => exact ⟨Lib.hid (by rw [hbl]; rfl), rfl⟩
          | false =>
            go_wp2
            go_meet
            case rel => exact ⟨Lib.hid (by rw [hbl]; simp; omega), rfl⟩
        case rest =>
          obtain ⟨hv, rfl⟩ := hcut
          have hv := hv.out
          subst hv
          go_upto_if 64 with fail
          go_cut [12] (fun v wx => Hid (v = .int .i64 gap) ∧ wx = wc)
          case first =>
            have hg2 := hga
            cases hq : (Sc.blanks (σ.t.drop (marker σ.t).2.2.1) || decide (5 ≤ iw)) with
            | true =>
              have : gap = 1 := by rw [hg2.out, if_pos (by simpa using hq)]
              have hG := Lib.hid this
              clear this hg2 hga
              go_wp2
              go_meet
              case rel => exact ⟨Lib.hid (by rw [hG.out]; rfl), rfl⟩
            | false =>
              have : gap = iw := by rw [hg2.out, if_neg (by rw [← Bool.not_eq_true] at hq; simpa using hq)]
              have hG := Lib.hid this
              clear this hg2 hga
              go_wp2
              go_meet
              case rel => exact ⟨Lib.hid (by rw [hG.out]), rfl⟩
          case rest =>
            obtain ⟨hv, rfl⟩ := hcut
            have hv := hv.out
            subst hv
            clear hga
            have SK := fun w (h : MRep B w mb mask nb kv lv ov (σ.past (marker σ.t).2.2.1)) => mskip_any h hF1.near gap _ rfl (by omega)
            have hF2 := hF1.skipped gap
            generalize hσ1 : σ.past (marker σ.t).2.2.1 = σ1 at *
            generalize hρ : σ1.skipped gap = ρ at *
            have LA := fun w (h : MRep B w mb mask nb kv lv ov ρ) => last_any h hF2.met1 hF2.metL (by have := hF2.opnL; omega)
            have KL := fun {w} (h : MRep B w mb mask nb kv lv ov ρ) => h.nkind hF2.lastIn
            have KM : ∀ {w}, MRep B w mb mask nb kv lv ov ρ → w.cell? ⟨nb ρ.last, 4, none⟩ = some (.int .i64 (ρ.nd ρ.last).M) := fun h => (h.ncell hF2.lastIn 4).trans rfl
            clear hρ hσ1 hex
            generalize (marker σ.t).1 = mn at *
            generalize (marker σ.t).2.1 = ms at *
            generalize (marker σ.t).2.2.1 = mz at *
            have hmsl : ms.toNat < 256 := ms.toNat_lt
            have EN1 := fun w (h : MRep B w mb mask nb kv lv ov ρ) => enter_fresh h hF2 (by omega) { kind := 3, N := mn, M := ms.toNat } rfl rfl rfl _ rfl
            have hF3 := hF2.enter (d := { kind := 3, N := mn, M := ms.toNat }) rfl ⟨Nat.zero_le _, Nat.zero_le _, Nat.zero_le _⟩ (Nat.zero_le _)
            have EN2 := fun w nb kv lv ov (h : MRep B w mb mask nb kv lv ov (ρ.enter { kind := 3, N := mn, M := ms.toNat })) => enter_fresh h hF3 (by omega) { kind := 4, need := σ.w + mz + gap } rfl rfl rfl _ rfl
            have EN3 := fun w (h : MRep B w mb mask nb kv lv ov ρ) => enter_fresh h hF2 (by omega) { kind := 4, need := σ.w + mz + gap } rfl rfl rfl _ rfl
            by_cases hc : (ρ.nd ρ.last).kind ≠ 3 ∨ (ρ.nd ρ.last).M ≠ ms.toNat
            · have hI2 : Hid (σ.item σ.w σ.t = (true, (ρ.enter { kind := 3, N := mn, M := ms.toNat }).enter { kind := 4, need := σ.w + mz + gap })) := by apply Lib.hid; rw [hIT.out, if_pos hc]
              clear hIT EN3
              by_cases k3 : (ρ.nd ρ.last).kind = 3
              · have hM : (ρ.nd ρ.last).M ≠ ms.toNat := by rcases hc with h | h; exact absurd k3 h; exact h
                have e1 : (((ρ.nd ρ.last).M : Int) != (ms.toNat : Int)) = true := by rw [bne_iff_ne]; omega
                clear hc hM
                go_wp2_with (first
                  | (go_at_call 73; (with_reducible refine (PA _ M5).mono ?_); rintro e w6 ⟨rfl, M6, hb6⟩)
                  | (go_at_call 74; (with_reducible refine (SK _ M6).mono ?_); rintro e w7 ⟨rfl, M7, hb7⟩)
                  | (go_at_call 86; (with_reducible refine (LA _ M7).mono ?_); rintro e w8 ⟨rfl, hb8⟩; have M8 := M7.below hb8; have kl := KL M8; have km := KM M8; rw [k3] at kl; have EN18 := EN1 _ M8; have hbA := fun o => ((Below.refl w8.heap.size w8).alloc (Nat.le_refl _) o))
                  | (go_at_call 54; (refine EN18.mono ?_); clear EN18; rintro e w9 ⟨nb9, kv9, lv9, ov9, rfl, M9, hb9⟩; have EN29 := EN2 _ _ _ _ _ M9; have hbC := fun o => ((Below.refl w9.heap.size w9).alloc (Nat.le_refl _) o))
                  | (go_at_call 54; (refine EN29.mono ?_); rintro e w10 ⟨nb10, kv10, lv10, ov10, rfl, M10, hb10⟩))
                go_ret
                exact ⟨nb10, kv10, lv10, ov10, by rw [hI2.out]; rfl, by rw [hI2.out]; exact M10, (((((((hb5.trans hb6).trans hb7).trans (hb8.mono M7.mlow)).trans ((hbA _).mono M8.mlow)).trans hb9).trans ((hbC _).mono M9.mlow)).trans hb10)⟩
              · have e1 : (((ρ.nd ρ.last).kind : Int) != 3) = true := by rw [bne_iff_ne]; omega
                clear hc
                go_wp2_with (first
                  | (go_at_call 73; (with_reducible refine (PA _ M5).mono ?_); rintro e w6 ⟨rfl, M6, hb6⟩)
                  | (go_at_call 74; (with_reducible refine (SK _ M6).mono ?_); rintro e w7 ⟨rfl, M7, hb7⟩)
                  | (go_at_call 86; (with_reducible refine (LA _ M7).mono ?_); rintro e w8 ⟨rfl, hb8⟩; have M8 := M7.below hb8; have kl := KL M8; have km := KM M8;  have EN18 := EN1 _ M8; have hbA := fun o => ((Below.refl w8.heap.size w8).alloc (Nat.le_refl _) o))
                  | (go_at_call 54; (refine EN18.mono ?_); clear EN18; rintro e w9 ⟨nb9, kv9, lv9, ov9, rfl, M9, hb9⟩; have EN29 := EN2 _ _ _ _ _ M9; have hbC := fun o => ((Below.refl w9.heap.size w9).alloc (Nat.le_refl _) o))
                  | (go_at_call 54; (refine EN29.mono ?_); rintro e w10 ⟨nb10, kv10, lv10, ov10, rfl, M10, hb10⟩))
                go_ret
                exact ⟨nb10, kv10, lv10, ov10, by rw [hI2.out]; rfl, by rw [hI2.out]; exact M10, (((((((hb5.trans hb6).trans hb7).trans (hb8.mono M7.mlow)).trans ((hbA _).mono M8.mlow)).trans hb9).trans ((hbC _).mono M9.mlow)).trans hb10)⟩
            · have hI2 : Hid (σ.item σ.w σ.t = (true, ρ.enter { kind := 4, need := σ.w + mz + gap })) := by apply Lib.hid; rw [hIT.out, if_neg hc]
              have k3 : (ρ.nd ρ.last).kind = 3 := Decidable.byContradiction fun h => hc (.inl h)
              have hM : (ρ.nd ρ.last).M = ms.toNat := Decidable.byContradiction fun h => hc (.inr h)
              have e1 : ((ms.toNat : Int) != (ms.toNat : Int)) = false := by simp
              clear hIT EN1 EN2 hc
              · go_wp2_with (first
                  | (go_at_call 73; (with_reducible refine (PA _ M5).mono ?_); rintro e w6 ⟨rfl, M6, hb6⟩)
                  | (go_at_call 74; (with_reducible refine (SK _ M6).mono ?_); rintro e w7 ⟨rfl, M7, hb7⟩)
                  | (go_at_call 86; (with_reducible refine (LA _ M7).mono ?_); rintro e w8 ⟨rfl, hb8⟩; have M8 := M7.below hb8; have kl := KL M8; have km := KM M8; rw [k3] at kl; rw [hM] at km; have EN18 := EN3 _ M8; have hbA := fun o => ((Below.refl w8.heap.size w8).alloc (Nat.le_refl _) o))
                  | (go_at_call 54; (refine EN18.mono ?_); clear EN18; rintro e w9 ⟨nb9, kv9, lv9, ov9, rfl, M9, hb9⟩))
                go_ret
                exact ⟨nb9, kv9, lv9, ov9, by rw [hI2.out]; rfl, by rw [hI2.out]; exact M9, (((((hb5.trans hb6).trans hb7).trans (hb8.mono M7.mlow)).trans ((hbA _).mono M8.mlow)).trans hb9)⟩
end Bk
end Go.Proofs.YtehmcahdjldhbaaGreatDoor
end
