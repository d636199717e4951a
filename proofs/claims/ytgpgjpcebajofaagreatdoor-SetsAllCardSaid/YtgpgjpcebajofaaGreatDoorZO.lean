import Derived.Test.YtgpgjpcebajofaaGreatDoorZN
set_option linter.unusedVariables false
set_option linter.unusedSimpArgs false
set_option linter.all false
set_option maxHeartbeats 4000000
set_option linter.unusedVariables false
set_option linter.unusedSimpArgs false
set_option maxRecDepth 100000
namespace Go.Proofs.YtgpgjpcebajofaaGreatDoor
open Go Go.XC Go.RowKit Go.SetsP
attribute [local irreducible] Post TC TR D WL EvS EvC Wd ResL Code.wpIn Exit.then Exit.inBlock Exit.noGoto LoopK LoopP bodyPostM Reads Calls

attribute [local irreducible] partsB ens waysP foundP waysO solveP coreP
theorem setsAll_c (p : Pb) (pcs : Array Value) (by_ : Nat) (hby : by_ < 256) (m : Mem) (hT : TabM m) (hpc : PbC m p pcs) (L : Own) (w : World) (hs : St m L w) :
    Calls Tryz.prog 3 #[.agg pcs, .int .u8 (by_ : Int)] w fun x w' => x = .returned (.bool true) ∧ St m L w' := by
  have hfi := fun (w : World) (L : Own) (hs : St m L w) => fine_c p pcs m hpc L w hs
  have hwk := fun (m' : Mem) (hm : m.Le m') (w : World) (L : Own) (hs : St m' L w) => works_c m' (hT.mono hm) L w hs
  have hpc0 := hpc
  obtain ⟨BA, bc, RA, rc, rfl, hBA, hRA⟩ := hpc
  cases hf : (smallB p && checkB p) with
  | false =>
    rw [hf] at hfi
    refine calls_of_TC (args := [_, _]) Tryz.func3 rfl Tryz.ntmps3 (Nat.le_of_ble_eq_true rfl) hs ?_
    repeat' (first | (apply a_call; exact EvC.callV rfl rfl (fun w hs => hfi w _ hs); exact rfl; exact wd; rintro ⟨⟩) | (apply a_call; exact EvC.callV rfl rfl (fun w hs => hwk _ (Mem.Le.refl _) w _ hs); exact rfl; exact wd; rintro ⟨⟩) | refine TC.seq ?_ | refine TC.region ?_ | refine TR.nil ?_ | refine Post.then_normal ?_ | refine TC.ret ?_ | (apply TC.cond_t; exact rfl) | refine Post.then_ret ?_ | (apply a_assign; exact a_assigns) | (apply a_load; exact a_loads) | (apply a_unOp; exact a_unOps) | (apply c_boxA; exact c_boxAs; exact rfl; intro g))
    refine Post.body_ret _ (ResL.one rfl (ResV.tmp rfl)) ?_
    exact fun w h => ⟨rfl, h.tail⟩
  | true =>
    rw [hf] at hfi
    have hck : checkB p = true := by rw [Bool.and_eq_true] at hf; exact hf.2
    have hp := OkP.of hck
    have h8 := hp.ok.b8
    have h12 := hp.ok.r12
    have hop := fun (m' : Mem) (hm : m.Le m') (w : World) (L : Own) (hs : St m' L w) => open_c p _ (by omega) m' (hpc0.mono hm) L w hs
    by_cases h9 : openN p.bounds > 9
    · have hd : decide ((openN p.bounds : Int) > 9) = true := by simp; omega
      have hlo := fun (w : World) (L : Own) (hs : St m L w) => loose_c p _ hck by_ hby m hT hpc0 L w hs
      refine calls_of_TC (args := [_, _]) Tryz.func3 rfl Tryz.ntmps3 (Nat.le_of_ble_eq_true rfl) hs ?_
      repeat' (first | (apply a_call; exact EvC.callV rfl rfl (fun w hs => hfi w _ hs); exact rfl; exact wd; rintro ⟨⟩) | (apply a_call; exact EvC.callV rfl rfl (fun w hs => hwk _ (Mem.Le.refl _) w _ hs); exact rfl; exact wd; rintro ⟨⟩) | (apply a_call; exact EvC.callV rfl rfl (fun w hs => hop _ (Mem.Le.refl _) w _ hs); exact rfl; exact wd; rintro ⟨⟩) | (apply a_call; exact EvC.callV rfl rfl (fun w hs => hlo w _ hs); exact rfl; exact wd; rintro ⟨⟩) | refine TC.seq ?_ | refine TC.region ?_ | refine TR.nil ?_ | refine Post.then_normal ?_ | refine TC.skip ?_ | refine TC.ret ?_ | (apply TC.cond_f; exact rfl) | (apply TC.cond_bt; exact rfl; assumption) | refine Post.then_ret ?_ | (apply a_gt; exact a_gss; (first | exact rfl | assumption)) | (apply a_move; exact a_moves) | (apply a_assign; exact a_assigns) | (apply a_load; exact a_loads) | (apply a_unOp; exact a_unOps) | (apply a_bgtr; exact a_bgtrs) | (apply a_pick; exact a_picks) | (apply c_boxA; exact c_boxAs; exact rfl; intro g))
      refine Post.body_ret _ (ResL.one rfl (ResV.tmp rfl)) ?_
      exact fun w h => ⟨rfl, h.tail⟩
    have hd : decide ((openN p.bounds : Int) > 9) = false := by simp; omega
    have hfo := fun (w : World) (L : Own) (hs : St m L w) => found_c p _ hp 100 (by decide) (by decide) m hpc0 L w hs
    by_cases h100 : ((foundP p 100).length : Int) ≥ 100
    · have hd2 : decide (((foundP p 100).length : Int) ≥ 100) = true := decide_eq_true h100
      refine calls_of_TC (args := [_, _]) Tryz.func3 rfl Tryz.ntmps3 (Nat.le_of_ble_eq_true rfl) hs ?_
      repeat' (first | (apply a_call; exact EvC.callV rfl rfl (fun w hs => hfi w _ hs); exact rfl; exact wd; rintro ⟨⟩) | (apply a_call; exact EvC.callV rfl rfl (fun w hs => hop _ (Mem.Le.refl _) w _ hs); exact rfl; exact wd; rintro ⟨⟩) | (apply a_call; exact EvC.callX rfl rfl (fun w hs => hfo w _ hs); exact rfl; exact wd; rintro ⟨⟨m1, A1, c1⟩, hle1, hS1, hcc1⟩; simp only at hle1 hS1 hcc1 ⊢) | (apply a_call; exact EvC.callV rfl rfl (fun w hs => hwk _ hle1 w _ hs); exact rfl; exact wd; rintro ⟨⟩) | refine TC.seq ?_ | refine TC.region ?_ | refine TR.nil ?_ | refine Post.then_normal ?_ | refine TC.skip ?_ | refine TC.ret ?_ | (apply TC.cond_f; exact rfl) | (apply TC.cond_bt; exact rfl; assumption) | (apply TC.cond_bf; exact rfl; assumption) | refine Post.then_ret ?_ | (apply a_move; exact a_moves) | (apply a_assign; exact a_assigns) | (apply a_load; exact a_loads) | (apply a_len; exact a_lens) | (apply a_unOp; exact a_unOps) | (apply a_bgtr; exact a_bgtrs) | (apply a_bgeq; exact a_bgeqs) | (apply c_boxA; exact c_boxAs; exact rfl; intro g))
      refine Post.body_ret _ (ResL.one rfl (ResV.tmp rfl)) ?_
      exact fun w h => ⟨rfl, (h.weaken hle1).tail⟩
    have hd2 : decide (((foundP p 100).length : Int) ≥ 100) = false := decide_eq_false h100
    have hl100 : (foundP p 100).length < 100 := by omega
    have R := solve_spec hck (most := 100) (by decide) (by decide)
    have C := core_spec hck
    have hsol := fun (m' : Mem) (hm : m.Le m') (k : Int) (w : World) (L : Own) (hs : St m' L w) => solve_c p _ k (by omega) (by omega) m' (hT.mono hm) (hpc0.mono hm) L w hs
    have hcor := fun (m' : Mem) (hm : m.Le m') (w : World) (L : Own) (hs : St m' L w) => core_ok p _ hck m' (hT.mono hm) (hpc0.mono hm) L w hs
    rcases R.ce with he | he
    rotate_left
    · -- too many open elements
      have h6 : 6 < openN p.bounds := by
        by_cases h6 : openN p.bounds ≤ 6
        · have := R.few h6; rw [he] at this; cases this
        · omega
      have hd3 : decide ((openN p.bounds : Int) > 6) = true := by simp; omega
      have hd4 : ((solveP p 100).2.2 == 8) = true := by rw [he]; rfl
      refine calls_of_TC (args := [_, _]) Tryz.func3 rfl Tryz.ntmps3 (Nat.le_of_ble_eq_true rfl) hs ?_
      repeat' (first | rw [hd3] | (apply a_call; exact EvC.callV rfl rfl (fun w hs => hfi w _ hs); exact rfl; exact wd; rintro ⟨⟩) | (apply a_call; exact EvC.callV rfl rfl (fun w hs => hop _ (Mem.Le.refl _) w _ hs); exact rfl; exact wd; rintro ⟨⟩) | (apply a_call; exact EvC.callX rfl rfl (fun w hs => hfo w _ hs); exact rfl; exact wd; rintro ⟨⟨m1, A1, c1⟩, hle1, hS1, hcc1⟩; simp only at hle1 hS1 hcc1 ⊢) | (apply a_call; exact EvC.callX rfl rfl (fun w hs => hsol _ hle1 _ w _ hs); exact rfl; exact wd; rintro ⟨⟨m2, A2, c2⟩, hle2, hS2, hcc2⟩; simp only at hle2 hS2 hcc2 ⊢; have hle2 := hle1.trans hle2) | (apply a_call; exact EvC.callV rfl rfl (fun w hs => hop _ hle2 w _ hs); exact rfl; exact wd; rintro ⟨⟩) | (apply a_call; exact EvC.callV rfl rfl (fun w hs => hwk _ hle2 w _ hs); exact rfl; exact wd; rintro ⟨⟩) | refine TC.seq ?_ | refine TC.region ?_ | refine TR.nil ?_ | refine Post.then_normal ?_ | refine TC.skip ?_ | refine TC.ret ?_ | (apply TC.cond_f; exact rfl) | (apply TC.cond_bt; exact rfl; assumption) | (apply TC.cond_bf; exact rfl; assumption) | refine Post.then_ret ?_ | (apply a_gt; exact a_gss; (first | exact rfl | assumption)) | (apply a_move; exact a_moves) | (apply a_assign; exact a_assigns) | (apply a_load; exact a_loads) | (apply a_len; exact a_lens) | (apply a_unOp; exact a_unOps) | (apply a_beql; exact a_beqls) | (apply a_bgtr; exact a_bgtrs) | (apply a_bgeq; exact a_bgeqs) | (apply a_pick; exact a_picks) | (apply a_extract; exact a_extracts) | (apply c_boxA; exact c_boxAs; exact rfl; intro g))
      refine Post.body_ret _ (ResL.one rfl (ResV.tmp rfl)) ?_
      exact fun w h => ⟨rfl, (h.weaken hle2).tail⟩
    · -- it answers
      obtain ⟨s, hsd⟩ : ∃ s, s = (solveP p 100).1 := ⟨_, rfl⟩
      have hsr := all_sort hp R he hl100
      have hnn := R.n1 he
      have hn1 : decide ((solveP p 100).2.1 < 1) = false := by simp; omega
      have hn2 : decide ((solveP p 100).2.1 > 200) = false := by simp; omega
      have hn3 : (((solveP p 100).1.length : Int) != ((foundP p 100).length : Int)) = false := by rw [hsr.2]; simp
      have hn4 : ((solveP p 100).2.2 == 8) = false := by rw [he]; rfl
      have hn5 : ((solveP p 100).2.2 != 0) = false := by rw [he]; rfl
      have hsl : (solveP p 100).1.length ≤ 100 := by have := R.le; omega
      have hso : ∀ (m1 : Mem) (v1 : Value) (e1 : Option (Nat × Obj)) (L1 : Own) (w : World), SRow m1 v1 (solveP p 100).1 e1 → St m1 (e1 :: L1) w →
          Calls Tryz.prog 11 #[v1, .func (.func 12) #[] #[]] w fun x w' => ∃ y : { e' : Option (Nat × Obj) // SRow m1 v1 (foundP p 100) e' }, x = .returned (.tuple #[]) ∧ St m1 (y.1 :: L1) w' := fun m1 v1 e1 L1 w hr hs => by
        refine (sort_c v1 e1 _ m1 L1 w hs hr (by omega)).mono fun x w' ⟨z1, o', e', q1, q2, q3, q4⟩ => ?_
        rw [sortL_of q1 q2, hsr.1] at q3
        exact ⟨⟨e', q3⟩, z1, q4⟩
      have hss : ∀ (m1 : Mem) (A : Option Addr) (c : Nat) (hA : SolS m1 A (foundP p 100)) (v1 : Value) (e1 : Option (Nat × Obj)) (L1 : Own) (w : World), SRow m1 v1 (foundP p 100) e1 → St m1 (e1 :: L1) w →
          Calls Tryz.prog 13 #[v1, .slice A (foundP p 100).length c] w fun x w' => ∃ y : { y : Mem // m1.Le y }, x = .returned (.bool true) ∧ St y.1 L1 w' := fun m1 A c hA v1 e1 L1 w hr hs => by
        obtain ⟨k1, k2⟩ := lend hs
        obtain ⟨A9, c9, q1, q2, _⟩ := hr.lentC k1 (by omega)
        rw [q1]
        have := sameSets_c A9 A c9 c (foundP p 100) (foundP p 100) _ q2 (hA.mono k1) L1 w k2
        rw [decide_eq_true rfl] at this
        exact this.mono fun x w' ⟨z1, z2⟩ => ⟨⟨_, k1⟩, z1, z2⟩
      by_cases hs0 : (solveP p 100).1 = []
      rotate_left
      · -- there are solutions
        obtain ⟨hc5, hc0⟩ := core_sat hck he hs0
        have hpos : 0 < (solveP p 100).1.length := List.length_pos_iff.2 hs0
        have hd5 : decide (((solveP p 100).1.length : Int) > 0) = true := by simp; omega
        have hd6 : ((coreP p).2 == 5) = true := by rw [hc5]; rfl
        have hd7 : (((coreP p).1.length : Int) == 0) = true := by rw [hc0]; rfl
        have hmod : by_ % (solveP p 100).1.length < (solveP p 100).1.length := Nat.mod_lt _ hpos
        obtain ⟨k, hk⟩ : ∃ k : Nat, k = 1 + by_ % (solveP p 100).1.length := ⟨_, rfl⟩
        have hk' : 1 + ((by_ % (solveP p 100).1.length : Nat) : Int) = (k : Int) := by omega
        obtain ⟨hf1, hf2, hf3⟩ := solve_few hck he (k := k) (by omega) (by omega)
        have hd8 : ((solveP p (k : Int)).2.2 == 0) = true := by rw [hf3]; rfl
        have hd9 : decide ((solveP p (k : Int)).2.1 ≤ (solveP p 100).2.1) = true := decide_eq_true hf2
        have htk : ((solveP p 100).1.take k).length = k := by simp; omega
        have hs2 : ∀ (m1 : Mem) (A B : Option Addr) (c c' : Nat) (hA : SolS m1 A (solveP p (k : Int)).1) (hB : SolS m1 B (solveP p 100).1) (L1 : Own) (w : World), St m1 L1 w →
            Calls Tryz.prog 13 #[.slice A (solveP p (k : Int)).1.length c, .slice B k c'] w fun x w' => x = .returned (.bool true) ∧ St m1 L1 w' := fun m1 A B c c' hA hB L1 w hs => by
          have := sameSets_c A B c c' _ _ m1 hA (SolS.take hB k) L1 w hs
          rw [htk, decide_eq_true hf1] at this
          exact this
        refine calls_of_TC (args := [_, _]) Tryz.func3 rfl Tryz.ntmps3 (Nat.le_of_ble_eq_true rfl) hs ?_
        repeat' (first | rw [hd6] | rw [hd7] | rw [hd8] | rw [hd9] | rw [hk'] | (apply a_call; exact EvC.callV rfl rfl (fun w hs => hfi w _ hs); exact rfl; exact wd; rintro ⟨⟩) | (apply a_call; exact EvC.callV rfl rfl (fun w hs => hop _ (Mem.Le.refl _) w _ hs); exact rfl; exact wd; rintro ⟨⟩) | (apply a_call; exact EvC.callX rfl rfl (fun w hs => hfo w _ hs); exact rfl; exact wd; rintro ⟨⟨m1, A1, c1⟩, hle1, hS1, hcc1⟩; simp only at hle1 hS1 hcc1 ⊢) | (apply a_call; exact EvC.callX rfl rfl (fun w hs => hsol _ hle1 100 w _ hs); exact rfl; exact wd; rintro ⟨⟨m2, A2, c2⟩, hle2, hS2, hcc2⟩; simp only at hle2 hS2 hcc2 ⊢; have hle2 := hle1.trans hle2; have hS1 := hS1.mono (show m1.Le m2 by assumption)) | (apply a_call; exact EvC.callX rfl rfl (fun w hs => cloneL_c A2 c2 _ (by omega) m2 _ w hs hS2); exact rfl; exact wd; rintro ⟨⟨v3, e3⟩, hr3⟩; simp only at hr3 ⊢) | (apply a_call; exact EvC.callX rfl rfl (fun w hs => hso _ _ _ _ w hr3 hs); exact rfl; exact wd; rintro ⟨e4, hr4⟩; simp only at hr4 ⊢) | (apply a_call; exact EvC.callX rfl rfl (fun w hs => hss _ _ _ hS1 _ _ _ w hr4 hs); exact rfl; exact wd; rintro ⟨m5, hle5⟩; simp only; have hle5 := hle2.trans hle5) | (apply a_call; exact EvC.callX rfl rfl (fun w hs => hcor _ hle5 w _ hs); exact rfl; exact wd; rintro ⟨⟨m6, A6, c6⟩, hle6, hS6⟩; simp only at hle6 hS6 ⊢; have hle6 := hle5.trans hle6) | (apply a_call; exact EvC.callX rfl rfl (fun w hs => hsol _ hle6 (k : Int) w _ hs); exact rfl; exact wd; rintro ⟨⟨m7, A7, c7⟩, hle7, hS7, hcc7⟩; simp only at hle7 hS7 hcc7 ⊢; have hle7 := hle6.trans hle7) | refine TC.seq ?_ | refine TC.region ?_ | refine TR.nil ?_ | refine Post.then_normal ?_ | refine TC.skip ?_ | (apply TC.cond_f; exact rfl) | (apply TC.cond_bt; exact rfl; assumption) | (apply TC.cond_bf; exact rfl; assumption) | (apply a_gt; exact a_gss; (first | exact rfl | assumption)) | (apply a_gf; exact a_gss; (first | exact rfl | assumption)) | (apply TR.st1; exact rfl; exact rfl; exact rfl; (first | exact Wd.plain rfl | exact Wd.on rfl rfl rfl); (first | exact EvS.convN rfl (by omega) | exact EvS.remI (b := (solveP p 100).1.length) rfl rfl hpos)) | (apply a_move; exact a_moves) | (apply a_assign; exact a_assigns) | (apply a_load; exact a_loads) | (apply a_len; exact a_lens) | (apply a_unOp; exact a_unOps) | (apply a_beql; exact a_beqls) | (apply a_bneq; exact a_bneqs) | (apply a_blss; exact a_blsss) | (apply a_bleq; exact a_bleqs) | (apply a_bgtr; exact a_bgtrs) | (apply a_bgeq; exact a_bgeqs) | (apply a_badd; exact a_badds) | (apply a_pick; exact a_picks) | (apply a_extract; exact a_extracts) | (apply c_boxA; exact c_boxAs; exact rfl; intro g))
        obtain ⟨g9, o9, blk9, T9, fr9, W9, cw9, hAe, _, _, _⟩ := hS2.get (k := 0) (List.getElem?_eq_getElem hpos)
        have hS2' := ((hS2.mono (show m2.Le m5 by assumption)).mono (show m5.Le m6 by assumption)).mono (show m6.Le m7 by assumption)
        repeat' (first | (apply a_call; exact EvC.callV rfl rfl (fun w hs => hs2 _ _ _ _ _ hS7 hS2' _ w hs); exact rfl; exact wd; rintro ⟨⟩) | (apply a_call; exact EvC.callV rfl rfl (fun w hs => hwk _ hle7 w _ hs); exact rfl; exact wd; rintro ⟨⟩) | refine TR.nil ?_ | refine Post.then_normal ?_ | refine TC.ret ?_ | refine Post.then_ret ?_ | (apply a_gt; exact a_gss; (first | exact rfl | assumption)) | (apply TR.st1 (o := ⟨_, .slice _ _ _ _ _, _, _, _, _⟩); exact rfl; exact rfl; exact rfl; (first | exact Wd.plain rfl | exact Wd.on rfl rfl rfl); exact EvS.sliceHi (k := k) rfl rfl hAe (by omega)) | (apply a_assign; exact a_assigns) | (apply a_pick; exact a_picks))
        refine Post.body_ret _ (ResL.one rfl (ResV.tmp rfl)) ?_
        exact fun w h => ⟨rfl, (h.weaken hle7).tail⟩
      · -- there are none
        have hd5 : decide (((solveP p 100).1.length : Int) > 0) = false := by rw [hs0]; rfl
        rcases C.cd with hf0 | hf5 | hf8
        · have hd6 : ((coreP p).2 == 8) = false := by rw [hf0]; rfl
          have hd7 : ((coreP p).2 != 0) = false := by rw [hf0]; rfl
          have hcl := core_len hp C
          have hd8 : decide (((coreP p).1.length : Int) > (p.rules.length : Int)) = false := by simp; omega
          have hmem : ∀ k, k ∈ (coreP p).1 → k < p.rules.length := fun k hk => by
            obtain ⟨i, hi⟩ := List.getElem?_of_mem hk
            exact (core_lt C hi).1
          have hch := fun (m' : Mem) (hm : m.Le m') (A : Option Addr) (c : Nat) (hA : Sl m' 1 A (ints (zs (coreP p).1))) (i : Int) (w : World) (L : Own) (hs : St m' L w) => chosen_c p _ A c (coreP p).1 i hmem hcl.2 m' (hpc0.mono hm) hA L w hs
          have hps : OkP (selP p (pkA (coreP p).1 (-1))) := by rw [pkA_none]; exact hp.sel hmem hcl.2
          have hfs := fun (q : Pb) (hq : OkP q) (cs : Array Value) (m' : Mem) (hP : PbC m' q cs) (w : World) (L : Own) (hs : St m' L w) => found_c q cs hq 1 (by decide) (by decide) m' hP L w hs
          have hd9 : decide (((foundP (selP p (pkA (coreP p).1 (-1))) 1).length : Int) > 0) = false := by
            rw [pkA_none, core_found hp C hf0]; rfl
          refine calls_of_TC (args := [_, _]) Tryz.func3 rfl Tryz.ntmps3 (Nat.le_of_ble_eq_true rfl) hs ?_
          repeat' (first | (apply a_call; exact EvC.callV rfl rfl (fun w hs => hfi w _ hs); exact rfl; exact wd; rintro ⟨⟩) | (apply a_call; exact EvC.callV rfl rfl (fun w hs => hop _ (Mem.Le.refl _) w _ hs); exact rfl; exact wd; rintro ⟨⟩) | (apply a_call; exact EvC.callX rfl rfl (fun w hs => hfo w _ hs); exact rfl; exact wd; rintro ⟨⟨m1, A1, c1⟩, hle1, hS1, hcc1⟩; simp only at hle1 hS1 hcc1 ⊢) | (apply a_call; exact EvC.callX rfl rfl (fun w hs => hsol _ hle1 100 w _ hs); exact rfl; exact wd; rintro ⟨⟨m2, A2, c2⟩, hle2, hS2, hcc2⟩; simp only at hle2 hS2 hcc2 ⊢; have hle2 := hle1.trans hle2; have hS1 := hS1.mono (show m1.Le m2 by assumption)) | (apply a_call; exact EvC.callX rfl rfl (fun w hs => cloneL_c A2 c2 _ (by omega) m2 _ w hs hS2); exact rfl; exact wd; rintro ⟨⟨v3, e3⟩, hr3⟩; simp only at hr3 ⊢) | (apply a_call; exact EvC.callX rfl rfl (fun w hs => hso _ _ _ _ w hr3 hs); exact rfl; exact wd; rintro ⟨e4, hr4⟩; simp only at hr4 ⊢) | (apply a_call; exact EvC.callX rfl rfl (fun w hs => hss _ _ _ hS1 _ _ _ w hr4 hs); exact rfl; exact wd; rintro ⟨m5, hle5⟩; simp only; have hle5 := hle2.trans hle5) | (apply a_call; exact EvC.callX rfl rfl (fun w hs => hcor _ hle5 w _ hs); exact rfl; exact wd; rintro ⟨⟨m6, A6, c6⟩, hle6, hS6⟩; simp only at hle6 hS6 ⊢; have hle6 := hle5.trans hle6) | (apply a_call; exact EvC.callX rfl rfl (fun w hs => hch _ hle6 _ _ hS6 (-1) w _ hs); exact rfl; exact wd; rintro ⟨⟨m7, cs7⟩, hle7, hP7⟩; simp only at hle7 hP7 ⊢; have hle7 := hle6.trans hle7; have hS6 := hS6.mono (show m6.Le m7 by assumption)) | (apply a_call; exact EvC.callX rfl rfl (fun w hs => hfs _ hps _ _ hP7 w _ hs); exact rfl; exact wd; rintro ⟨⟨m8, A8, c8⟩, hle8, hS8, hcc8⟩; simp only at hle8 hS8 hcc8 ⊢; have hle8 := hle7.trans hle8; have hS6 := hS6.mono (show m7.Le m8 by assumption)) | refine TC.seq ?_ | refine TC.region ?_ | refine TR.nil ?_ | refine Post.then_normal ?_ | refine TC.block ?_ | refine TC.skip ?_ | (apply TC.cond_f; exact rfl) | (apply TC.cond_bf; exact rfl; assumption) | (apply a_gf; exact a_gss; (first | exact rfl | assumption)) | (apply a_move; exact a_moves) | (apply a_assign; exact a_assigns) | (apply a_fieldAddr; exact a_fieldAddrs) | (apply a_load; exact a_loads) | (apply a_len; exact a_lens) | (apply a_unOp; exact a_unOps) | (apply a_beql; exact a_beqls) | (apply a_bneq; exact a_bneqs) | (apply a_blss; exact a_blsss) | (apply a_bgtr; exact a_bgtrs) | (apply a_bgeq; exact a_bgeqs) | (apply a_pick; exact a_picks) | (apply a_extract; exact a_extracts) | (apply c_boxA; exact c_boxAs; exact rfl; intro g))
          obtain ⟨gp, hgp⟩ : ∃ y, y = g := ⟨_, rfl⟩
          subst hgp
          refine TC.loopP (X := Nat) (fun k => k ≤ (coreP p).1.length) (fun k => [(151, .int .i64 (k : Int)), (150, .int .i64 ((coreP p).1.length : Int)), (149, .slice A6 (coreP p).1.length c6), (10, .slice A6 (coreP p).1.length c6), (4, .bool false), (2, .pointer (some ⟨gp, 0, none⟩))]) (fun _ w => ∃ m', m8.Le m' ∧ St m' (some (gp, Obj.cells #[.slice BA p.bounds.length bc, .slice RA p.rules.length rc] 25 (0, 0)) :: L) w) (fun k => (coreP p).1.length - k) 0 (by omega) inc (fun w h => ⟨m8, Mem.Le.refl _, h⟩) ?_
          intro k hk
          refine TC.of_exists (X := { y : Mem // m8.Le y }) (S' := fun y => St y.1 (some (gp, Obj.cells #[.slice BA p.bounds.length bc, .slice RA p.rules.length rc] 25 (0, 0)) :: L)) (fun w h => let ⟨m', h1, h2⟩ := h; ⟨⟨m', h1⟩, h2⟩) ?_
          rintro ⟨m9, hle9⟩
          simp only
          have hS6' := hS6.mono hle9
          have hle9' := hle8.trans hle9
          by_cases hlt : k < (coreP p).1.length
          · obtain ⟨r, hr⟩ : ∃ r, (coreP p).1[k]? = some r := ⟨_, List.getElem?_eq_getElem hlt⟩
            obtain ⟨g3, o3, blk3, T3, fr3, hAe, hm3, hc3⟩ := hS6'.get1 (k := k) (v := .int .i64 (r : Int)) (by simp [ints, zs, hr])
            have hd : decide ((k : Int) < ((coreP p).1.length : Int)) = true := by simpa using hlt
            obtain ⟨hrl, hrp⟩ := core_lt C hr
            obtain ⟨hpk, hne⟩ := core_less hp C hf0 hr
            have hz : (((foundP (selP p (pkA (coreP p).1 (k : Int))) 1).length : Int) == 0) = false := by
              rw [beq_eq_false_iff_ne]; omega
            have hr0 : decide ((r : Int) < 0) = false := by simp
            have hr1 : decide ((r : Int) ≥ (p.rules.length : Int)) = false := by simp; omega
            by_cases hk0 : 0 < k
            · obtain ⟨r', hr'⟩ : ∃ r', (coreP p).1[k - 1]? = some r' := ⟨_, List.getElem?_eq_getElem (by omega)⟩
              obtain ⟨g4, o4, blk4, T4, fr4, hAe4, hm4, hc4⟩ := hS6'.get1 (k := k - 1) (v := .int .i64 (r' : Int)) (by simp [ints, zs, hr'])
              rw [hAe] at hAe4
              cases hAe4
              rw [hm3] at hm4
              cases hm4
              have hk1 : decide ((k : Int) > 0) = true := by simp; omega
              have hlp := hrp r' hk0 hr'
              have hrr : decide ((r : Int) ≤ (r' : Int)) = false := by simp; omega
              have hkk : (k : Int) - 1 = ((k - 1 : Nat) : Int) := by omega
              repeat' (first | rw [hkk] | (apply a_call; exact EvC.callX rfl rfl (fun w hs => hch _ hle9' _ _ hS6' (k : Int) w _ hs); exact rfl; exact wd; rintro ⟨⟨m10, cs10⟩, hle10, hP10⟩; simp only at hle10 hP10 ⊢) | (apply a_call; exact EvC.callX rfl rfl (fun w hs => hfs _ hpk _ _ hP10 w _ hs); exact rfl; exact wd; rintro ⟨⟨m11, A11, c11⟩, hle11, hS11, hcc11⟩; simp only at hle11 hS11 hcc11 ⊢) | refine TC.seq ?_ | refine TC.region ?_ | refine TR.nil ?_ | refine Post.then_normal ?_ | refine TC.block ?_ | refine TC.skip ?_ | (apply TC.cond_bt; exact rfl; assumption) | (apply TC.cond_bf; exact rfl; assumption) | refine Post.block_normal ?_ | (apply a_gt; exact a_gss; (first | exact rfl | assumption)) | (apply a_gf; exact a_gss; (first | exact rfl | assumption)) | (apply a_move; exact a_moves) | (apply a_assign; exact a_assigns) | (apply a_fieldAddr; exact a_fieldAddrs) | (apply a_load; exact a_loads) | (apply a_len; exact a_lens) | (apply a_beql; exact a_beqls) | (apply a_blss; exact a_blsss) | (apply a_bleq; exact a_bleqs) | (apply a_bgtr; exact a_bgtrs) | (apply a_bgeq; exact a_bgeqs) | (apply a_badd; exact a_badds) | (apply a_bsub; exact a_bsubs) | (apply a_pick; exact a_picks) | (apply a_indexAddr; exact a_indexAddrs))
              exact Post.nextP (k + 1) (by omega) inc (fun w h => ⟨_, (hle9.trans hle10).trans hle11, h⟩) (by omega)
            · have hk1 : decide ((k : Int) > 0) = false := by simp; omega
              repeat' (first | (apply a_call; exact EvC.callX rfl rfl (fun w hs => hch _ hle9' _ _ hS6' (k : Int) w _ hs); exact rfl; exact wd; rintro ⟨⟨m10, cs10⟩, hle10, hP10⟩; simp only at hle10 hP10 ⊢) | (apply a_call; exact EvC.callX rfl rfl (fun w hs => hfs _ hpk _ _ hP10 w _ hs); exact rfl; exact wd; rintro ⟨⟨m11, A11, c11⟩, hle11, hS11, hcc11⟩; simp only at hle11 hS11 hcc11 ⊢) | refine TC.seq ?_ | refine TC.region ?_ | refine TR.nil ?_ | refine Post.then_normal ?_ | refine TC.block ?_ | refine TC.skip ?_ | (apply TC.cond_bt; exact rfl; assumption) | (apply TC.cond_bf; exact rfl; assumption) | refine Post.block_normal ?_ | (apply a_sk; exact a_sks) | (apply a_gf; exact a_gss; (first | exact rfl | assumption)) | (apply a_move; exact a_moves) | (apply a_assign; exact a_assigns) | (apply a_fieldAddr; exact a_fieldAddrs) | (apply a_load; exact a_loads) | (apply a_len; exact a_lens) | (apply a_beql; exact a_beqls) | (apply a_blss; exact a_blsss) | (apply a_bgtr; exact a_bgtrs) | (apply a_bgeq; exact a_bgeqs) | (apply a_badd; exact a_badds) | (apply a_pick; exact a_picks) | (apply a_indexAddr; exact a_indexAddrs))
              exact Post.nextP (k + 1) (by omega) inc (fun w h => ⟨_, (hle9.trans hle10).trans hle11, h⟩) (by omega)
          · have hd : decide ((k : Int) < ((coreP p).1.length : Int)) = false := by simpa using hlt
            repeat' (first | (apply a_call; exact EvC.callV rfl rfl (fun w hs => hwk _ hle9' w _ hs); exact rfl; exact wd; rintro ⟨⟩) | refine TC.seq ?_ | refine TC.region ?_ | refine TR.nil ?_ | refine Post.then_normal ?_ | refine TC.ret ?_ | refine TC.exit ?_ | (apply TC.cond_bf; exact rfl; assumption) | refine Post.then_exit ?_ | refine Post.block_here ?_ | (apply a_assign; exact a_assigns) | (apply a_blss; exact a_blsss))
            refine Post.body_ret _ (ResL.one rfl (ResV.tmp rfl)) ?_
            exact fun w h => ⟨rfl, (h.weaken hle9').tail⟩
        · exact absurd hs0 (core_f5 (by decide) R C hf5 he)
        · have h6 := C.few hf8
          have hd3 : decide ((openN p.bounds : Int) > 6) = true := by simp; omega
          have hd6 : ((coreP p).2 == 8) = true := by rw [hf8]; rfl
          refine calls_of_TC (args := [_, _]) Tryz.func3 rfl Tryz.ntmps3 (Nat.le_of_ble_eq_true rfl) hs ?_
          repeat' (first | rw [hd3] | (apply a_call; exact EvC.callV rfl rfl (fun w hs => hfi w _ hs); exact rfl; exact wd; rintro ⟨⟩) | (apply a_call; exact EvC.callV rfl rfl (fun w hs => hop _ (Mem.Le.refl _) w _ hs); exact rfl; exact wd; rintro ⟨⟩) | (apply a_call; exact EvC.callX rfl rfl (fun w hs => hfo w _ hs); exact rfl; exact wd; rintro ⟨⟨m1, A1, c1⟩, hle1, hS1, hcc1⟩; simp only at hle1 hS1 hcc1 ⊢) | (apply a_call; exact EvC.callX rfl rfl (fun w hs => hsol _ hle1 100 w _ hs); exact rfl; exact wd; rintro ⟨⟨m2, A2, c2⟩, hle2, hS2, hcc2⟩; simp only at hle2 hS2 hcc2 ⊢; have hle2 := hle1.trans hle2; have hS1 := hS1.mono (show m1.Le m2 by assumption)) | (apply a_call; exact EvC.callX rfl rfl (fun w hs => cloneL_c A2 c2 _ (by omega) m2 _ w hs hS2); exact rfl; exact wd; rintro ⟨⟨v3, e3⟩, hr3⟩; simp only at hr3 ⊢) | (apply a_call; exact EvC.callX rfl rfl (fun w hs => hso _ _ _ _ w hr3 hs); exact rfl; exact wd; rintro ⟨e4, hr4⟩; simp only at hr4 ⊢) | (apply a_call; exact EvC.callX rfl rfl (fun w hs => hss _ _ _ hS1 _ _ _ w hr4 hs); exact rfl; exact wd; rintro ⟨m5, hle5⟩; simp only; have hle5 := hle2.trans hle5) | (apply a_call; exact EvC.callX rfl rfl (fun w hs => hcor _ hle5 w _ hs); exact rfl; exact wd; rintro ⟨⟨m6, A6, c6⟩, hle6, hS6⟩; simp only at hle6 hS6 ⊢; have hle6 := hle5.trans hle6) | (apply a_call; exact EvC.callV rfl rfl (fun w hs => hop _ hle6 w _ hs); exact rfl; exact wd; rintro ⟨⟩) | (apply a_call; exact EvC.callV rfl rfl (fun w hs => hwk _ hle6 w _ hs); exact rfl; exact wd; rintro ⟨⟩) | refine TC.seq ?_ | refine TC.region ?_ | refine TR.nil ?_ | refine Post.then_normal ?_ | refine TC.skip ?_ | refine TC.ret ?_ | (apply TC.cond_f; exact rfl) | (apply TC.cond_bt; exact rfl; assumption) | (apply TC.cond_bf; exact rfl; assumption) | refine Post.then_ret ?_ | (apply a_gt; exact a_gss; (first | exact rfl | assumption)) | (apply a_gf; exact a_gss; (first | exact rfl | assumption)) | (apply a_move; exact a_moves) | (apply a_assign; exact a_assigns) | (apply a_load; exact a_loads) | (apply a_len; exact a_lens) | (apply a_unOp; exact a_unOps) | (apply a_beql; exact a_beqls) | (apply a_bneq; exact a_bneqs) | (apply a_blss; exact a_blsss) | (apply a_bgtr; exact a_bgtrs) | (apply a_bgeq; exact a_bgeqs) | (apply a_pick; exact a_picks) | (apply a_extract; exact a_extracts) | (apply c_boxA; exact c_boxAs; exact rfl; intro g))
          refine Post.body_ret _ (ResL.one rfl (ResV.tmp rfl)) ?_
          exact fun w h => ⟨rfl, (h.weaken hle6).tail⟩
end Go.Proofs.YtgpgjpcebajofaaGreatDoor
