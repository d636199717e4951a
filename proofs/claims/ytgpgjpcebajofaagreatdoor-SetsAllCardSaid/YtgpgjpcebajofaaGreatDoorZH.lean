import Derived.Test.YtgpgjpcebajofaaGreatDoorZG
import Derived.ArgAppend
import Derived.Test.YtgpgjpcebajofaaGreatDoorZB
set_option linter.unusedVariables false
set_option linter.unusedSimpArgs false
set_option linter.all false
set_option maxHeartbeats 4000000
set_option linter.unusedVariables false
set_option linter.unusedSimpArgs false
set_option maxRecDepth 100000
namespace Go.Proofs.YtgpgjpcebajofaaGreatDoor
open Go Go.XC Go.RowKit Go.SetsP
attribute [local irreducible] Post TC TR D WL EvS EvC Wd ResL Code.wpIn Exit.then Exit.inBlock Exit.noGoto LoopK LoopP bodyPostM Reads Calls

theorem ruleR_c (r : Rl) (B : Option Addr) (c : Nat) (many : Nat) (hm : many ≤ 1000) (m : Mem) (hB : Sl m 1 B (ints r.vars)) (L : Own) (w : World) (hs : St m L w) :
    Calls Tryz.prog 54 #[rlV r B c, .int .i64 (many : Int)] w fun e w' => e = .returned (.bool (ruleB r many)) ∧ St m L w' := by
  have hbig : r.vars.length ≤ 140737488355328 := by simpa [ints] using hB.big
  unfold rlV
  cases hv0 : (varsZ r.kind == 0) with
  | true =>
    refine calls_of_TC (args := [_, _]) Tryz.func54 rfl Tryz.ntmps54 (Nat.le_of_ble_eq_true rfl) hs ?_
    repeat' (first | refine TC.seq ?_ | refine TC.region ?_ | refine TR.nil ?_ | refine Post.then_normal ?_ | (apply TR.st1 (o := ⟨_, .assign _, _, _, _, _⟩); exact rfl; exact rfl; exact rfl; (first | exact Wd.plain rfl | exact Wd.on rfl rfl rfl); exact EvS.assign rfl) | (apply TR.ch1 (o := ⟨_, .box _ _, _, _, _, _⟩) ; exact rfl; exact rfl; exact rfl; (first | exact Wd.plain rfl | exact Wd.on rfl rfl rfl); exact EvC.boxA rfl; intro g))
    refine TC.draw_ [.st, .st, .ch, .st, .st, .sk, .sk, .sk, .sk, .sk, .sk, .sk, .st] mixed rfl (by kernel_rfl) ?_
    repeat' (first | rw [hv0] | (apply D.chx (o := ⟨_, .call _, _, _, _, _⟩); exact rfl; (first | exact Wd.plain rfl | exact Wd.on rfl rfl rfl); exact EvC.callV rfl rfl (fun w hs => asks_c _ _ _ w hs); exact inferInstance; exact (by first | exact fun _ _ h => StX.of0 h | exact fun _ _ h => StX.of1 h | exact fun _ _ h => StX.of2 h | exact fun _ _ h => StX.of3 h | exact fun _ _ h => StX.of h); rintro ⟨⟩) | (apply D.sk1; exact rfl; (first | exact Wd.off rfl rfl rfl rfl | exact Wd.offU rfl rfl rfl)) | (apply D.st1; exact rfl; (first | exact Wd.plain rfl | exact Wd.on rfl rfl rfl); (first | exact EvS.move rfl | exact EvS.fieldAddr rfl | (first | (apply EvS.load1; exact rfl; (first | exact Reads.memX (by assumption) | exact Reads.ownX (by repeat first | exact List.Mem.head _ | assumption | apply List.Mem.tail)); (first | assumption | exact nthL_arr rfl | exact rfl)) | (apply EvS.loadW; exact rfl; (first | exact Reads.memX (by assumption) | exact Reads.ownX (by repeat first | exact List.Mem.head _ | assumption | apply List.Mem.tail)); first | exact rfl | assumption) | (apply EvS.loadH; exact rfl; (first | exact Reads.memX (by assumption) | exact Reads.ownX (by repeat first | exact List.Mem.head _ | assumption | apply List.Mem.tail)); assumption; first | exact rfl | assumption)) | (first | exact EvS.eq64 rfl rfl (by first | with_reducible exact U64.var _ | exact U64.lit rfl) (by first | with_reducible exact U64.var _ | exact U64.lit rfl) | exact EvS.eqI rfl rfl | exact EvS.eqB rfl rfl) | (first | exact EvS.pick_t rfl rfl | exact EvS.pick_f rfl rfl))) | refine D.tail_ ?_)
    repeat' (first | refine TC.seq ?_ | refine TC.region ?_ | refine TR.nil ?_ | refine Post.then_normal ?_ | refine TC.ret ?_ | (apply TC.cond_t; exact rfl) | refine Post.then_ret ?_ | (apply TR.st1 (o := ⟨_, .assign _, _, _, _, _⟩); exact rfl; exact rfl; exact rfl; (first | exact Wd.plain rfl | exact Wd.on rfl rfl rfl); exact EvS.assign rfl))
    (refine Post.body_ret _ (ResL.one rfl (ResV.tmp rfl)) ?_; intro wR hR; exact ⟨by rw [show ruleB r many = false by unfold ruleB; rw [hv0]; rfl], (by first | exact hR | exact hR.tail | exact hR.tail.tail | exact hR.tail.tail.tail | exact hR.tail.tail.tail.tail | exact hR.tail.tail.tail.tail.tail | exact hR.tail.tail.tail.tail.tail.tail)⟩)
  | false =>
  cases hv1 : ((r.vars.length : Int) != varsZ r.kind) with
  | true =>
    refine calls_of_TC (args := [_, _]) Tryz.func54 rfl Tryz.ntmps54 (Nat.le_of_ble_eq_true rfl) hs ?_
    repeat' (first | refine TC.seq ?_ | refine TC.region ?_ | refine TR.nil ?_ | refine Post.then_normal ?_ | (apply TR.st1 (o := ⟨_, .assign _, _, _, _, _⟩); exact rfl; exact rfl; exact rfl; (first | exact Wd.plain rfl | exact Wd.on rfl rfl rfl); exact EvS.assign rfl) | (apply TR.ch1 (o := ⟨_, .box _ _, _, _, _, _⟩) ; exact rfl; exact rfl; exact rfl; (first | exact Wd.plain rfl | exact Wd.on rfl rfl rfl); exact EvC.boxA rfl; intro g))
    refine TC.draw_ [.st, .st, .ch, .st, .st, .st, .st, .st, .st, .st, .ch, .st, .st] mixed rfl (by kernel_rfl) ?_
    repeat' (first | rw [hv0] | (apply D.chx (o := ⟨_, .call _, _, _, _, _⟩); exact rfl; (first | exact Wd.plain rfl | exact Wd.on rfl rfl rfl); exact EvC.callV rfl rfl (fun w hs => asks_c _ _ _ w hs); exact inferInstance; exact (by first | exact fun _ _ h => StX.of0 h | exact fun _ _ h => StX.of1 h | exact fun _ _ h => StX.of2 h | exact fun _ _ h => StX.of3 h | exact fun _ _ h => StX.of h); rintro ⟨⟩) | (apply D.st1; exact rfl; (first | exact Wd.plain rfl | exact Wd.on rfl rfl rfl); (first | exact EvS.move rfl | exact EvS.fieldAddr rfl | (first | (apply EvS.load1; exact rfl; (first | exact Reads.memX (by assumption) | exact Reads.ownX (by repeat first | exact List.Mem.head _ | assumption | apply List.Mem.tail)); (first | assumption | exact nthL_arr rfl | exact rfl)) | (apply EvS.loadW; exact rfl; (first | exact Reads.memX (by assumption) | exact Reads.ownX (by repeat first | exact List.Mem.head _ | assumption | apply List.Mem.tail)); first | exact rfl | assumption) | (apply EvS.loadH; exact rfl; (first | exact Reads.memX (by assumption) | exact Reads.ownX (by repeat first | exact List.Mem.head _ | assumption | apply List.Mem.tail)); assumption; first | exact rfl | assumption)) | exact EvS.len rfl | (first | exact EvS.eq64 rfl rfl (by first | with_reducible exact U64.var _ | exact U64.lit rfl) (by first | with_reducible exact U64.var _ | exact U64.lit rfl) | exact EvS.eqI rfl rfl | exact EvS.eqB rfl rfl) | (first | exact EvS.ne64 rfl rfl (by first | with_reducible exact U64.var _ | exact U64.lit rfl) (by first | with_reducible exact U64.var _ | exact U64.lit rfl) | exact EvS.neB rfl rfl | exact EvS.neI rfl rfl) | (first | exact EvS.pick_t rfl rfl | exact EvS.pick_f rfl rfl))) | refine D.tail_ ?_)
    rw [hv1]
    repeat' (first | refine TC.seq ?_ | refine TC.region ?_ | refine TR.nil ?_ | refine Post.then_normal ?_ | refine TC.ret ?_ | (apply TC.cond_t; exact rfl) | refine Post.then_ret ?_ | (apply TR.st1 (o := ⟨_, .assign _, _, _, _, _⟩); exact rfl; exact rfl; exact rfl; (first | exact Wd.plain rfl | exact Wd.on rfl rfl rfl); exact EvS.assign rfl))
    (refine Post.body_ret _ (ResL.one rfl (ResV.tmp rfl)) ?_; intro wR hR; exact ⟨by rw [show ruleB r many = false by unfold ruleB; rw [hv1, Bool.or_true]; rfl], (by first | exact hR | exact hR.tail | exact hR.tail.tail | exact hR.tail.tail.tail | exact hR.tail.tail.tail.tail | exact hR.tail.tail.tail.tail.tail | exact hR.tail.tail.tail.tail.tail.tail)⟩)
  | false =>
  have h1 : ruleB r many = if !(r.vars.zipIdx.all fun x => okV r many x.1 x.2) then false
      else if r.kind == 6 then decide (0 ≤ r.low ∧ r.low ≤ 12) && decide (r.low ≤ r.high ∧ r.high ≤ 12) else r.low == 0 && r.high == 0 := by
    unfold ruleB; rw [hv0, hv1]; rfl
  refine calls_of_TC (args := [_, _]) Tryz.func54 rfl Tryz.ntmps54 (Nat.le_of_ble_eq_true rfl) hs ?_
  repeat' (first | refine TC.seq ?_ | refine TC.region ?_ | refine TR.nil ?_ | refine Post.then_normal ?_ | (apply TR.st1 (o := ⟨_, .assign _, _, _, _, _⟩); exact rfl; exact rfl; exact rfl; (first | exact Wd.plain rfl | exact Wd.on rfl rfl rfl); exact EvS.assign rfl) | (apply TR.ch1 (o := ⟨_, .box _ _, _, _, _, _⟩) ; exact rfl; exact rfl; exact rfl; (first | exact Wd.plain rfl | exact Wd.on rfl rfl rfl); exact EvC.boxA rfl; intro g))
  refine TC.draw_ [.st, .st, .ch, .st, .st, .st, .st, .st, .st, .st, .ch, .st, .st] mixed rfl (by kernel_rfl) ?_
  repeat' (first | rw [hv0] | (apply D.chx (o := ⟨_, .call _, _, _, _, _⟩); exact rfl; (first | exact Wd.plain rfl | exact Wd.on rfl rfl rfl); exact EvC.callV rfl rfl (fun w hs => asks_c _ _ _ w hs); exact inferInstance; exact (by first | exact fun _ _ h => StX.of0 h | exact fun _ _ h => StX.of1 h | exact fun _ _ h => StX.of2 h | exact fun _ _ h => StX.of3 h | exact fun _ _ h => StX.of h); rintro ⟨⟩) | (apply D.st1; exact rfl; (first | exact Wd.plain rfl | exact Wd.on rfl rfl rfl); (first | exact EvS.move rfl | exact EvS.fieldAddr rfl | (first | (apply EvS.load1; exact rfl; (first | exact Reads.memX (by assumption) | exact Reads.ownX (by repeat first | exact List.Mem.head _ | assumption | apply List.Mem.tail)); (first | assumption | exact nthL_arr rfl | exact rfl)) | (apply EvS.loadW; exact rfl; (first | exact Reads.memX (by assumption) | exact Reads.ownX (by repeat first | exact List.Mem.head _ | assumption | apply List.Mem.tail)); first | exact rfl | assumption) | (apply EvS.loadH; exact rfl; (first | exact Reads.memX (by assumption) | exact Reads.ownX (by repeat first | exact List.Mem.head _ | assumption | apply List.Mem.tail)); assumption; first | exact rfl | assumption)) | exact EvS.len rfl | (first | exact EvS.eq64 rfl rfl (by first | with_reducible exact U64.var _ | exact U64.lit rfl) (by first | with_reducible exact U64.var _ | exact U64.lit rfl) | exact EvS.eqI rfl rfl | exact EvS.eqB rfl rfl) | (first | exact EvS.ne64 rfl rfl (by first | with_reducible exact U64.var _ | exact U64.lit rfl) (by first | with_reducible exact U64.var _ | exact U64.lit rfl) | exact EvS.neB rfl rfl | exact EvS.neI rfl rfl) | (first | exact EvS.pick_t rfl rfl | exact EvS.pick_f rfl rfl))) | refine D.tail_ ?_)
  rw [hv1]
  repeat' (first | refine TC.seq ?_ | refine TC.region ?_ | refine TR.nil ?_ | refine Post.then_normal ?_ | refine TC.block ?_ | refine TC.skip ?_ | (apply TC.cond_f; exact rfl) | (apply TR.st1 (o := ⟨_, .assign _, _, _, _, _⟩); exact rfl; exact rfl; exact rfl; (first | exact Wd.plain rfl | exact Wd.on rfl rfl rfl); exact EvS.assign rfl))
  refine TC.loopP (X := Nat) (fun k => k ≤ r.vars.length ∧ ∀ j v, j < k → r.vars[j]? = some v → okV r many v j = true) (fun k => [(5, .int .i64 (k : Int)), (2, .pointer (some ⟨g, 0, none⟩)), (1, .int .i64 (many : Int))]) (fun _ => St m (some (g, .cells #[.int .i64 r.kind, .slice B r.vars.length c, .int .i64 r.low, .int .i64 r.high] 62 (0, 0)) :: L)) (fun k => r.vars.length - k) 0 ⟨by omega, fun j y h => by omega⟩ (incl.lk (by repeat first | exact trivial | refine ⟨rfl, ?_⟩)) (fun w h => h) ?_
  rintro k ⟨hk, hno⟩
  by_cases hlt : k < r.vars.length
  · obtain ⟨x, hx⟩ : ∃ x, r.vars[k]? = some x := ⟨_, List.getElem?_eq_getElem hlt⟩
    obtain ⟨g1, o, blk, T, fr, hAe, hmb, hc⟩ := hB.get1 (k := k) (v := .int .i64 x) (by simp [ints, hx])
    have hd : decide ((k : Int) < (r.vars.length : Int)) = true := by simpa using hlt
    have hno' : okV r many x k = false → ruleB r many = false := fun h0 => by
      rw [h1, if_pos]
      rw [Bool.not_eq_true', List.all_eq_false]
      exact ⟨(x, k), List.mk_mem_zipIdx_iff_getElem?.2 hx, by simp [h0]⟩
    by_cases hw : decide (0 ≤ x ∧ x ≤ (many : Int) - 1) = true
    · have hw' : (!decide (0 ≤ x ∧ x ≤ (many : Int) - 1)) = false := by rw [hw]; rfl
      repeat' (first | (apply TR.ch1 (o := ⟨_, .call _, _, _, _, _⟩); exact rfl; exact rfl; exact rfl; (first | exact Wd.plain rfl | exact Wd.on rfl rfl rfl); exact EvC.callV rfl rfl (fun w hs => in_c _ _ _ _ _ _ hs); rintro ⟨⟩) | refine TC.seq ?_ | refine TC.region ?_ | refine TR.nil ?_ | refine Post.then_normal ?_ | refine TC.block ?_ | refine TC.skip ?_ | (apply TC.cond_bt; exact rfl; assumption) | (apply TC.cond_bf; exact rfl; assumption) | (apply TR.st1; exact rfl; exact rfl; exact rfl; (first | exact Wd.plain rfl | exact Wd.on rfl rfl rfl); (first | exact EvS.move rfl | exact EvS.assign rfl | exact EvS.fieldAddr rfl | (first | (apply EvS.load1; exact rfl; (first | exact Reads.mem (by assumption) | exact Reads.own (by repeat first | exact List.Mem.head _ | assumption | apply List.Mem.tail)); (first | assumption | exact nthL_arr rfl | exact rfl)) | (apply EvS.loadW; exact rfl; (first | exact Reads.mem (by assumption) | exact Reads.own (by repeat first | exact List.Mem.head _ | assumption | apply List.Mem.tail)); first | exact rfl | assumption) | (apply EvS.loadH; exact rfl; (first | exact Reads.mem (by assumption) | exact Reads.own (by repeat first | exact List.Mem.head _ | assumption | apply List.Mem.tail)); assumption; first | exact rfl | assumption)) | exact EvS.len rfl | (first | exact EvS.not rfl | exact EvS.neg64 rfl (by first | with_reducible exact U64.var _ | exact U64.lit rfl)) | exact EvS.ltI rfl rfl | (first | exact EvS.subI rfl rfl (by omega) | exact EvS.sub64 rfl rfl (by first | with_reducible exact U64.var _ | exact U64.lit rfl) (by first | with_reducible exact U64.var _ | exact U64.lit rfl)) | (first | exact EvS.indexAddr rfl rfl (by first | exact rfl | assumption) (by omega) | exact EvS.indexAddrA rfl rfl (by omega)))))
      refine TC.loopP (X := Nat) (fun i => i ≤ k ∧ ∀ j v, j < i → r.vars[j]? = some v → v ≠ x) (fun i => [(6, .int .i64 (i : Int)), (5, .int .i64 (k : Int)), (2, .pointer (some ⟨g, 0, none⟩)), (1, .int .i64 (many : Int))]) (fun _ => St m (some (g, .cells #[.int .i64 r.kind, .slice B r.vars.length c, .int .i64 r.low, .int .i64 r.high] 62 (0, 0)) :: L)) (fun i => k - i) 0 ⟨by omega, fun j y h => by omega⟩ (incl.lk (by repeat first | exact trivial | refine ⟨rfl, ?_⟩)) (fun w h => h) ?_
      rintro i ⟨hi, hno2⟩
      by_cases hlt2 : i < k
      · obtain ⟨y, hy⟩ : ∃ y, r.vars[i]? = some y := ⟨_, List.getElem?_eq_getElem (by omega)⟩
        obtain ⟨g2, o2, blk2, T2, fr2, hAe2, hmb2, hc2⟩ := hB.get1 (k := i) (v := .int .i64 y) (by simp [ints, hy])
        obtain ⟨rfl, rfl⟩ : g1 = g2 ∧ o = o2 := by have h := hAe.symm.trans hAe2; injection h with h; injection h with a b _; exact ⟨a, b⟩
        obtain rfl : blk = blk2 := by have h := hmb.symm.trans hmb2; injection h with h; injection h
        have hd2 : decide ((i : Int) < (k : Int)) = true := by simpa using hlt2
        repeat' (first | refine TC.seq ?_ | refine TC.region ?_ | refine TR.nil ?_ | refine Post.then_normal ?_ | refine TC.block ?_ | refine TC.skip ?_ | (apply TC.cond_bt; exact rfl; assumption) | (apply TR.st1; exact rfl; exact rfl; exact rfl; (first | exact Wd.plain rfl | exact Wd.on rfl rfl rfl); (first | exact EvS.move rfl | exact EvS.ltI rfl rfl)))
        refine TC.draw_ [.st, .st, .st, .st, .st, .st, .st, .st, .st, .st, .st] mixed rfl (by kernel_rfl) ?_
        repeat' (first | (apply D.st1; exact rfl; (first | exact Wd.plain rfl | exact Wd.on rfl rfl rfl); (first | exact EvS.move rfl | exact EvS.fieldAddr rfl | (first | (apply EvS.load1; exact rfl; (first | exact Reads.memX (by assumption) | exact Reads.ownX (by repeat first | exact List.Mem.head _ | assumption | apply List.Mem.tail)); (first | assumption | exact nthL_arr rfl | exact rfl)) | (apply EvS.loadW; exact rfl; (first | exact Reads.memX (by assumption) | exact Reads.ownX (by repeat first | exact List.Mem.head _ | assumption | apply List.Mem.tail)); first | exact rfl | assumption) | (apply EvS.loadH; exact rfl; (first | exact Reads.memX (by assumption) | exact Reads.ownX (by repeat first | exact List.Mem.head _ | assumption | apply List.Mem.tail)); assumption; first | exact rfl | assumption)) | (first | exact EvS.eq64 rfl rfl (by first | with_reducible exact U64.var _ | exact U64.lit rfl) (by first | with_reducible exact U64.var _ | exact U64.lit rfl) | exact EvS.eqI rfl rfl | exact EvS.eqB rfl rfl) | (first | exact EvS.indexAddr rfl rfl (by first | exact rfl | assumption) (by omega) | exact EvS.indexAddrA rfl rfl (by omega)))) | refine D.tail_ ?_)
        repeat' (first | refine TC.seq ?_ | refine TC.region ?_ | refine TR.nil ?_ | refine Post.then_normal ?_ | refine TC.skip ?_ | refine TC.ret ?_ | refine Post.then_ret ?_ | refine Post.block_normal ?_ | refine Post.block_ret ?_ | (apply TC.cond; exact rfl; all_goals (intro h)) | (apply TR.st1; exact rfl; exact rfl; exact rfl; (first | exact Wd.plain rfl | exact Wd.on rfl rfl rfl); (first | exact EvS.move rfl | exact EvS.assign rfl | (first | exact EvS.addI rfl rfl (by omega) | exact EvS.add64 rfl rfl (by first | with_reducible exact U64.var _ | exact U64.lit rfl) (by first | with_reducible exact U64.var _ | exact U64.lit rfl)))))
        · have hyx : y = x := by simpa using h
          have hmem : (r.vars.take k).contains x = true := by
            rw [List.contains_iff_mem]
            subst hyx
            refine List.mem_of_getElem? (i := i) ?_
            rw [List.getElem?_take, if_pos hlt2]; exact hy
          (refine Post.body_ret _ (ResL.one rfl (ResV.tmp rfl)) ?_; intro wR hR; exact ⟨by rw [hno' (by unfold okV; rw [hmem, Bool.not_true, Bool.and_false])], (by first | exact hR | exact hR.tail | exact hR.tail.tail | exact hR.tail.tail.tail | exact hR.tail.tail.tail.tail | exact hR.tail.tail.tail.tail.tail | exact hR.tail.tail.tail.tail.tail.tail)⟩)
        · have hyx : y ≠ x := by simpa using h
          refine Post.nextP (i + 1) ⟨by omega, fun j z hj hz => ?_⟩ (incl.lk (by repeat first | exact trivial | refine ⟨rfl, ?_⟩)) (fun w h => h) (by omega)
          by_cases e : j = i
          · subst e; rw [hy] at hz; cases hz; exact hyx
          · exact hno2 j z (by omega) hz
      · have hd2 : decide ((i : Int) < (k : Int)) = false := by simpa using hlt2
        obtain rfl : i = k := by omega
        have hcn : (r.vars.take i).contains x = false := by
          rw [← Bool.not_eq_true, List.contains_iff_mem]
          intro hmem
          obtain ⟨j, hj, hjx⟩ := List.mem_iff_getElem.1 hmem
          rw [List.length_take] at hj
          rw [List.getElem_take] at hjx
          exact hno2 j _ (by omega) (List.getElem?_eq_getElem (by omega)) hjx
        repeat' (first | refine TC.seq ?_ | refine TC.region ?_ | refine TR.nil ?_ | refine Post.then_normal ?_ | refine TC.exit ?_ | (apply TC.cond_bf; exact rfl; assumption) | refine Post.then_exit ?_ | refine Post.block_normal ?_ | refine Post.block_here ?_ | (apply TR.st1; exact rfl; exact rfl; exact rfl; (first | exact Wd.plain rfl | exact Wd.on rfl rfl rfl); (first | exact EvS.move rfl | exact EvS.assign rfl | exact EvS.ltI rfl rfl | (first | exact EvS.addI rfl rfl (by omega) | exact EvS.add64 rfl rfl (by first | with_reducible exact U64.var _ | exact U64.lit rfl) (by first | with_reducible exact U64.var _ | exact U64.lit rfl)))))
        refine Post.nextP (i + 1) ⟨by omega, fun j z hj hz => ?_⟩ (incl.lk (by repeat first | exact trivial | refine ⟨rfl, ?_⟩)) (fun w h => h) (by omega)
        by_cases e : j = i
        · subst e; rw [hx] at hz; cases hz; unfold okV; rw [hw, hcn]; rfl
        · exact hno j z (by omega) hz
    · rw [Bool.not_eq_true] at hw
      have hw' : (!decide (0 ≤ x ∧ x ≤ (many : Int) - 1)) = true := by rw [hw]; rfl
      repeat' (first | (apply TR.ch1 (o := ⟨_, .call _, _, _, _, _⟩); exact rfl; exact rfl; exact rfl; (first | exact Wd.plain rfl | exact Wd.on rfl rfl rfl); exact EvC.callV rfl rfl (fun w hs => in_c _ _ _ _ _ _ hs); rintro ⟨⟩) | refine TC.seq ?_ | refine TC.region ?_ | refine TR.nil ?_ | refine Post.then_normal ?_ | refine TC.block ?_ | refine TC.skip ?_ | refine TC.ret ?_ | (apply TC.cond_bt; exact rfl; assumption) | refine Post.then_ret ?_ | refine Post.block_ret ?_ | (apply TR.st1; exact rfl; exact rfl; exact rfl; (first | exact Wd.plain rfl | exact Wd.on rfl rfl rfl); (first | exact EvS.move rfl | exact EvS.assign rfl | exact EvS.fieldAddr rfl | (first | (apply EvS.load1; exact rfl; (first | exact Reads.mem (by assumption) | exact Reads.own (by repeat first | exact List.Mem.head _ | assumption | apply List.Mem.tail)); (first | assumption | exact nthL_arr rfl | exact rfl)) | (apply EvS.loadW; exact rfl; (first | exact Reads.mem (by assumption) | exact Reads.own (by repeat first | exact List.Mem.head _ | assumption | apply List.Mem.tail)); first | exact rfl | assumption) | (apply EvS.loadH; exact rfl; (first | exact Reads.mem (by assumption) | exact Reads.own (by repeat first | exact List.Mem.head _ | assumption | apply List.Mem.tail)); assumption; first | exact rfl | assumption)) | exact EvS.len rfl | (first | exact EvS.not rfl | exact EvS.neg64 rfl (by first | with_reducible exact U64.var _ | exact U64.lit rfl)) | exact EvS.ltI rfl rfl | (first | exact EvS.subI rfl rfl (by omega) | exact EvS.sub64 rfl rfl (by first | with_reducible exact U64.var _ | exact U64.lit rfl) (by first | with_reducible exact U64.var _ | exact U64.lit rfl)) | (first | exact EvS.indexAddr rfl rfl (by first | exact rfl | assumption) (by omega) | exact EvS.indexAddrA rfl rfl (by omega)))))
      (refine Post.body_ret _ (ResL.one rfl (ResV.tmp rfl)) ?_; intro wR hR; exact ⟨by rw [hno' (by unfold okV; rw [hw]; rfl)], (by first | exact hR | exact hR.tail | exact hR.tail.tail | exact hR.tail.tail.tail | exact hR.tail.tail.tail.tail | exact hR.tail.tail.tail.tail.tail | exact hR.tail.tail.tail.tail.tail.tail)⟩)
  · have hd : decide ((k : Int) < (r.vars.length : Int)) = false := by simpa using hlt
    have h2 : ruleB r many = if r.kind == 6 then decide (0 ≤ r.low ∧ r.low ≤ 12) && decide (r.low ≤ r.high ∧ r.high ≤ 12) else r.low == 0 && r.high == 0 := by
      rw [h1, if_neg]
      rw [Bool.not_eq_true, Bool.not_eq_false', List.all_eq_true]
      rintro ⟨x, i⟩ hx
      rw [List.mk_mem_zipIdx_iff_getElem?] at hx
      exact hno i x (by have := (List.getElem?_eq_some_iff.1 hx).1; omega) hx
    repeat' (first | (apply TR.ch1 (o := ⟨_, .call _, _, _, _, _⟩); exact rfl; exact rfl; exact rfl; (first | exact Wd.plain rfl | exact Wd.on rfl rfl rfl); exact EvC.callV rfl rfl (fun w hs => in_c _ _ _ _ _ _ hs); rintro ⟨⟩) | refine TC.seq ?_ | refine TC.region ?_ | refine TR.nil ?_ | refine Post.then_normal ?_ | refine TC.skip ?_ | refine TC.ret ?_ | refine TC.exit ?_ | (apply TC.cond_bf; exact rfl; assumption) | refine Post.then_ret ?_ | refine Post.then_exit ?_ | refine Post.block_here ?_ | (apply TC.cond; exact rfl; all_goals (intro h)) | (apply TR.sk1 (o := ⟨_, _, _, _, _, some _⟩); exact rfl; exact rfl; (first | exact Wd.off rfl rfl rfl rfl | exact Wd.offU rfl rfl rfl)) | (apply TR.gs (o := ⟨_, .move _, _, _, _, _⟩); exact rfl; exact rfl; exact rfl; exact rfl; (first | exact Wd.plain rfl | exact Wd.on rfl rfl rfl); exact EvS.move rfl; all_goals (intro h)) | (apply TR.st1; exact rfl; exact rfl; exact rfl; (first | exact Wd.plain rfl | exact Wd.on rfl rfl rfl); (first | exact EvS.move rfl | exact EvS.assign rfl | exact EvS.fieldAddr rfl | (first | (apply EvS.load1; exact rfl; (first | exact Reads.mem (by assumption) | exact Reads.own (by repeat first | exact List.Mem.head _ | assumption | apply List.Mem.tail)); (first | assumption | exact nthL_arr rfl | exact rfl)) | (apply EvS.loadW; exact rfl; (first | exact Reads.mem (by assumption) | exact Reads.own (by repeat first | exact List.Mem.head _ | assumption | apply List.Mem.tail)); first | exact rfl | assumption) | (apply EvS.loadH; exact rfl; (first | exact Reads.mem (by assumption) | exact Reads.own (by repeat first | exact List.Mem.head _ | assumption | apply List.Mem.tail)); assumption; first | exact rfl | assumption)) | exact EvS.len rfl | (first | exact EvS.eq64 rfl rfl (by first | with_reducible exact U64.var _ | exact U64.lit rfl) (by first | with_reducible exact U64.var _ | exact U64.lit rfl) | exact EvS.eqI rfl rfl | exact EvS.eqB rfl rfl) | exact EvS.ltI rfl rfl | (first | exact EvS.pick_t rfl rfl | exact EvS.pick_f rfl rfl))))
    · rename_i hk
      (refine Post.body_ret _ (ResL.one rfl (ResV.tmp rfl)) ?_; intro wR hR; exact ⟨by rw [h2, hk, if_pos rfl, h]; rfl, (by first | exact hR | exact hR.tail | exact hR.tail.tail | exact hR.tail.tail.tail | exact hR.tail.tail.tail.tail | exact hR.tail.tail.tail.tail.tail | exact hR.tail.tail.tail.tail.tail.tail)⟩)
    · rename_i hk
      (refine Post.body_ret _ (ResL.one rfl (ResV.tmp rfl)) ?_; intro wR hR; exact ⟨by rw [h2, hk, if_pos rfl, h]; rfl, (by first | exact hR | exact hR.tail | exact hR.tail.tail | exact hR.tail.tail.tail | exact hR.tail.tail.tail.tail | exact hR.tail.tail.tail.tail.tail | exact hR.tail.tail.tail.tail.tail.tail)⟩)
    · rename_i hk
      (refine Post.body_ret _ (ResL.one rfl (ResV.tmp rfl)) ?_; intro wR hR; exact ⟨by rw [h2, hk, if_neg (by simp), h]; rfl, (by first | exact hR | exact hR.tail | exact hR.tail.tail | exact hR.tail.tail.tail | exact hR.tail.tail.tail.tail | exact hR.tail.tail.tail.tail.tail | exact hR.tail.tail.tail.tail.tail.tail)⟩)
    · rename_i hk
      (refine Post.body_ret _ (ResL.one rfl (ResV.tmp rfl)) ?_; intro wR hR; exact ⟨by rw [h2, hk, if_neg (by simp), h]; rfl, (by first | exact hR | exact hR.tail | exact hR.tail.tail | exact hR.tail.tail.tail | exact hR.tail.tail.tail.tail | exact hR.tail.tail.tail.tail.tail | exact hR.tail.tail.tail.tail.tail.tail)⟩)

theorem prob_c (p : Pb) (pcs : Array Value) (h9 : p.bounds.length ≤ 1000) (h13 : p.rules.length ≤ 1000) (m : Mem) (hpc : PbC m p pcs) (L : Own) (w : World) (hs : St m L w) :
    Calls Tryz.prog 17 #[.agg pcs] w fun x w' => x = .returned (.bool (checkB p)) ∧ St m L w' := by
  have hpc0 := hpc
  obtain ⟨BA, bc, RA, rc, rfl, hBA, hRA⟩ := hpc
  have fal : checkB p = false → ∀ (x : Value), x = .bool false → x = .bool (checkB p) := fun h x hx => by rw [h, hx]
  by_cases h1 : decide (1 ≤ (p.bounds.length : Int) ∧ (p.bounds.length : Int) ≤ 8) = true
  rotate_left
  · rw [Bool.not_eq_true] at h1
    have h1' : (!decide (1 ≤ (p.bounds.length : Int) ∧ (p.bounds.length : Int) ≤ 8)) = true := by rw [h1]; rfl
    have hck : checkB p = false := by
      unfold checkB
      rw [show decide (1 ≤ p.bounds.length ∧ p.bounds.length ≤ 8) = false by have := of_decide_eq_false h1; simp; omega]
      simp
    refine calls_of_TC (args := [_]) Tryz.func17 rfl Tryz.ntmps17 (Nat.le_of_ble_eq_true rfl) hs ?_
    repeat' (first | (apply TR.ch1 (o := ⟨_, .call _, _, _, _, _⟩); exact rfl; exact rfl; exact rfl; (first | exact Wd.plain rfl | exact Wd.on rfl rfl rfl); exact EvC.callV rfl rfl (fun w hs => in_c _ _ _ _ _ _ hs); rintro ⟨⟩) | refine TC.seq ?_ | refine TC.region ?_ | refine TR.nil ?_ | refine Post.then_normal ?_ | refine TC.ret ?_ | (apply TC.cond_t; exact rfl) | refine Post.then_ret ?_ | (apply TR.sk1 (o := ⟨_, _, _, _, _, some _⟩); exact rfl; exact rfl; (first | exact Wd.off rfl rfl rfl rfl | exact Wd.offU rfl rfl rfl)) | (apply TR.gs_t (o := ⟨_, .move _, _, _, _, _⟩); exact rfl; exact rfl; exact rfl; exact rfl; (first | exact Wd.plain rfl | exact Wd.on rfl rfl rfl); exact EvS.move rfl; (first | exact rfl | assumption)) | (apply TR.st1; exact rfl; exact rfl; exact rfl; (first | exact Wd.plain rfl | exact Wd.on rfl rfl rfl); (first | exact EvS.assign rfl | exact EvS.fieldAddr rfl | (first | (apply EvS.load1; exact rfl; (first | exact Reads.mem (by assumption) | exact Reads.own (by repeat first | exact List.Mem.head _ | assumption | apply List.Mem.tail)); (first | assumption | exact nthL_arr rfl | exact rfl)) | (apply EvS.loadW; exact rfl; (first | exact Reads.mem (by assumption) | exact Reads.own (by repeat first | exact List.Mem.head _ | assumption | apply List.Mem.tail)); first | exact rfl | assumption) | (apply EvS.loadH; exact rfl; (first | exact Reads.mem (by assumption) | exact Reads.own (by repeat first | exact List.Mem.head _ | assumption | apply List.Mem.tail)); assumption; first | exact rfl | assumption)) | exact EvS.len rfl | (first | exact EvS.not rfl | exact EvS.neg64 rfl (by first | with_reducible exact U64.var _ | exact U64.lit rfl)) | (first | exact EvS.pick_t rfl rfl | exact EvS.pick_f rfl rfl))) | (apply TR.ch1 (o := ⟨_, .box _ _, _, _, _, _⟩) ; exact rfl; exact rfl; exact rfl; (first | exact Wd.plain rfl | exact Wd.on rfl rfl rfl); exact EvC.boxA rfl; intro g))
    (refine Post.body_ret _ (ResL.one rfl (ResV.tmp rfl)) ?_; intro wR hR; exact ⟨by rw [hck], (by first | exact hR | exact hR.tail | exact hR.tail.tail | exact hR.tail.tail.tail | exact hR.tail.tail.tail.tail | exact hR.tail.tail.tail.tail.tail | exact hR.tail.tail.tail.tail.tail.tail)⟩)
  have h1' : (!decide (1 ≤ (p.bounds.length : Int) ∧ (p.bounds.length : Int) ≤ 8)) = false := by rw [h1]; rfl
  have h8 : p.bounds.length ≤ 8 := by have := of_decide_eq_true h1; omega
  refine calls_of_TC (args := [_]) Tryz.func17 rfl Tryz.ntmps17 (Nat.le_of_ble_eq_true rfl) hs ?_
  repeat' (first | (apply TR.ch1 (o := ⟨_, .call _, _, _, _, _⟩); exact rfl; exact rfl; exact rfl; (first | exact Wd.plain rfl | exact Wd.on rfl rfl rfl); exact EvC.callV rfl rfl (fun w hs => in_c _ _ _ _ _ _ hs); rintro ⟨⟩) | refine TC.seq ?_ | refine TC.region ?_ | refine TR.nil ?_ | refine Post.then_normal ?_ | refine TC.block ?_ | refine TC.skip ?_ | refine TC.ret ?_ | refine Post.then_ret ?_ | (apply TC.cond; exact rfl; all_goals (intro h)) | (apply TR.gs_f (o := ⟨_, .move _, _, _, _, _⟩); exact rfl; exact rfl; exact rfl; exact rfl; (first | exact Wd.plain rfl | exact Wd.on rfl rfl rfl); exact EvS.move rfl; (first | exact rfl | assumption)) | (apply TR.st1; exact rfl; exact rfl; exact rfl; (first | exact Wd.plain rfl | exact Wd.on rfl rfl rfl); (first | exact EvS.assign rfl | exact EvS.fieldAddr rfl | (first | (apply EvS.load1; exact rfl; (first | exact Reads.mem (by assumption) | exact Reads.own (by repeat first | exact List.Mem.head _ | assumption | apply List.Mem.tail)); (first | assumption | exact nthL_arr rfl | exact rfl)) | (apply EvS.loadW; exact rfl; (first | exact Reads.mem (by assumption) | exact Reads.own (by repeat first | exact List.Mem.head _ | assumption | apply List.Mem.tail)); first | exact rfl | assumption) | (apply EvS.loadH; exact rfl; (first | exact Reads.mem (by assumption) | exact Reads.own (by repeat first | exact List.Mem.head _ | assumption | apply List.Mem.tail)); assumption; first | exact rfl | assumption)) | exact EvS.len rfl | (first | exact EvS.not rfl | exact EvS.neg64 rfl (by first | with_reducible exact U64.var _ | exact U64.lit rfl)) | exact EvS.gtI rfl rfl | (first | exact EvS.pick_t rfl rfl | exact EvS.pick_f rfl rfl))) | (apply TR.ch1 (o := ⟨_, .box _ _, _, _, _, _⟩) ; exact rfl; exact rfl; exact rfl; (first | exact Wd.plain rfl | exact Wd.on rfl rfl rfl); exact EvC.boxA rfl; intro g))
  · have h2 := of_decide_eq_true h
    have hck : checkB p = false := by
      unfold checkB
      rw [show decide (p.rules.length ≤ 12) = false by rw [decide_eq_false_iff_not]; omega]
      simp
    (refine Post.body_ret _ (ResL.one rfl (ResV.tmp rfl)) ?_; intro wR hR; exact ⟨by rw [hck], (by first | exact hR | exact hR.tail | exact hR.tail.tail | exact hR.tail.tail.tail | exact hR.tail.tail.tail.tail | exact hR.tail.tail.tail.tail.tail | exact hR.tail.tail.tail.tail.tail.tail)⟩)
  have h2 := of_decide_eq_false h
  obtain ⟨gp, hgp⟩ : ∃ x, x = g := ⟨_, rfl⟩
  subst hgp
  refine TC.loopP (X := Nat) (fun k => k ≤ p.bounds.length ∧ ∀ j v, j < k → p.bounds[j]? = some v → bdOk v = true) (fun k => [(3, .int .i64 (k : Int)), (1, .pointer (some ⟨gp, 0, none⟩))]) (fun _ => St m (some (gp, .cells #[.slice BA p.bounds.length bc, .slice RA p.rules.length rc] 25 (0, 0)) :: L)) (fun k => p.bounds.length - k) 0 ⟨by omega, fun j y h => by omega⟩ (incl.lk (by repeat first | exact trivial | refine ⟨rfl, ?_⟩)) (fun w h => h) ?_
  rintro i ⟨hk, hno2⟩
  by_cases hlt : i < p.bounds.length
  · obtain ⟨y, hy⟩ : ∃ x, p.bounds[i]? = some x := ⟨_, List.getElem?_eq_getElem hlt⟩
    obtain ⟨g1, o, blk, T, fr, hAe, hmb, hc⟩ := hBA.get (k := i) (cs := bdC y) (by simp [bds, hy])
    replace hc : CellsAt blk (o + (i : Int).toNat * 2) #[.int .u64 (y.lo.toNat : Int), .int .u64 (y.can.toNat : Int)] := hc
    have hd : decide ((i : Int) < (p.bounds.length : Int)) = true := by simpa using hlt
    have hbad : bdOk y = false → checkB p = false := fun h => by
      unfold checkB
      rw [show p.bounds.all bdOk = false by rw [List.all_eq_false]; exact ⟨y, List.mem_of_getElem? hy, by simp [h]⟩]
      simp
    repeat' (first | (apply TR.ch1 (o := ⟨_, .call _, _, _, _, _⟩); exact rfl; exact rfl; exact rfl; (first | exact Wd.plain rfl | exact Wd.on rfl rfl rfl); exact EvC.callV rfl rfl (fun w hs => set_c _ _ _ _ hs); rintro ⟨⟩) | refine TC.seq ?_ | refine TC.region ?_ | refine TR.nil ?_ | refine Post.then_normal ?_ | refine TC.block ?_ | refine TC.skip ?_ | refine TC.ret ?_ | (apply TC.cond_t; exact rfl) | (apply TC.cond_bt; exact rfl; assumption) | refine Post.then_ret ?_ | refine Post.block_normal ?_ | refine Post.block_ret ?_ | (apply TC.cond; exact rfl; all_goals (intro h)) | (apply TR.sk1 (o := ⟨_, _, _, _, _, some _⟩); exact rfl; exact rfl; (first | exact Wd.off rfl rfl rfl rfl | exact Wd.offU rfl rfl rfl)) | (apply TR.gs (o := ⟨_, .move _, _, _, _, _⟩); exact rfl; exact rfl; exact rfl; exact rfl; (first | exact Wd.plain rfl | exact Wd.on rfl rfl rfl); exact EvS.move rfl; all_goals (intro h)) | (apply TR.st1; exact rfl; exact rfl; exact rfl; (first | exact Wd.plain rfl | exact Wd.on rfl rfl rfl); (first | exact EvS.move rfl | exact EvS.assign rfl | exact EvS.fieldAddr rfl | (first | (apply EvS.load1; exact rfl; (first | exact Reads.mem (by assumption) | exact Reads.own (by repeat first | exact List.Mem.head _ | assumption | apply List.Mem.tail)); (first | assumption | exact nthL_arr rfl | exact rfl)) | (apply EvS.loadW; exact rfl; (first | exact Reads.mem (by assumption) | exact Reads.own (by repeat first | exact List.Mem.head _ | assumption | apply List.Mem.tail)); first | exact rfl | assumption) | (apply EvS.loadH; exact rfl; (first | exact Reads.mem (by assumption) | exact Reads.own (by repeat first | exact List.Mem.head _ | assumption | apply List.Mem.tail)); assumption; first | exact rfl | assumption)) | exact EvS.len rfl | (first | exact EvS.not rfl | exact EvS.neg64 rfl (by first | with_reducible exact U64.var _ | exact U64.lit rfl)) | (first | exact EvS.ne64 rfl rfl (by first | with_reducible exact U64.var _ | exact U64.lit rfl) (by first | with_reducible exact U64.var _ | exact U64.lit rfl) | exact EvS.neB rfl rfl | exact EvS.neI rfl rfl) | exact EvS.andNot64 rfl rfl (by first | with_reducible exact U64.var _ | exact U64.lit rfl) (by first | with_reducible exact U64.var _ | exact U64.lit rfl) | exact EvS.ltI rfl rfl | (first | exact EvS.addI rfl rfl (by omega) | exact EvS.add64 rfl rfl (by first | with_reducible exact U64.var _ | exact U64.lit rfl) (by first | with_reducible exact U64.var _ | exact U64.lit rfl)) | (first | exact EvS.pick_t rfl rfl | exact EvS.pick_f rfl rfl) | (first | exact EvS.indexAddr rfl rfl (by first | exact rfl | assumption) (by omega) | exact EvS.indexAddrA rfl rfl (by omega)))) | (apply TR.ch1 (o := ⟨_, .alloc _, _, _, _, _⟩) ; exact rfl; exact rfl; exact rfl; (first | exact Wd.plain rfl | exact Wd.on rfl rfl rfl); exact EvC.alloc; intro g) | (apply TR.ch0 (o := ⟨_, .store _ _ _, _, _, _, _⟩) ; exact rfl; exact rfl; (first | exact Wd.plain rfl | exact Wd.on rfl rfl rfl); exact EvC.storeW rfl rfl (by first | exact rfl | assumption) (by first | exact bArr_one _ | exact rfl | (intro v hv; simp at hv; rcases hv with rfl | rfl | rfl | rfl | rfl | rfl | rfl | rfl <;> rfl)) (by repeat first | exact Upd.head | apply Upd.tail) (by first | exact rfl | assumption); rintro ⟨⟩))
    · have hz : ((y.can &&& ~~~4095#64) == 0#64) = false := by simpa using h
      (refine Post.body_ret _ (ResL.one rfl (ResV.tmp rfl)) ?_; intro wR hR; exact ⟨by rw [hbad (by unfold bdOk; rw [hz]; rfl)], (by first | exact hR | exact hR.tail | exact hR.tail.tail | exact hR.tail.tail.tail | exact hR.tail.tail.tail.tail | exact hR.tail.tail.tail.tail.tail | exact hR.tail.tail.tail.tail.tail.tail)⟩)
    · rename_i hz
      (refine Post.body_ret _ (ResL.one rfl (ResV.tmp rfl)) ?_; intro wR hR; exact ⟨by rw [hbad (by unfold bdOk; rw [show clashB y = true from h]; simp)], (by first | exact hR | exact hR.tail | exact hR.tail.tail | exact hR.tail.tail.tail | exact hR.tail.tail.tail.tail | exact hR.tail.tail.tail.tail.tail | exact hR.tail.tail.tail.tail.tail.tail)⟩)
    · rename_i hz
      have hz1 : ((y.can &&& ~~~4095#64) == 0#64) = true := by simpa using hz
      refine Post.nextP (i + 1) ⟨by omega, fun j z hj hz => ?_⟩ (incl.lk (by repeat first | exact trivial | refine ⟨rfl, ?_⟩)) (fun w h => h.tail) (by omega)
      by_cases e : j = i
      · subst e; rw [hy] at hz; cases hz
        unfold bdOk
        rw [show clashB y = false from h, hz1]; rfl
      · exact hno2 j z (by omega) hz
  · have hd : decide ((i : Int) < (p.bounds.length : Int)) = false := by simpa using hlt
    obtain rfl : i = p.bounds.length := by omega
    have hall : p.bounds.all bdOk = true := by
      rw [List.all_eq_true]
      intro x hx
      obtain ⟨j, hj, rfl⟩ := List.mem_iff_getElem.1 hx
      exact hno2 j _ hj (List.getElem?_eq_getElem hj)
    have hck : checkB p = p.rules.all fun r => ruleB r p.bounds.length := by
      unfold checkB
      rw [hall, show decide (p.rules.length ≤ 12) = true by rw [decide_eq_true_eq]; omega, show decide (1 ≤ p.bounds.length ∧ p.bounds.length ≤ 8) = true by have := of_decide_eq_true h1; simp; omega]
      simp only [Bool.true_and, Bool.and_true]
      rw [Bool.eq_iff_iff]
      simp
    rw [hck]
    repeat' (first | refine TC.seq ?_ | refine TC.region ?_ | refine TR.nil ?_ | refine Post.then_normal ?_ | refine TC.block ?_ | refine TC.exit ?_ | (apply TC.cond_bf; exact rfl; assumption) | refine Post.then_exit ?_ | refine Post.block_here ?_ | (apply TR.st1; exact rfl; exact rfl; exact rfl; (first | exact Wd.plain rfl | exact Wd.on rfl rfl rfl); (first | exact EvS.move rfl | exact EvS.assign rfl | exact EvS.fieldAddr rfl | (first | (apply EvS.load1; exact rfl; (first | exact Reads.mem (by assumption) | exact Reads.own (by repeat first | exact List.Mem.head _ | assumption | apply List.Mem.tail)); (first | assumption | exact nthL_arr rfl | exact rfl)) | (apply EvS.loadW; exact rfl; (first | exact Reads.mem (by assumption) | exact Reads.own (by repeat first | exact List.Mem.head _ | assumption | apply List.Mem.tail)); first | exact rfl | assumption) | (apply EvS.loadH; exact rfl; (first | exact Reads.mem (by assumption) | exact Reads.own (by repeat first | exact List.Mem.head _ | assumption | apply List.Mem.tail)); assumption; first | exact rfl | assumption)) | exact EvS.len rfl | exact EvS.ltI rfl rfl)))
    refine TC.loopP (X := Nat) (fun k => k ≤ p.rules.length ∧ ∀ j r, j < k → p.rules[j]? = some r → ruleB r p.bounds.length = true) (fun k => [(5, .int .i64 (k : Int)), (1, .pointer (some ⟨gp, 0, none⟩))]) (fun _ => St m (some (gp, .cells #[.slice BA p.bounds.length bc, .slice RA p.rules.length rc] 25 (0, 0)) :: L)) (fun k => p.rules.length - k) 0 ⟨by omega, fun j y h => by omega⟩ (incl.lk (by repeat first | exact trivial | refine ⟨rfl, ?_⟩)) (fun w h => h) ?_
    rintro k ⟨hkk, hno3⟩
    by_cases hlt3 : k < p.rules.length
    · obtain ⟨r, hr⟩ : ∃ r, p.rules[k]? = some r := ⟨_, List.getElem?_eq_getElem hlt3⟩
      have hd3 : decide ((k : Int) < (p.rules.length : Int)) = true := by simpa using hlt3
      obtain ⟨g3, o3, blk3, T3, fr3, B3, c3, hR1, hR2, hR3, hR4, hR5⟩ := hRA.get hr
      have hru := fun (w : World) (L : Own) (hs : St m L w) => ruleR_c r B3 c3 p.bounds.length (by omega) m hR4 L w hs
      unfold rlV at hru
      repeat' (first | refine TC.seq ?_ | refine TC.region ?_ | refine TR.nil ?_ | refine Post.then_normal ?_ | refine TC.block ?_ | refine TC.skip ?_ | (apply TC.cond_bt; exact rfl; assumption) | (apply TR.st1; exact rfl; exact rfl; exact rfl; (first | exact Wd.plain rfl | exact Wd.on rfl rfl rfl); (first | exact EvS.move rfl | exact EvS.fieldAddr rfl | (first | (apply EvS.load1; exact rfl; (first | exact Reads.mem (by assumption) | exact Reads.own (by repeat first | exact List.Mem.head _ | assumption | apply List.Mem.tail)); (first | assumption | exact nthL_arr rfl | exact rfl)) | (apply EvS.loadW; exact rfl; (first | exact Reads.mem (by assumption) | exact Reads.own (by repeat first | exact List.Mem.head _ | assumption | apply List.Mem.tail)); first | exact rfl | assumption) | (apply EvS.loadH; exact rfl; (first | exact Reads.mem (by assumption) | exact Reads.own (by repeat first | exact List.Mem.head _ | assumption | apply List.Mem.tail)); assumption; first | exact rfl | assumption)) | exact EvS.len rfl | exact EvS.ltI rfl rfl)))
      refine TC.draw_ [.st, .st, .st, .st, .st, .st, .st, .st, .ch, .st] mixed rfl (by kernel_rfl) ?_
      repeat' (first | (apply D.chx (o := ⟨_, .call _, _, _, _, _⟩); exact rfl; (first | exact Wd.plain rfl | exact Wd.on rfl rfl rfl); exact EvC.callV rfl rfl (fun w hs => hru w _ hs); exact inferInstance; exact (by first | exact fun _ _ h => StX.of0 h | exact fun _ _ h => StX.of1 h | exact fun _ _ h => StX.of2 h | exact fun _ _ h => StX.of3 h | exact fun _ _ h => StX.of h); rintro ⟨⟩) | (apply D.st1; exact rfl; (first | exact Wd.plain rfl | exact Wd.on rfl rfl rfl); (first | exact EvS.move rfl | exact EvS.fieldAddr rfl | (first | (apply EvS.load1; exact rfl; (first | exact Reads.memX (by assumption) | exact Reads.ownX (by repeat first | exact List.Mem.head _ | assumption | apply List.Mem.tail)); (first | assumption | exact nthL_arr rfl | exact rfl)) | (apply EvS.loadW; exact rfl; (first | exact Reads.memX (by assumption) | exact Reads.ownX (by repeat first | exact List.Mem.head _ | assumption | apply List.Mem.tail)); first | exact rfl | assumption) | (apply EvS.loadH; exact rfl; (first | exact Reads.memX (by assumption) | exact Reads.ownX (by repeat first | exact List.Mem.head _ | assumption | apply List.Mem.tail)); assumption; first | exact rfl | assumption)) | exact EvS.len rfl | (first | exact EvS.not rfl | exact EvS.neg64 rfl (by first | with_reducible exact U64.var _ | exact U64.lit rfl)) | (first | exact EvS.indexAddr rfl rfl (by first | exact rfl | assumption) (by omega) | exact EvS.indexAddrA rfl rfl (by omega)))) | refine D.tail_ ?_)
      repeat' (first | refine TC.seq ?_ | refine TC.region ?_ | refine TR.nil ?_ | refine Post.then_normal ?_ | refine TC.skip ?_ | refine TC.ret ?_ | refine Post.then_ret ?_ | refine Post.block_normal ?_ | refine Post.block_ret ?_ | (apply TC.cond; exact rfl; all_goals (intro h)) | (apply TR.st1; exact rfl; exact rfl; exact rfl; (first | exact Wd.plain rfl | exact Wd.on rfl rfl rfl); (first | exact EvS.move rfl | exact EvS.assign rfl | (first | exact EvS.addI rfl rfl (by omega) | exact EvS.add64 rfl rfl (by first | with_reducible exact U64.var _ | exact U64.lit rfl) (by first | with_reducible exact U64.var _ | exact U64.lit rfl)))))
      · have hrf : ruleB r p.bounds.length = false := by simpa using h
        (refine Post.body_ret _ (ResL.one rfl (ResV.tmp rfl)) ?_; intro wR hR; exact ⟨by congr 2; symm; rw [List.all_eq_false]; exact ⟨r, List.mem_of_getElem? hr, by simp [hrf]⟩, (by first | exact hR | exact hR.tail | exact hR.tail.tail | exact hR.tail.tail.tail | exact hR.tail.tail.tail.tail | exact hR.tail.tail.tail.tail.tail | exact hR.tail.tail.tail.tail.tail.tail)⟩)
      · have hrt : ruleB r p.bounds.length = true := by simpa using h
        refine Post.nextP (k + 1) ⟨by omega, fun j z hj hz => ?_⟩ (incl.lk (by repeat first | exact trivial | refine ⟨rfl, ?_⟩)) (fun w h => h) (by omega)
        by_cases e : j = k
        · subst e; rw [hr] at hz; cases hz; exact hrt
        · exact hno3 j z (by omega) hz
    · have hd3 : decide ((k : Int) < (p.rules.length : Int)) = false := by simpa using hlt3
      obtain rfl : k = p.rules.length := by omega
      repeat' (first | refine TC.seq ?_ | refine TC.region ?_ | refine TR.nil ?_ | refine Post.then_normal ?_ | refine TC.ret ?_ | refine TC.exit ?_ | (apply TC.cond_bf; exact rfl; assumption) | refine Post.then_exit ?_ | refine Post.block_here ?_ | (apply TR.st1; exact rfl; exact rfl; exact rfl; (first | exact Wd.plain rfl | exact Wd.on rfl rfl rfl); (first | exact EvS.move rfl | exact EvS.assign rfl | exact EvS.fieldAddr rfl | (first | (apply EvS.load1; exact rfl; (first | exact Reads.mem (by assumption) | exact Reads.own (by repeat first | exact List.Mem.head _ | assumption | apply List.Mem.tail)); (first | assumption | exact nthL_arr rfl | exact rfl)) | (apply EvS.loadW; exact rfl; (first | exact Reads.mem (by assumption) | exact Reads.own (by repeat first | exact List.Mem.head _ | assumption | apply List.Mem.tail)); first | exact rfl | assumption) | (apply EvS.loadH; exact rfl; (first | exact Reads.mem (by assumption) | exact Reads.own (by repeat first | exact List.Mem.head _ | assumption | apply List.Mem.tail)); assumption; first | exact rfl | assumption)) | exact EvS.len rfl | exact EvS.ltI rfl rfl)))
      (refine Post.body_ret _ (ResL.one rfl (ResV.tmp rfl)) ?_; intro wR hR; exact ⟨by congr 2; symm; rw [List.all_eq_true]; intro r hr; obtain ⟨j, hj, rfl⟩ := List.mem_iff_getElem.1 hr; exact hno3 j _ hj (List.getElem?_eq_getElem hj), (by first | exact hR | exact hR.tail | exact hR.tail.tail | exact hR.tail.tail.tail | exact hR.tail.tail.tail.tail | exact hR.tail.tail.tail.tail.tail | exact hR.tail.tail.tail.tail.tail.tail)⟩)
end Go.Proofs.YtgpgjpcebajofaaGreatDoor
set_option maxHeartbeats 4000000
set_option linter.unusedVariables false
set_option linter.unusedSimpArgs false
set_option maxRecDepth 100000
namespace Go.Proofs.YtgpgjpcebajofaaGreatDoor
open Go Go.XC Go.RowKit Go.SetsP
attribute [local irreducible] Post TC TR D WL EvS EvC Wd ResL Code.wpIn Exit.then Exit.inBlock Exit.noGoto LoopK LoopP bodyPostM Reads Calls

/-! ### An append whose old row is still read -/
section
variable {r : Option Nat} {P : Program} {N : Nat} {E : Env} {m : Mem} {Lb : Own} {d : Option Tmp} {ty t : TypeId} {pos : String} {aft : Array Edge} {gd : Option (Nat × Bool)} {x y : Operand} {v u : Value} {T n : Nat} {xs : List Value}
def KX (m : Mem) (v : Value) (T n : Nat) (xs : List Value) (Lb : Own) (w : World) : Prop := ∃ e, OwnRow v T 1 n xs e ∧ St m (e :: Lb) w
def KG (m : Mem) (u : Value) (v : Value) (T n : Nat) (xs : List Value) (Lb : Own) (g : Nat) (w : World) : Prop := ∃ e, OwnRow v T 1 n xs e ∧ St m (some (g, .cells #[u] T (0, 0)) :: e :: Lb) w
def KP (m : Mem) (u : Value) (v : Value) (T n : Nat) (xs : List Value) (Lb : Own) (p : Option Addr × Nat) (w : World) : Prop :=
  ∃ e1 e0, OwnRow (.slice p.1 (n + 1) p.2) T 1 (n + 1) (xs ++ [u]) e1 ∧ (OwnRow v T 1 n xs e0 ∨ (e0 = none ∧ OwnRow v T 1 n xs e1)) ∧ St m (e1 :: e0 :: Lb) w
end
section
variable {r : Option Nat} {P : Program} {N : Nat} {E : Env} {m : Mem} {Lb : Own} {d : Option Tmp} {ty t : TypeId} {pos : String} {aft : Array Edge} {gd : Option (Nat × Bool)} {x y : Operand} {v u : Value} {n : Nat} {xs : List Value}
theorem EvC.keepB {e : TypeId} {zz : Value} [hT : SliceT P t e 1] [hz : ZeroV P e zz] (hx : evE E x = some u) (hv : u.oneCell' = true) (hzz : zz.cells.size = 1) :
    EvC r P N ⟨d, .buildSlice t 1 #[(0, x)], ty, pos, aft, gd⟩ E (KX m v e n xs Lb) (fun u' w => ∃ g : Nat, u' = .slice (some ⟨g, 0, none⟩) 1 1 ∧ KG m u v e n xs Lb g w) := by
  have key := fun (e' : Option (Nat × Obj)) => EvC.build1 (r := r) (P := P) (N := N) (m := m) (L := e' :: Lb) (d := d) (ty := ty) (pos := pos) (aft := aft) (gd := gd) (t := t) hx hv hzz
  unfold EvC at key ⊢
  rintro a w ha ⟨e', h1, h2⟩
  exact (key e' a w ha h2).mono fun u' w' ⟨g, g1, g2⟩ => ⟨g, g1, e', h1, g2⟩
theorem EvC.keepA {T bytes g : Nat} {zz : Value} [hT : SliceT P t T 1] [hz : ZeroV P T zz] [hb : BytesT P T bytes] (hx : evE E x = some v) (hy : evE E y = some (.slice (some ⟨g, 0, none⟩) 1 1)) (h1 : u.oneCell' = true)
    (hzz : zz.cells.size = 1) (hbig : (n + 1) * (bytes + 1) ≤ 140737488355328) :
    EvC r P N ⟨d, .call { callee := .builtin .append, args := #[x, y], argTypes := #[t, t] }, ty, pos, aft, gd⟩ E (KG m u v T n xs Lb g) (fun u' w => ∃ p : Option Addr × Nat, u' = .slice p.1 (n + 1) p.2 ∧ KP m u v T n xs Lb p w) := by
  unfold EvC
  rintro a w ha ⟨e, hrow, hs⟩
  have hrun : ∃ v' w', (Builtin.append_ #[t, t] ty #[v, .slice (some ⟨g, 0, none⟩) 1 1]).run P w = .ok v' w' ∧ ∃ p : Option Addr × Nat, v' = .slice p.1 (n + 1) p.2 ∧ KP m u v T n xs Lb p w' := by
    have hg := hs.get List.mem_cons_self
    have hnews : ∀ j u', [u][j]? = some u' → w.cell? ((⟨g, 0, none⟩ : Addr).add j) = some u' := by
      intro j u' hj
      rw [Addr.add_lit, cell_of hg]
      simpa using hj
    obtain ⟨i, hi, hi1⟩ := size_of_info hT.s
    have hi2 : i.bytes = bytes := by have := hb.h; simpa [hi] using this
    have hi3 : i.zero = some zz := by have := hz.h; simpa [hi] using this
    rcases id hrow with ⟨rfl, rfl, rfl, rfl⟩ | ⟨g0, cap, junk, rfl, h2, h3, h4, h5, rfl⟩
    · obtain ⟨v', e', w', k1, k2, k3⟩ := run_append_row (P := P) (t := t) (T := T) (sz := 1) (bytes := bytes) (zz := zz) (ty := ty) (c := 1) (k := 1) (n := 0) (news := [u]) hzz (by omega) hs (Rep1.tail Rep1.head) OwnRow.nil
        (.inr ⟨g, 0, #[u], T, (0, 0), rfl, Reads.own (List.Mem.head _), fun j u' hj => by simpa using hj⟩) rfl (by simpa using h1) hbig
      obtain ⟨A, c, rfl, _⟩ := ownRow_slice k2
      exact ⟨_, w', k1, (A, c), rfl, e', none, k2, .inl OwnRow.nil, ((k3 _ (Rep1.tail Rep1.head)).tail.addNone).perm (List.Perm.swap _ _ _)⟩
    · rw [Nat.mul_one] at h4 h5
      have hg0 := hs.get (List.mem_cons_of_mem _ List.mem_cons_self)
      by_cases hc : n + 1 ≤ cap
      · have hr := run_append_room (P := P) w t ty T i hT.h hi g0 n cap _ hg0 ⟨g, 0, none⟩ 1 1 [u] (by rw [hi1]; rfl) hnews (by simpa using h1) hc (by rw [hi1]; simp only [List.length_singleton, List.size_toArray]; omega)
        have hce : ((xs ++ junk).toArray.toList.take (n * i.size) ++ [u] ++ (xs ++ junk).toArray.toList.drop (n * i.size + [u].length)).toArray = (xs ++ [u] ++ junk.drop 1).toArray := by
          rw [hi1, Nat.mul_one, List.toList_toArray, List.take_append_of_le_length (by omega), List.take_of_length_le (by omega), List.length_singleton, ← List.drop_drop, List.drop_left' h4]
        rw [hce] at hr
        have hjl : 1 ≤ junk.length := by rw [List.length_append] at h5; omega
        rw [List.length_append] at h5
        refine ⟨_, _, hr, (some ⟨g0, 0, none⟩, cap), rfl, some (g0, .cells (xs ++ [u] ++ junk.drop 1).toArray T), none, .inr ⟨g0, cap, junk.drop 1, rfl, hc, h3, by simp; omega, by simp; omega, rfl⟩,
          .inr ⟨rfl, .inr ⟨g0, cap, [u] ++ junk.drop 1, rfl, h2, h3, by omega, by simp; omega, by rw [List.append_assoc]⟩⟩, ?_⟩
        have := (hs.setRow (cs' := (xs ++ [u] ++ junk.drop 1).toArray) (Upd.tail Upd.head)).tail
        exact this.addNone.perm (List.Perm.swap _ _ _)
      · have holds : ∀ j u', xs[j]? = some u' → w.cell? ((⟨g0, 0, none⟩ : Addr).add j) = some u' := by
          intro j u' hj
          rw [Addr.add_lit, cell_of hg0]
          have hlt := (List.getElem?_eq_some_iff.1 hj).1
          simp only [Nat.zero_add, List.getElem?_toArray]
          rw [List.getElem?_append_left hlt]; exact hj
        obtain ⟨v', w', k1, k2, k3⟩ := run_append_arg_grows (P := P) w t ty T i zz 1 bytes hT.h hi hi3 hi1 hi2 hzz (by omega) ⟨g0, 0, none⟩ n cap xs (by omega) holds ⟨g, 0, none⟩ 1 1 [u] rfl hnews (by omega)
          (by simp only [maxLen] at h3 ⊢; have : (n + 1) * 1 ≤ (n + 1) * (bytes + 1) := Nat.mul_le_mul_left _ (by omega); omega) (Nat.le_trans (Nat.mul_le_mul_left _ (Nat.le_succ _)) hbig)
        rcases k2.2 with ⟨_, hn⟩ | ⟨g2, cap2, cur, rfl, hb2, hc2, hnc, hcm, hcs, htake⟩
        · omega
        · have hst : St m (some (g, .cells #[u] T (0, 0)) :: some (g0, .cells (xs ++ junk).toArray T) :: Lb) w' := hs.below ⟨k3.os, k3.tape, k3.output, k3.size, fun k hk => k3.block k hk (by simp)⟩
          have hst2 := (St.add hs hst hb2 hc2)
          refine ⟨_, w', k1, (some ⟨g2, 0, none⟩, cap2), rfl, some (g2, .cells cur T), some (g0, .cells (xs ++ junk).toArray T), .inr ⟨g2, cap2, cur.toList.drop (n + 1), rfl, hnc, hcm, by have := k2.1; omega, ?_, ?_⟩, .inl hrow, ?_⟩
          · rw [Nat.mul_one] at htake; rw [← htake, List.take_append_drop]; simpa using hcs
          · rw [Nat.mul_one] at htake; rw [← htake, List.take_append_drop]
          · exact hst2.sublist (List.Sublist.cons_cons _ (List.Sublist.cons _ (List.Sublist.refl _)))
  obtain ⟨v', w', hrun, hp⟩ := hrun
  simp only [execOp, resolve, invoke, builtin, Sem.run_bind, Sem.run_pure, Result.andThen_ok, List.map_toArray, List.map_cons, List.map_nil, ha.eval hx, ha.eval hy, hrun]
  exact hp
end
theorem KP.lend {m : Mem} {u v : Value} {T n : Nat} {xs : List Value} {Lb : Own} {p : Option Addr × Nat} {w : World} (h : KP m u v T n xs Lb p w) (css : List (List Value)) (hc : css.flatten = xs ++ [u]) (hl : ∀ cs, cs ∈ css → cs.length = 1) (hn : css.length = n + 1) (hbig : n + 1 ≤ 140737488355328) :
    ∃ m' L', m.Le m' ∧ Sl m' 1 p.1 css ∧ St m' L' w ∧ ∀ w', St m' L' w' → KX m v T n xs Lb w' := by
  obtain ⟨e1, e0, h1, h2, h3⟩ := h
  obtain ⟨l1, l2⟩ := Go.Proofs.YtgpgjpcebajofaaGreatDoor.lend h3
  rw [← hc] at h1
  obtain ⟨A, c, he, _, hS⟩ := OwnRow.lent (m := m) h1 hl hn hbig
  injection he with he1 _ _
  rw [← he1] at hS
  refine ⟨_, _, l1, hS, l2, fun w' hw => ?_⟩
  have h4 := thaw (stOut h3) hw
  rcases h2 with h2 | ⟨rfl, h2⟩
  · exact ⟨e0, h2, h4.tail⟩
  · exact ⟨e1, h2, h4.sublist (List.Sublist.cons_cons _ (List.Sublist.cons _ (List.Sublist.refl _)))⟩
theorem KX.stx {m : Mem} {v : Value} {T n : Nat} {xs : List Value} {Lb : Own} {w : World} (h : KX m v T n xs Lb w) : StX m Lb w := let ⟨e, h1, h2⟩ := h; StX.of1 h2
theorem KG.stx {m : Mem} {u v : Value} {T n g : Nat} {xs : List Value} {Lb : Own} {w : World} (h : KG m u v T n xs Lb g w) : StX m Lb w := let ⟨e, h1, h2⟩ := h; StX.of2 h2
theorem KP.stx {m : Mem} {u v : Value} {T n : Nat} {xs : List Value} {Lb : Own} {p : Option Addr × Nat} {w : World} (h : KP m u v T n xs Lb p w) : StX m Lb w := let ⟨e1, e0, h1, h2, h3⟩ := h; StX.of2 h3
theorem KX.drew {m : Mem} {v : Value} {T n : Nat} {xs : List Value} {Lb : Own} {w : World} (h : KX m v T n xs Lb w) (dd : Nat) : KX m v T n xs Lb { w with drawn := dd } := let ⟨e, h1, h2⟩ := h; ⟨e, h1, h2.drew dd⟩
theorem KX.call {P : Program} {f : FuncId} {args : Array Value} {x : Value} {m : Mem} {v : Value} {T n : Nat} {xs : List Value} {Lb : Own} {w : World} (hc : ∀ m L w, St m L w → Calls P f args w fun e w' => e = .returned x ∧ St m L w') (h : KX m v T n xs Lb w) : Calls P f args w fun e w' => e = .returned x ∧ KX m v T n xs Lb w' :=
  let ⟨e, h1, h2⟩ := h; (hc _ _ w h2).mono fun r w' ⟨a, b⟩ => ⟨a, e, h1, b⟩
end Go.Proofs.YtgpgjpcebajofaaGreatDoor
set_option maxHeartbeats 4000000
set_option linter.unusedVariables false
set_option linter.unusedSimpArgs false
set_option maxRecDepth 100000
namespace Go.Proofs.YtgpgjpcebajofaaGreatDoor
open Go Go.XC Go.RowKit Go.SetsP
attribute [local irreducible] Post TC TR D WL EvS EvC Wd ResL Code.wpIn Exit.then Exit.inBlock Exit.noGoto LoopK LoopP bodyPostM Reads Calls

def bools (x : List Bool) : List (List Value) := x.map fun b => [.bool b]
theorem bools_len (x : List Bool) : ∀ cs, cs ∈ bools x → cs.length = 1 := by
  intro cs hc
  obtain ⟨b, _, rfl⟩ := List.mem_map.1 hc
  rfl
theorem bools_length (x : List Bool) : (bools x).length = x.length := by simp [bools]
theorem bools_flat (x : List Bool) : (bools x).flatten = x.map .bool := by induction x <;> simp_all [bools]

theorem fits_c (k : Int) (A : Option Addr) (c : Nat) (x : List Bool) (h1 : 1 ≤ k) (h5 : k ≤ 5) (hx : (x.length : Int) = varsZ k) (m : Mem) (hA : Sl m 1 A (bools x)) (L : Own) (w : World) (hs : St m L w) :
    Calls Tryz.prog 66 #[.int .i64 k, .slice A x.length c] w fun r w' => r = .returned (.bool (asksB k (x.getD 0 false) (x.getD 1 false) (x.getD 2 false))) ∧ St m L w' := by
  have hk : k = 1 ∨ k = 2 ∨ k = 3 ∨ k = 4 ∨ k = 5 := by omega
  have h2 : 2 ≤ x.length := by rcases hk with rfl | rfl | rfl | rfl | rfl <;> simp [varsZ] at hx <;> omega
  obtain ⟨a, ha⟩ : ∃ a, x[0]? = some a := ⟨_, List.getElem?_eq_getElem (by omega)⟩
  obtain ⟨b, hb⟩ : ∃ b, x[1]? = some b := ⟨_, List.getElem?_eq_getElem (by omega)⟩
  obtain ⟨g, o, blk, T, fr, hAe, hm, hc0⟩ := hA.get1 (k := 0) (v := .bool a) (by simp [bools, ha])
  obtain ⟨g', o', blk', T', fr', hAe', hm', hc1⟩ := hA.get1 (k := 1) (v := .bool b) (by simp [bools, hb])
  obtain ⟨rfl, rfl⟩ : g = g' ∧ o = o' := by have h := hAe.symm.trans hAe'; injection h with h; injection h with a b _; exact ⟨a, b⟩
  obtain rfl : blk = blk' := by have h := hm.symm.trans hm'; injection h with h; injection h
  have e0 : x.getD 0 false = a := by rw [List.getD_eq_getElem?_getD, ha]; rfl
  have e1 : x.getD 1 false = b := by rw [List.getD_eq_getElem?_getD, hb]; rfl
  rw [e0, e1]
  rcases hk with rfl | rfl | rfl | rfl | rfl
  · cases a
    · refine calls_of_TC (args := [_, _]) Tryz.func66 rfl Tryz.ntmps66 (Nat.le_of_ble_eq_true rfl) hs ?_
      repeat' (first | refine TC.seq ?_ | refine TC.region ?_ | refine TR.nil ?_ | refine Post.then_normal ?_ | refine TC.block ?_ | refine TC.ret ?_ | (apply TC.cond_t; exact rfl) | refine Post.then_ret ?_ | refine Post.block_ret ?_ | (apply TR.sk1 (o := ⟨_, _, _, _, _, some _⟩); exact rfl; exact rfl; (first | exact Wd.off rfl rfl rfl rfl | exact Wd.offU rfl rfl rfl)) | (apply TR.gs_t (o := ⟨_, .move _, _, _, _, _⟩); exact rfl; exact rfl; exact rfl; exact rfl; (first | exact Wd.plain rfl | exact Wd.on rfl rfl rfl); exact EvS.move rfl; (first | exact rfl | assumption)) | (apply TR.st1; exact rfl; exact rfl; exact rfl; (first | exact Wd.plain rfl | exact Wd.on rfl rfl rfl); (first | exact EvS.move rfl | exact EvS.assign rfl | (first | (apply EvS.load1; exact rfl; (first | exact Reads.mem (by assumption) | exact Reads.own (by repeat first | exact List.Mem.head _ | assumption | apply List.Mem.tail)); (first | assumption | exact nthL_arr rfl | exact rfl)) | (apply EvS.loadW; exact rfl; (first | exact Reads.mem (by assumption) | exact Reads.own (by repeat first | exact List.Mem.head _ | assumption | apply List.Mem.tail)); first | exact rfl | assumption) | (apply EvS.loadH; exact rfl; (first | exact Reads.mem (by assumption) | exact Reads.own (by repeat first | exact List.Mem.head _ | assumption | apply List.Mem.tail)); assumption; first | exact rfl | assumption)) | (first | exact EvS.not rfl | exact EvS.neg64 rfl (by first | with_reducible exact U64.var _ | exact U64.lit rfl)) | (first | exact EvS.eq64 rfl rfl (by first | with_reducible exact U64.var _ | exact U64.lit rfl) (by first | with_reducible exact U64.var _ | exact U64.lit rfl) | exact EvS.eqI rfl rfl | exact EvS.eqB rfl rfl) | (first | exact EvS.pick_t rfl rfl | exact EvS.pick_f rfl rfl) | (first | exact EvS.indexAddr rfl rfl (by first | exact rfl | assumption) (by omega) | exact EvS.indexAddrA rfl rfl (by omega)))))
      (refine Post.body_ret _ (ResL.one rfl (ResV.tmp rfl)) ?_; intro wR hR; exact ⟨by cases b <;> cases x.getD 2 false <;> rfl, (by first | exact hR | exact hR.tail | exact hR.tail.tail | exact hR.tail.tail.tail | exact hR.tail.tail.tail.tail | exact hR.tail.tail.tail.tail.tail | exact hR.tail.tail.tail.tail.tail.tail)⟩)
    · refine calls_of_TC (args := [_, _]) Tryz.func66 rfl Tryz.ntmps66 (Nat.le_of_ble_eq_true rfl) hs ?_
      repeat' (first | refine TC.seq ?_ | refine TC.region ?_ | refine TR.nil ?_ | refine Post.then_normal ?_ | refine TC.block ?_ | refine TC.ret ?_ | (apply TC.cond_t; exact rfl) | refine Post.then_ret ?_ | refine Post.block_ret ?_ | (apply TR.gs_f (o := ⟨_, .move _, _, _, _, _⟩); exact rfl; exact rfl; exact rfl; exact rfl; (first | exact Wd.plain rfl | exact Wd.on rfl rfl rfl); exact EvS.move rfl; (first | exact rfl | assumption)) | (apply TR.st1; exact rfl; exact rfl; exact rfl; (first | exact Wd.plain rfl | exact Wd.on rfl rfl rfl); (first | exact EvS.move rfl | exact EvS.assign rfl | (first | (apply EvS.load1; exact rfl; (first | exact Reads.mem (by assumption) | exact Reads.own (by repeat first | exact List.Mem.head _ | assumption | apply List.Mem.tail)); (first | assumption | exact nthL_arr rfl | exact rfl)) | (apply EvS.loadW; exact rfl; (first | exact Reads.mem (by assumption) | exact Reads.own (by repeat first | exact List.Mem.head _ | assumption | apply List.Mem.tail)); first | exact rfl | assumption) | (apply EvS.loadH; exact rfl; (first | exact Reads.mem (by assumption) | exact Reads.own (by repeat first | exact List.Mem.head _ | assumption | apply List.Mem.tail)); assumption; first | exact rfl | assumption)) | (first | exact EvS.not rfl | exact EvS.neg64 rfl (by first | with_reducible exact U64.var _ | exact U64.lit rfl)) | (first | exact EvS.eq64 rfl rfl (by first | with_reducible exact U64.var _ | exact U64.lit rfl) (by first | with_reducible exact U64.var _ | exact U64.lit rfl) | exact EvS.eqI rfl rfl | exact EvS.eqB rfl rfl) | (first | exact EvS.pick_t rfl rfl | exact EvS.pick_f rfl rfl) | (first | exact EvS.indexAddr rfl rfl (by first | exact rfl | assumption) (by omega) | exact EvS.indexAddrA rfl rfl (by omega)))))
      (refine Post.body_ret _ (ResL.one rfl (ResV.tmp rfl)) ?_; intro wR hR; exact ⟨by cases b <;> cases x.getD 2 false <;> rfl, (by first | exact hR | exact hR.tail | exact hR.tail.tail | exact hR.tail.tail.tail | exact hR.tail.tail.tail.tail | exact hR.tail.tail.tail.tail.tail | exact hR.tail.tail.tail.tail.tail.tail)⟩)
  · cases a
    · refine calls_of_TC (args := [_, _]) Tryz.func66 rfl Tryz.ntmps66 (Nat.le_of_ble_eq_true rfl) hs ?_
      repeat' (first | refine TC.seq ?_ | refine TC.region ?_ | refine TR.nil ?_ | refine Post.then_normal ?_ | refine TC.block ?_ | refine TC.ret ?_ | (apply TC.cond_t; exact rfl) | (apply TC.cond_f; exact rfl) | refine Post.then_ret ?_ | refine Post.block_ret ?_ | (apply TR.sk1 (o := ⟨_, _, _, _, _, some _⟩); exact rfl; exact rfl; (first | exact Wd.off rfl rfl rfl rfl | exact Wd.offU rfl rfl rfl)) | (apply TR.gs_t (o := ⟨_, .move _, _, _, _, _⟩); exact rfl; exact rfl; exact rfl; exact rfl; (first | exact Wd.plain rfl | exact Wd.on rfl rfl rfl); exact EvS.move rfl; (first | exact rfl | assumption)) | (apply TR.st1; exact rfl; exact rfl; exact rfl; (first | exact Wd.plain rfl | exact Wd.on rfl rfl rfl); (first | exact EvS.move rfl | exact EvS.assign rfl | (first | (apply EvS.load1; exact rfl; (first | exact Reads.mem (by assumption) | exact Reads.own (by repeat first | exact List.Mem.head _ | assumption | apply List.Mem.tail)); (first | assumption | exact nthL_arr rfl | exact rfl)) | (apply EvS.loadW; exact rfl; (first | exact Reads.mem (by assumption) | exact Reads.own (by repeat first | exact List.Mem.head _ | assumption | apply List.Mem.tail)); first | exact rfl | assumption) | (apply EvS.loadH; exact rfl; (first | exact Reads.mem (by assumption) | exact Reads.own (by repeat first | exact List.Mem.head _ | assumption | apply List.Mem.tail)); assumption; first | exact rfl | assumption)) | (first | exact EvS.not rfl | exact EvS.neg64 rfl (by first | with_reducible exact U64.var _ | exact U64.lit rfl)) | (first | exact EvS.eq64 rfl rfl (by first | with_reducible exact U64.var _ | exact U64.lit rfl) (by first | with_reducible exact U64.var _ | exact U64.lit rfl) | exact EvS.eqI rfl rfl | exact EvS.eqB rfl rfl) | (first | exact EvS.pick_t rfl rfl | exact EvS.pick_f rfl rfl) | (first | exact EvS.indexAddr rfl rfl (by first | exact rfl | assumption) (by omega) | exact EvS.indexAddrA rfl rfl (by omega)))))
      (refine Post.body_ret _ (ResL.one rfl (ResV.tmp rfl)) ?_; intro wR hR; exact ⟨by cases b <;> cases x.getD 2 false <;> rfl, (by first | exact hR | exact hR.tail | exact hR.tail.tail | exact hR.tail.tail.tail | exact hR.tail.tail.tail.tail | exact hR.tail.tail.tail.tail.tail | exact hR.tail.tail.tail.tail.tail.tail)⟩)
    · refine calls_of_TC (args := [_, _]) Tryz.func66 rfl Tryz.ntmps66 (Nat.le_of_ble_eq_true rfl) hs ?_
      repeat' (first | refine TC.seq ?_ | refine TC.region ?_ | refine TR.nil ?_ | refine Post.then_normal ?_ | refine TC.block ?_ | refine TC.ret ?_ | (apply TC.cond_t; exact rfl) | (apply TC.cond_f; exact rfl) | refine Post.then_ret ?_ | refine Post.block_ret ?_ | (apply TR.gs_f (o := ⟨_, .move _, _, _, _, _⟩); exact rfl; exact rfl; exact rfl; exact rfl; (first | exact Wd.plain rfl | exact Wd.on rfl rfl rfl); exact EvS.move rfl; (first | exact rfl | assumption)) | (apply TR.st1; exact rfl; exact rfl; exact rfl; (first | exact Wd.plain rfl | exact Wd.on rfl rfl rfl); (first | exact EvS.move rfl | exact EvS.assign rfl | (first | (apply EvS.load1; exact rfl; (first | exact Reads.mem (by assumption) | exact Reads.own (by repeat first | exact List.Mem.head _ | assumption | apply List.Mem.tail)); (first | assumption | exact nthL_arr rfl | exact rfl)) | (apply EvS.loadW; exact rfl; (first | exact Reads.mem (by assumption) | exact Reads.own (by repeat first | exact List.Mem.head _ | assumption | apply List.Mem.tail)); first | exact rfl | assumption) | (apply EvS.loadH; exact rfl; (first | exact Reads.mem (by assumption) | exact Reads.own (by repeat first | exact List.Mem.head _ | assumption | apply List.Mem.tail)); assumption; first | exact rfl | assumption)) | (first | exact EvS.not rfl | exact EvS.neg64 rfl (by first | with_reducible exact U64.var _ | exact U64.lit rfl)) | (first | exact EvS.eq64 rfl rfl (by first | with_reducible exact U64.var _ | exact U64.lit rfl) (by first | with_reducible exact U64.var _ | exact U64.lit rfl) | exact EvS.eqI rfl rfl | exact EvS.eqB rfl rfl) | (first | exact EvS.pick_t rfl rfl | exact EvS.pick_f rfl rfl) | (first | exact EvS.indexAddr rfl rfl (by first | exact rfl | assumption) (by omega) | exact EvS.indexAddrA rfl rfl (by omega)))))
      (refine Post.body_ret _ (ResL.one rfl (ResV.tmp rfl)) ?_; intro wR hR; exact ⟨by cases b <;> cases x.getD 2 false <;> rfl, (by first | exact hR | exact hR.tail | exact hR.tail.tail | exact hR.tail.tail.tail | exact hR.tail.tail.tail.tail | exact hR.tail.tail.tail.tail.tail | exact hR.tail.tail.tail.tail.tail.tail)⟩)
  · have h3 : x.length = 3 := by simp [varsZ] at hx; omega
    obtain ⟨d, hd⟩ : ∃ d, x[2]? = some d := ⟨_, List.getElem?_eq_getElem (by omega)⟩
    obtain ⟨g2, o2, blk2, T2, fr2, hAe2, hm2, hc2⟩ := hA.get1 (k := 2) (v := .bool d) (by simp [bools, hd])
    obtain ⟨rfl, rfl⟩ : g = g2 ∧ o = o2 := by have h := hAe.symm.trans hAe2; injection h with h; injection h with a b _; exact ⟨a, b⟩
    obtain rfl : blk = blk2 := by have h := hm.symm.trans hm2; injection h with h; injection h
    have e2 : x.getD 2 false = d := by rw [List.getD_eq_getElem?_getD, hd]; rfl
    rw [e2]
    clear e0 e1 e2
    cases a
    · refine calls_of_TC (args := [_, _]) Tryz.func66 rfl Tryz.ntmps66 (Nat.le_of_ble_eq_true rfl) hs ?_
      repeat' (first | refine TC.seq ?_ | refine TC.region ?_ | refine TR.nil ?_ | refine Post.then_normal ?_ | refine TC.block ?_ | (apply TC.cond_t; exact rfl) | (apply TC.cond_f; exact rfl) | (apply TR.st1; exact rfl; exact rfl; exact rfl; (first | exact Wd.plain rfl | exact Wd.on rfl rfl rfl); (first | exact EvS.move rfl | exact EvS.assign rfl | (first | exact EvS.eq64 rfl rfl (by first | with_reducible exact U64.var _ | exact U64.lit rfl) (by first | with_reducible exact U64.var _ | exact U64.lit rfl) | exact EvS.eqI rfl rfl | exact EvS.eqB rfl rfl))))
      refine TC.draw_ [.st, .st, .st, .st, .st, .st, .st, .st, .st, .st, .st, .st] mixed rfl (by kernel_rfl) ?_
      repeat' (first | (apply D.st1; exact rfl; (first | exact Wd.plain rfl | exact Wd.on rfl rfl rfl); (first | exact EvS.move rfl | (first | (apply EvS.load1; exact rfl; (first | exact Reads.memX (by assumption) | exact Reads.ownX (by repeat first | exact List.Mem.head _ | assumption | apply List.Mem.tail)); (first | assumption | exact nthL_arr rfl | exact rfl)) | (apply EvS.loadW; exact rfl; (first | exact Reads.memX (by assumption) | exact Reads.ownX (by repeat first | exact List.Mem.head _ | assumption | apply List.Mem.tail)); first | exact rfl | assumption) | (apply EvS.loadH; exact rfl; (first | exact Reads.memX (by assumption) | exact Reads.ownX (by repeat first | exact List.Mem.head _ | assumption | apply List.Mem.tail)); assumption; first | exact rfl | assumption)) | (first | exact EvS.eq64 rfl rfl (by first | with_reducible exact U64.var _ | exact U64.lit rfl) (by first | with_reducible exact U64.var _ | exact U64.lit rfl) | exact EvS.eqI rfl rfl | exact EvS.eqB rfl rfl) | (first | exact EvS.pick_t rfl rfl | exact EvS.pick_f rfl rfl) | (first | exact EvS.indexAddr rfl rfl (by first | exact rfl | assumption) (by omega) | exact EvS.indexAddrA rfl rfl (by omega)))) | refine D.tail_ ?_)
      repeat' (first | refine TR.nil ?_ | refine Post.then_normal ?_ | refine TC.ret ?_ | refine Post.then_ret ?_ | refine Post.block_ret ?_ | (apply TR.st1 (o := ⟨_, .assign _, _, _, _, _⟩); exact rfl; exact rfl; exact rfl; (first | exact Wd.plain rfl | exact Wd.on rfl rfl rfl); exact EvS.assign rfl))
      (refine Post.body_ret _ (ResL.one rfl (ResV.tmp rfl)) ?_; intro wR hR; exact ⟨by cases b <;> cases d <;> rfl, (by first | exact hR | exact hR.tail | exact hR.tail.tail | exact hR.tail.tail.tail | exact hR.tail.tail.tail.tail | exact hR.tail.tail.tail.tail.tail | exact hR.tail.tail.tail.tail.tail.tail)⟩)
    · refine calls_of_TC (args := [_, _]) Tryz.func66 rfl Tryz.ntmps66 (Nat.le_of_ble_eq_true rfl) hs ?_
      repeat' (first | refine TC.seq ?_ | refine TC.region ?_ | refine TR.nil ?_ | refine Post.then_normal ?_ | refine TC.block ?_ | (apply TC.cond_t; exact rfl) | (apply TC.cond_f; exact rfl) | (apply TR.st1; exact rfl; exact rfl; exact rfl; (first | exact Wd.plain rfl | exact Wd.on rfl rfl rfl); (first | exact EvS.move rfl | exact EvS.assign rfl | (first | exact EvS.eq64 rfl rfl (by first | with_reducible exact U64.var _ | exact U64.lit rfl) (by first | with_reducible exact U64.var _ | exact U64.lit rfl) | exact EvS.eqI rfl rfl | exact EvS.eqB rfl rfl))))
      refine TC.draw_ [.st, .st, .st, .st, .st, .st, .st, .sk, .sk, .sk, .st, .st] mixed rfl (by kernel_rfl) ?_
      repeat' (first | (apply D.sk1; exact rfl; (first | exact Wd.off rfl rfl rfl rfl | exact Wd.offU rfl rfl rfl)) | (apply D.st1; exact rfl; (first | exact Wd.plain rfl | exact Wd.on rfl rfl rfl); (first | exact EvS.move rfl | (first | (apply EvS.load1; exact rfl; (first | exact Reads.memX (by assumption) | exact Reads.ownX (by repeat first | exact List.Mem.head _ | assumption | apply List.Mem.tail)); (first | assumption | exact nthL_arr rfl | exact rfl)) | (apply EvS.loadW; exact rfl; (first | exact Reads.memX (by assumption) | exact Reads.ownX (by repeat first | exact List.Mem.head _ | assumption | apply List.Mem.tail)); first | exact rfl | assumption) | (apply EvS.loadH; exact rfl; (first | exact Reads.memX (by assumption) | exact Reads.ownX (by repeat first | exact List.Mem.head _ | assumption | apply List.Mem.tail)); assumption; first | exact rfl | assumption)) | (first | exact EvS.eq64 rfl rfl (by first | with_reducible exact U64.var _ | exact U64.lit rfl) (by first | with_reducible exact U64.var _ | exact U64.lit rfl) | exact EvS.eqI rfl rfl | exact EvS.eqB rfl rfl) | (first | exact EvS.pick_t rfl rfl | exact EvS.pick_f rfl rfl) | (first | exact EvS.indexAddr rfl rfl (by first | exact rfl | assumption) (by omega) | exact EvS.indexAddrA rfl rfl (by omega)))) | refine D.tail_ ?_)
      repeat' (first | refine TR.nil ?_ | refine Post.then_normal ?_ | refine TC.ret ?_ | refine Post.then_ret ?_ | refine Post.block_ret ?_ | (apply TR.st1 (o := ⟨_, .assign _, _, _, _, _⟩); exact rfl; exact rfl; exact rfl; (first | exact Wd.plain rfl | exact Wd.on rfl rfl rfl); exact EvS.assign rfl))
      (refine Post.body_ret _ (ResL.one rfl (ResV.tmp rfl)) ?_; intro wR hR; exact ⟨by cases b <;> cases d <;> rfl, (by first | exact hR | exact hR.tail | exact hR.tail.tail | exact hR.tail.tail.tail | exact hR.tail.tail.tail.tail | exact hR.tail.tail.tail.tail.tail | exact hR.tail.tail.tail.tail.tail.tail)⟩)
  · have h3 : x.length = 3 := by simp [varsZ] at hx; omega
    obtain ⟨d, hd⟩ : ∃ d, x[2]? = some d := ⟨_, List.getElem?_eq_getElem (by omega)⟩
    obtain ⟨g2, o2, blk2, T2, fr2, hAe2, hm2, hc2⟩ := hA.get1 (k := 2) (v := .bool d) (by simp [bools, hd])
    obtain ⟨rfl, rfl⟩ : g = g2 ∧ o = o2 := by have h := hAe.symm.trans hAe2; injection h with h; injection h with a b _; exact ⟨a, b⟩
    obtain rfl : blk = blk2 := by have h := hm.symm.trans hm2; injection h with h; injection h
    have e2 : x.getD 2 false = d := by rw [List.getD_eq_getElem?_getD, hd]; rfl
    rw [e2]
    clear e0 e1 e2
    cases a
    · refine calls_of_TC (args := [_, _]) Tryz.func66 rfl Tryz.ntmps66 (Nat.le_of_ble_eq_true rfl) hs ?_
      repeat' (first | refine TC.seq ?_ | refine TC.region ?_ | refine TR.nil ?_ | refine Post.then_normal ?_ | refine TC.block ?_ | (apply TC.cond_t; exact rfl) | (apply TC.cond_f; exact rfl) | (apply TR.st1; exact rfl; exact rfl; exact rfl; (first | exact Wd.plain rfl | exact Wd.on rfl rfl rfl); (first | exact EvS.move rfl | exact EvS.assign rfl | (first | exact EvS.eq64 rfl rfl (by first | with_reducible exact U64.var _ | exact U64.lit rfl) (by first | with_reducible exact U64.var _ | exact U64.lit rfl) | exact EvS.eqI rfl rfl | exact EvS.eqB rfl rfl))))
      refine TC.draw_ [.st, .st, .st, .st, .st, .st, .st, .sk, .sk, .sk, .st, .st] mixed rfl (by kernel_rfl) ?_
      repeat' (first | (apply D.sk1; exact rfl; (first | exact Wd.off rfl rfl rfl rfl | exact Wd.offU rfl rfl rfl)) | (apply D.st1; exact rfl; (first | exact Wd.plain rfl | exact Wd.on rfl rfl rfl); (first | exact EvS.move rfl | (first | (apply EvS.load1; exact rfl; (first | exact Reads.memX (by assumption) | exact Reads.ownX (by repeat first | exact List.Mem.head _ | assumption | apply List.Mem.tail)); (first | assumption | exact nthL_arr rfl | exact rfl)) | (apply EvS.loadW; exact rfl; (first | exact Reads.memX (by assumption) | exact Reads.ownX (by repeat first | exact List.Mem.head _ | assumption | apply List.Mem.tail)); first | exact rfl | assumption) | (apply EvS.loadH; exact rfl; (first | exact Reads.memX (by assumption) | exact Reads.ownX (by repeat first | exact List.Mem.head _ | assumption | apply List.Mem.tail)); assumption; first | exact rfl | assumption)) | (first | exact EvS.eq64 rfl rfl (by first | with_reducible exact U64.var _ | exact U64.lit rfl) (by first | with_reducible exact U64.var _ | exact U64.lit rfl) | exact EvS.eqI rfl rfl | exact EvS.eqB rfl rfl) | (first | exact EvS.pick_t rfl rfl | exact EvS.pick_f rfl rfl) | (first | exact EvS.indexAddr rfl rfl (by first | exact rfl | assumption) (by omega) | exact EvS.indexAddrA rfl rfl (by omega)))) | refine D.tail_ ?_)
      repeat' (first | refine TR.nil ?_ | refine Post.then_normal ?_ | refine TC.ret ?_ | refine Post.then_ret ?_ | refine Post.block_ret ?_ | (apply TR.st1 (o := ⟨_, .assign _, _, _, _, _⟩); exact rfl; exact rfl; exact rfl; (first | exact Wd.plain rfl | exact Wd.on rfl rfl rfl); exact EvS.assign rfl))
      (refine Post.body_ret _ (ResL.one rfl (ResV.tmp rfl)) ?_; intro wR hR; exact ⟨by cases b <;> cases d <;> rfl, (by first | exact hR | exact hR.tail | exact hR.tail.tail | exact hR.tail.tail.tail | exact hR.tail.tail.tail.tail | exact hR.tail.tail.tail.tail.tail | exact hR.tail.tail.tail.tail.tail.tail)⟩)
    · refine calls_of_TC (args := [_, _]) Tryz.func66 rfl Tryz.ntmps66 (Nat.le_of_ble_eq_true rfl) hs ?_
      repeat' (first | refine TC.seq ?_ | refine TC.region ?_ | refine TR.nil ?_ | refine Post.then_normal ?_ | refine TC.block ?_ | (apply TC.cond_t; exact rfl) | (apply TC.cond_f; exact rfl) | (apply TR.st1; exact rfl; exact rfl; exact rfl; (first | exact Wd.plain rfl | exact Wd.on rfl rfl rfl); (first | exact EvS.move rfl | exact EvS.assign rfl | (first | exact EvS.eq64 rfl rfl (by first | with_reducible exact U64.var _ | exact U64.lit rfl) (by first | with_reducible exact U64.var _ | exact U64.lit rfl) | exact EvS.eqI rfl rfl | exact EvS.eqB rfl rfl))))
      refine TC.draw_ [.st, .st, .st, .st, .st, .st, .st, .st, .st, .st, .st, .st] mixed rfl (by kernel_rfl) ?_
      repeat' (first | (apply D.st1; exact rfl; (first | exact Wd.plain rfl | exact Wd.on rfl rfl rfl); (first | exact EvS.move rfl | (first | (apply EvS.load1; exact rfl; (first | exact Reads.memX (by assumption) | exact Reads.ownX (by repeat first | exact List.Mem.head _ | assumption | apply List.Mem.tail)); (first | assumption | exact nthL_arr rfl | exact rfl)) | (apply EvS.loadW; exact rfl; (first | exact Reads.memX (by assumption) | exact Reads.ownX (by repeat first | exact List.Mem.head _ | assumption | apply List.Mem.tail)); first | exact rfl | assumption) | (apply EvS.loadH; exact rfl; (first | exact Reads.memX (by assumption) | exact Reads.ownX (by repeat first | exact List.Mem.head _ | assumption | apply List.Mem.tail)); assumption; first | exact rfl | assumption)) | (first | exact EvS.eq64 rfl rfl (by first | with_reducible exact U64.var _ | exact U64.lit rfl) (by first | with_reducible exact U64.var _ | exact U64.lit rfl) | exact EvS.eqI rfl rfl | exact EvS.eqB rfl rfl) | (first | exact EvS.pick_t rfl rfl | exact EvS.pick_f rfl rfl) | (first | exact EvS.indexAddr rfl rfl (by first | exact rfl | assumption) (by omega) | exact EvS.indexAddrA rfl rfl (by omega)))) | refine D.tail_ ?_)
      repeat' (first | refine TR.nil ?_ | refine Post.then_normal ?_ | refine TC.ret ?_ | refine Post.then_ret ?_ | refine Post.block_ret ?_ | (apply TR.st1 (o := ⟨_, .assign _, _, _, _, _⟩); exact rfl; exact rfl; exact rfl; (first | exact Wd.plain rfl | exact Wd.on rfl rfl rfl); exact EvS.assign rfl))
      (refine Post.body_ret _ (ResL.one rfl (ResV.tmp rfl)) ?_; intro wR hR; exact ⟨by cases b <;> cases d <;> rfl, (by first | exact hR | exact hR.tail | exact hR.tail.tail | exact hR.tail.tail.tail | exact hR.tail.tail.tail.tail | exact hR.tail.tail.tail.tail.tail | exact hR.tail.tail.tail.tail.tail.tail)⟩)
  · have h3 : x.length = 3 := by simp [varsZ] at hx; omega
    obtain ⟨d, hd⟩ : ∃ d, x[2]? = some d := ⟨_, List.getElem?_eq_getElem (by omega)⟩
    obtain ⟨g2, o2, blk2, T2, fr2, hAe2, hm2, hc2⟩ := hA.get1 (k := 2) (v := .bool d) (by simp [bools, hd])
    obtain ⟨rfl, rfl⟩ : g = g2 ∧ o = o2 := by have h := hAe.symm.trans hAe2; injection h with h; injection h with a b _; exact ⟨a, b⟩
    obtain rfl : blk = blk2 := by have h := hm.symm.trans hm2; injection h with h; injection h
    have e2 : x.getD 2 false = d := by rw [List.getD_eq_getElem?_getD, hd]; rfl
    rw [e2]
    clear e0 e1 e2
    cases a
    · refine calls_of_TC (args := [_, _]) Tryz.func66 rfl Tryz.ntmps66 (Nat.le_of_ble_eq_true rfl) hs ?_
      repeat' (first | refine TC.seq ?_ | refine TC.region ?_ | refine TR.nil ?_ | refine Post.then_normal ?_ | refine TC.block ?_ | refine TC.skip ?_ | (apply TC.cond_f; exact rfl) | refine Post.block_normal ?_ | (apply TR.st1; exact rfl; exact rfl; exact rfl; (first | exact Wd.plain rfl | exact Wd.on rfl rfl rfl); (first | exact EvS.move rfl | exact EvS.assign rfl | (first | exact EvS.eq64 rfl rfl (by first | with_reducible exact U64.var _ | exact U64.lit rfl) (by first | with_reducible exact U64.var _ | exact U64.lit rfl) | exact EvS.eqI rfl rfl | exact EvS.eqB rfl rfl))))
      refine TC.draw_ [.st, .st, .st, .st, .st, .st, .st, .sk, .sk, .sk, .sk, .st, .st] mixed rfl (by kernel_rfl) ?_
      repeat' (first | (apply D.sk1; exact rfl; (first | exact Wd.off rfl rfl rfl rfl | exact Wd.offU rfl rfl rfl)) | (apply D.st1; exact rfl; (first | exact Wd.plain rfl | exact Wd.on rfl rfl rfl); (first | exact EvS.move rfl | (first | (apply EvS.load1; exact rfl; (first | exact Reads.memX (by assumption) | exact Reads.ownX (by repeat first | exact List.Mem.head _ | assumption | apply List.Mem.tail)); (first | assumption | exact nthL_arr rfl | exact rfl)) | (apply EvS.loadW; exact rfl; (first | exact Reads.memX (by assumption) | exact Reads.ownX (by repeat first | exact List.Mem.head _ | assumption | apply List.Mem.tail)); first | exact rfl | assumption) | (apply EvS.loadH; exact rfl; (first | exact Reads.memX (by assumption) | exact Reads.ownX (by repeat first | exact List.Mem.head _ | assumption | apply List.Mem.tail)); assumption; first | exact rfl | assumption)) | (first | exact EvS.eq64 rfl rfl (by first | with_reducible exact U64.var _ | exact U64.lit rfl) (by first | with_reducible exact U64.var _ | exact U64.lit rfl) | exact EvS.eqI rfl rfl | exact EvS.eqB rfl rfl) | (first | exact EvS.pick_t rfl rfl | exact EvS.pick_f rfl rfl) | (first | exact EvS.indexAddr rfl rfl (by first | exact rfl | assumption) (by omega) | exact EvS.indexAddrA rfl rfl (by omega)))) | refine D.tail_ ?_)
      repeat' (first | refine TR.nil ?_ | refine Post.then_normal ?_ | refine TC.ret ?_ | (apply TR.st1 (o := ⟨_, .assign _, _, _, _, _⟩); exact rfl; exact rfl; exact rfl; (first | exact Wd.plain rfl | exact Wd.on rfl rfl rfl); exact EvS.assign rfl))
      (refine Post.body_ret _ (ResL.one rfl (ResV.tmp rfl)) ?_; intro wR hR; exact ⟨by cases b <;> cases d <;> rfl, (by first | exact hR | exact hR.tail | exact hR.tail.tail | exact hR.tail.tail.tail | exact hR.tail.tail.tail.tail | exact hR.tail.tail.tail.tail.tail | exact hR.tail.tail.tail.tail.tail.tail)⟩)
    · refine calls_of_TC (args := [_, _]) Tryz.func66 rfl Tryz.ntmps66 (Nat.le_of_ble_eq_true rfl) hs ?_
      repeat' (first | refine TC.seq ?_ | refine TC.region ?_ | refine TR.nil ?_ | refine Post.then_normal ?_ | refine TC.block ?_ | refine TC.skip ?_ | (apply TC.cond_f; exact rfl) | refine Post.block_normal ?_ | (apply TR.st1; exact rfl; exact rfl; exact rfl; (first | exact Wd.plain rfl | exact Wd.on rfl rfl rfl); (first | exact EvS.move rfl | exact EvS.assign rfl | (first | exact EvS.eq64 rfl rfl (by first | with_reducible exact U64.var _ | exact U64.lit rfl) (by first | with_reducible exact U64.var _ | exact U64.lit rfl) | exact EvS.eqI rfl rfl | exact EvS.eqB rfl rfl))))
      refine TC.draw_ [.st, .st, .st, .st, .st, .st, .st, .st, .st, .st, .st, .st, .st] mixed rfl (by kernel_rfl) ?_
      repeat' (first | (apply D.st1; exact rfl; (first | exact Wd.plain rfl | exact Wd.on rfl rfl rfl); (first | exact EvS.move rfl | (first | (apply EvS.load1; exact rfl; (first | exact Reads.memX (by assumption) | exact Reads.ownX (by repeat first | exact List.Mem.head _ | assumption | apply List.Mem.tail)); (first | assumption | exact nthL_arr rfl | exact rfl)) | (apply EvS.loadW; exact rfl; (first | exact Reads.memX (by assumption) | exact Reads.ownX (by repeat first | exact List.Mem.head _ | assumption | apply List.Mem.tail)); first | exact rfl | assumption) | (apply EvS.loadH; exact rfl; (first | exact Reads.memX (by assumption) | exact Reads.ownX (by repeat first | exact List.Mem.head _ | assumption | apply List.Mem.tail)); assumption; first | exact rfl | assumption)) | (first | exact EvS.not rfl | exact EvS.neg64 rfl (by first | with_reducible exact U64.var _ | exact U64.lit rfl)) | (first | exact EvS.eq64 rfl rfl (by first | with_reducible exact U64.var _ | exact U64.lit rfl) (by first | with_reducible exact U64.var _ | exact U64.lit rfl) | exact EvS.eqI rfl rfl | exact EvS.eqB rfl rfl) | (first | exact EvS.pick_t rfl rfl | exact EvS.pick_f rfl rfl) | (first | exact EvS.indexAddr rfl rfl (by first | exact rfl | assumption) (by omega) | exact EvS.indexAddrA rfl rfl (by omega)))) | refine D.tail_ ?_)
      repeat' (first | refine TR.nil ?_ | refine Post.then_normal ?_ | refine TC.ret ?_ | (apply TR.st1 (o := ⟨_, .assign _, _, _, _, _⟩); exact rfl; exact rfl; exact rfl; (first | exact Wd.plain rfl | exact Wd.on rfl rfl rfl); exact EvS.assign rfl))
      (refine Post.body_ret _ (ResL.one rfl (ResV.tmp rfl)) ?_; intro wR hR; exact ⟨by cases b <;> cases d <;> rfl, (by first | exact hR | exact hR.tail | exact hR.tail.tail | exact hR.tail.tail.tail | exact hR.tail.tail.tail.tail | exact hR.tail.tail.tail.tail.tail | exact hR.tail.tail.tail.tail.tail.tail)⟩)

def someP (k : Int) (e : Nat) : List Bd → List Bool → Bool
  | [], x => asksB k (x.getD 0 false) (x.getD 1 false) (x.getD 2 false)
  | y :: ys, x => (!has y.lo e && someP k e ys (x ++ [false])) || (has y.can e && someP k e ys (x ++ [true]))
theorem some_elem {l : List Bd} {k : Int} (h1 : 1 ≤ k) (h5 : k ≤ 5) (hl : (l.length : Int) = varsZ k) (e : Nat) : someP k e l [] = elemB l k e := by
  have hk : k = 1 ∨ k = 2 ∨ k = 3 ∨ k = 4 ∨ k = 5 := by omega
  have h23 : l.length = 2 ∨ l.length = 3 := by rcases hk with rfl | rfl | rfl | rfl | rfl <;> simp [varsZ] at hl <;> omega
  rcases h23 with h | h
  · match l, h with
    | [y0, y1], _ =>
      have hr : List.range (2 ^ [y0, y1].length) = [0, 1, 2, 3] := rfl
      unfold elemB
      rw [hr]
      simp only [List.any_cons, List.any_nil, wayB, allowedB, List.zipIdx_cons, List.zipIdx_nil, List.all_cons, List.all_nil, okAt, someP, List.nil_append, List.cons_append]
      rcases hk with rfl | rfl | rfl | rfl | rfl <;> first
        | (simp [varsZ] at hl; done)
        | (cases has y0.lo e <;> cases has y0.can e <;> cases has y1.lo e <;> cases has y1.can e <;> rfl)
  · match l, h with
    | [y0, y1, y2], _ =>
      have hr : List.range (2 ^ [y0, y1, y2].length) = [0, 1, 2, 3, 4, 5, 6, 7] := rfl
      unfold elemB
      rw [hr]
      simp only [List.any_cons, List.any_nil, wayB, allowedB, List.zipIdx_cons, List.zipIdx_nil, List.all_cons, List.all_nil, okAt, someP, List.nil_append, List.cons_append]
      rcases hk with rfl | rfl | rfl | rfl | rfl <;> first
        | (simp [varsZ] at hl; done)
        | (cases has y0.lo e <;> cases has y0.can e <;> cases has y1.lo e <;> cases has y1.can e <;> cases has y2.lo e <;> cases has y2.can e <;> rfl)
end Go.Proofs.YtgpgjpcebajofaaGreatDoor
set_option maxHeartbeats 4000000
set_option linter.unusedVariables false
set_option linter.unusedSimpArgs false
set_option maxRecDepth 100000
namespace Go.Proofs.YtgpgjpcebajofaaGreatDoor
open Go Go.XC Go.RowKit Go.SetsP
attribute [local irreducible] Post TC TR D WL EvS EvC Wd ResL Code.wpIn Exit.then Exit.inBlock Exit.noGoto LoopK LoopP bodyPostM Reads Calls

theorem Sl.ofBlk {m : Mem} {sz g T : Nat} {fr : Nat × Nat} {css : List (List Value)} (hl : ∀ cs, cs ∈ css → cs.length = sz) (hb : css.length ≤ 140737488355328) (h : m.blk g = some (.cells css.flatten.toArray T fr)) : Sl m sz (some ⟨g, 0, none⟩) css :=
  ⟨hl, hb, fun _ => ⟨g, 0, _, T, fr, rfl, h, fun i cs hi j u hj => by simpa using flatten_at css i cs hl hi j u hj⟩⟩
theorem freezeAll : ∀ (es : Own) {m : Mem} {L : Own} {w : World}, St m (es ++ L) w → ∃ m', m.Le m' ∧ (∀ g o, some (g, o) ∈ es → m'.blk g = some o) ∧ St m' L w := by
  intro es
  induction es with
  | nil => intro m L w h; exact ⟨m, Mem.Le.refl _, fun g o h => (by cases h), h⟩
  | cons e es ih =>
    intro m L w h
    obtain ⟨l1, l2⟩ := lend h
    obtain ⟨m', k1, k2, k3⟩ := ih l2
    refine ⟨m', l1.trans k1, fun g o hx => ?_, k3⟩
    rcases List.mem_cons.1 hx with hx | hx
    · subst hx
      exact k1.blk g o (Mem.put_same m g o)
    · exact k2 g o hx
def RlL (m : Mem) : List Rl → List (List Value) → Prop
  | [], [] => True
  | r :: rs, cs :: css => RlC m r cs ∧ RlL m rs css
  | _, _ => False
theorem RlL.s {m : Mem} : ∀ {rs : List Rl} {css : List (List Value)}, RlL m rs css → css.length = rs.length ∧ ∀ (i : Nat) (r : Rl) (cs : List Value), rs[i]? = some r → css[i]? = some cs → RlC m r cs := by
  intro rs
  induction rs with
  | nil => intro css h; cases css with
    | nil => exact ⟨rfl, fun i r cs h => by simp at h⟩
    | cons => exact h.elim
  | cons r rs ih => intro css h; cases css with
    | nil => exact h.elim
    | cons cs css =>
      obtain ⟨h1, h2⟩ := ih h.2
      refine ⟨by simp [h1], fun i r' cs' hi hj => ?_⟩
      cases i with
      | zero => simp at hi hj; subst hi hj; exact h.1
      | succ i => exact h2 i r' cs' (by simpa using hi) (by simpa using hj)
theorem RlC.of {m : Mem} {k lo hi : Int} {vs : List Int} {g n c T : Nat} {fr : Nat × Nat} (hn : n = vs.length) (hc : n ≤ c) (hb : vs.length ≤ 140737488355328) (h : m.blk g = some (.cells (ints vs).flatten.toArray T fr)) : RlC m ⟨k, vs, lo, hi⟩ [.int .i64 k, .slice (some ⟨g, 0, none⟩) n c, .int .i64 lo, .int .i64 hi] :=
  ⟨some ⟨g, 0, none⟩, c, by rw [hn], Sl.ofBlk (ints_len _) (by rw [ints_length]; exact hb) h, by rw [← hn]; exact hc⟩
/-- A problem in memory that may have grown. -/
def PS (m : Mem) (p : Pb) (L : Own) (pcs : Array Value) (w : World) : Prop := ∃ m', m.Le m' ∧ PbC m' p pcs ∧ St m' L w

def PA : Pb := ⟨[⟨0, 7⟩, ⟨0, 7⟩, ⟨0, 7⟩], [⟨3, [0, 1, 2], 0, 0⟩, ⟨2, [0, 1], 0, 0⟩, ⟨6, [2], 3, 3⟩, ⟨6, [0], 2, 3⟩]⟩
def PB : Pb := ⟨[⟨0, 7⟩, ⟨1, 5⟩, ⟨0, 7⟩], PA.rules⟩
def PC : Pb := ⟨PA.bounds, PA.rules ++ [⟨1, [2, 1], 0, 0⟩]⟩
theorem pa_ok : checkB PA = true := by kernel_rfl
theorem pb_ok : checkB PB = true := by kernel_rfl
theorem pc_ok : checkB PC = true := by kernel_rfl
theorem pa_holds : holdsB PA [3, 6, 7] = (1, 0) := by kernel_rfl
theorem pb_n : (propS PB).2 = -1 := by kernel_rfl
theorem pb_b : (propS PB).1.b.take PB.bounds.length = [⟨6, 6⟩, ⟨1, 1⟩, ⟨7, 7⟩] := by kernel_rfl
def factsB : List Fc := [⟨2, 0, true, 0, []⟩, ⟨0, 0, false, 1, []⟩, ⟨2, 1, true, 2, []⟩, ⟨2, 2, true, 2, []⟩, ⟨0, 1, true, 3, [1]⟩, ⟨0, 2, true, 3, [1]⟩, ⟨1, 2, false, 1, [5]⟩]
theorem pb_f : (propS PB).1.fs = factsB := by kernel_rfl
def solsA : List (List BV) := [[7, 0, 7], [3, 4, 7], [5, 2, 7], [6, 1, 7]]
theorem pa_s : solveP PA 9 = (solsA, 7, 0) := by kernel_rfl
theorem pc_c : coreP PC = ([0, 1, 3, 4], 0) := by kernel_rfl

theorem lrule_c (k lo hi : Int) (B : Option Addr) (n c : Nat) (m : Mem) (L : Own) (w : World) (hs : St m L w) :
    Calls Tryz.prog 60 #[.int .i64 k, .int .i64 lo, .int .i64 hi, .slice B n c] w fun x w' => x = .returned (.agg #[.int .i64 k, .slice B n c, .int .i64 lo, .int .i64 hi]) ∧ St m L w' := by
  refine calls_of_TC (args := [_, _, _, _]) Tryz.func60 rfl Tryz.ntmps60 (Nat.le_of_ble_eq_true rfl) hs ?_
  repeat' (first | refine TC.seq ?_ | refine TC.region ?_ | refine TR.nil ?_ | refine Post.then_normal ?_ | refine TC.ret ?_ | (apply TR.st1; exact rfl; exact rfl; exact rfl; (first | exact Wd.plain rfl | exact Wd.on rfl rfl rfl); (first | exact EvS.buildV rfl (by kernel_rfl) | exact EvS.move rfl)) | (apply TR.ch1 (o := ⟨_, .alloc _, _, _, _, _⟩) ; exact rfl; exact rfl; exact rfl; (first | exact Wd.plain rfl | exact Wd.on rfl rfl rfl); exact EvC.alloc; intro g) | (apply TR.ch0 (o := ⟨_, .store _ _ _, _, _, _, _⟩) ; exact rfl; exact rfl; (first | exact Wd.plain rfl | exact Wd.on rfl rfl rfl); exact EvC.storeW rfl rfl (by first | exact rfl | assumption) (by first | exact bArr_one _ | exact rfl | (intro v hv; simp at hv; rcases hv with rfl | rfl | rfl | rfl | rfl | rfl | rfl | rfl <;> rfl)) (by repeat first | exact Upd.head | apply Upd.tail) (by first | exact rfl | assumption); rintro ⟨⟩))
  refine Post.body_ret _ (ResL.one rfl (ResV.cellW (n := 4) rfl (Reads.own (by repeat first | exact List.Mem.head _ | apply List.Mem.tail)) rfl)) ?_
  intro w h
  exact ⟨rfl, h.tail⟩
theorem A_c (m : Mem) (L : Own) (w : World) (hs : St m L w) :
    Calls Tryz.prog 19 #[] w fun x w' => ∃ y : Nat × Nat × Nat × Nat × Nat × Nat, x = .returned (.agg #[.slice (some ⟨y.1, 0, none⟩) 3 3, .slice (some ⟨y.2.1, 0, none⟩) 4 4]) ∧
      St m (some (y.2.1, .cells #[.int .i64 3, .slice (some ⟨y.2.2.1, 0, none⟩) 3 3, .int .i64 0, .int .i64 0, .int .i64 2, .slice (some ⟨y.2.2.2.1, 0, none⟩) 2 2, .int .i64 0, .int .i64 0, .int .i64 6, .slice (some ⟨y.2.2.2.2.1, 0, none⟩) 1 1, .int .i64 3, .int .i64 3, .int .i64 6, .slice (some ⟨y.2.2.2.2.2, 0, none⟩) 1 1, .int .i64 2, .int .i64 3] 62 (0, 0)) ::
        some (y.2.2.2.2.2, .cells #[.int .i64 0] 3 (0, 0)) :: some (y.2.2.2.2.1, .cells #[.int .i64 2] 3 (0, 0)) :: some (y.2.2.2.1, .cells #[.int .i64 0, .int .i64 1] 3 (0, 0)) :: some (y.2.2.1, .cells #[.int .i64 0, .int .i64 1, .int .i64 2] 3 (0, 0)) ::
        some (y.1, .cells #[.int .u64 0, .int .u64 7, .int .u64 0, .int .u64 7, .int .u64 0, .int .u64 7] 53 (0, 0)) :: L) w' := by
  refine calls_of_TC (args := []) Tryz.func19 rfl Tryz.ntmps19 (Nat.le_of_ble_eq_true rfl) hs ?_
  repeat' (first | (apply TR.ch1; exact rfl; exact rfl; exact rfl; (first | exact Wd.plain rfl | exact Wd.on rfl rfl rfl); (first | exact EvC.buildN (n := 3) (sz := 2) (cells := #[.int .u64 0, .int .u64 7, .int .u64 0, .int .u64 7, .int .u64 0, .int .u64 7]) rfl (by decide) (by decide) (by kernel_rfl) | exact EvC.buildN (n := 3) (sz := 1) (vs := [.int .i64 0, .int .i64 1, .int .i64 2]) (cells := #[.int .i64 0, .int .i64 1, .int .i64 2]) rfl (by decide) (by decide) (by kernel_rfl) | exact EvC.buildN (n := 2) (sz := 1) (vs := [.int .i64 0, .int .i64 1]) (cells := #[.int .i64 0, .int .i64 1]) rfl (by decide) (by decide) (by kernel_rfl) | exact EvC.buildN (n := 1) (sz := 1) (vs := [.int .i64 2]) (cells := #[.int .i64 2]) rfl (by decide) (by decide) (by kernel_rfl) | exact EvC.buildN (n := 1) (sz := 1) (vs := [.int .i64 0]) (cells := #[.int .i64 0]) rfl (by decide) (by decide) (by kernel_rfl)); intro g) | (apply TR.ch1 (o := ⟨_, .call _, _, _, _, _⟩); exact rfl; exact rfl; exact rfl; (first | exact Wd.plain rfl | exact Wd.on rfl rfl rfl); exact EvC.callV rfl rfl (fun w hs => lrule_c _ _ _ _ _ _ _ _ w hs); rintro ⟨⟩) | refine TC.seq ?_ | refine TC.region ?_ | refine TR.nil ?_ | refine Post.then_normal ?_ | (apply TR.st1 (o := ⟨_, .build _ _, _, _, _, _⟩); exact rfl; exact rfl; exact rfl; (first | exact Wd.plain rfl | exact Wd.on rfl rfl rfl); exact EvS.buildC (cells := #[.int .u64 0, .int .u64 7]) rfl (by kernel_rfl)) | (apply TR.ch1 (o := ⟨_, .alloc _, _, _, _, _⟩) ; exact rfl; exact rfl; exact rfl; (first | exact Wd.plain rfl | exact Wd.on rfl rfl rfl); exact EvC.alloc; intro g))
  rename_i g0 gb g1 g2 g3
  obtain ⟨g4, hg4⟩ : ∃ x, x = g := ⟨_, rfl⟩
  subst hg4
  (apply TR.ch1 (o := ⟨_, .buildSlice _ _ _, _, _, _, _⟩); exact rfl; exact rfl; exact rfl; exact Wd.plain rfl; exact EvC.buildN (n := 4) (sz := 4) (cells := #[.int .i64 3, .slice (some ⟨g1, 0, none⟩) 3 3, .int .i64 0, .int .i64 0, .int .i64 2, .slice (some ⟨g2, 0, none⟩) 2 2, .int .i64 0, .int .i64 0, .int .i64 6, .slice (some ⟨g3, 0, none⟩) 1 1, .int .i64 3, .int .i64 3, .int .i64 6, .slice (some ⟨g4, 0, none⟩) 1 1, .int .i64 2, .int .i64 3]) rfl (by decide) (by decide) (by kernel_rfl); intro gr)
  repeat' (first | refine TR.nil ?_ | refine Post.then_normal ?_ | refine TC.ret ?_ | (apply TR.st1 (o := ⟨_, .build _ _, _, _, _, _⟩); exact rfl; exact rfl; exact rfl; (first | exact Wd.plain rfl | exact Wd.on rfl rfl rfl); exact EvS.buildV rfl (by kernel_rfl)) | (apply TR.ch0 (o := ⟨_, .store _ _ _, _, _, _, _⟩) ; exact rfl; exact rfl; (first | exact Wd.plain rfl | exact Wd.on rfl rfl rfl); exact EvC.storeW rfl rfl (by first | exact rfl | assumption) (by first | exact bArr_one _ | exact rfl | (intro v hv; simp at hv; rcases hv with rfl | rfl | rfl | rfl | rfl | rfl | rfl | rfl <;> rfl)) (by repeat first | exact Upd.head | apply Upd.tail) (by first | exact rfl | assumption); rintro ⟨⟩))
  refine Post.body_ret _ (ResL.one rfl (ResV.cellW (n := 2) rfl (Reads.own (by repeat first | exact List.Mem.head _ | apply List.Mem.tail)) rfl)) ?_
  intro w h
  exact ⟨(gb, gr, g1, g2, g3, g4), rfl, h.sublist (List.Sublist.cons_cons _ (List.Sublist.cons_cons _ (List.Sublist.cons_cons _ (List.Sublist.cons_cons _ (List.Sublist.cons_cons _ (List.Sublist.cons_cons _ (List.Sublist.cons _ (List.Sublist.refl _))))))))⟩
theorem pa_rules {m : Mem} {g1 g2 g3 g4 T1 T2 T3 T4 : Nat} {f1 f2 f3 f4 : Nat × Nat} (h1 : m.blk g1 = some (.cells #[.int .i64 0, .int .i64 1, .int .i64 2] T1 f1)) (h2 : m.blk g2 = some (.cells #[.int .i64 0, .int .i64 1] T2 f2)) (h3 : m.blk g3 = some (.cells #[.int .i64 2] T3 f3)) (h4 : m.blk g4 = some (.cells #[.int .i64 0] T4 f4)) :
    RlL m PA.rules [[.int .i64 3, .slice (some ⟨g1, 0, none⟩) 3 3, .int .i64 0, .int .i64 0], [.int .i64 2, .slice (some ⟨g2, 0, none⟩) 2 2, .int .i64 0, .int .i64 0], [.int .i64 6, .slice (some ⟨g3, 0, none⟩) 1 1, .int .i64 3, .int .i64 3], [.int .i64 6, .slice (some ⟨g4, 0, none⟩) 1 1, .int .i64 2, .int .i64 3]] :=
  ⟨RlC.of rfl (by decide) (by decide) h1, RlC.of rfl (by decide) (by decide) h2, RlC.of rfl (by decide) (by decide) h3, RlC.of rfl (by decide) (by decide) h4, trivial⟩
theorem len4 {a b c d : List Value} (ha : a.length = 4) (hb : b.length = 4) (hc : c.length = 4) (hd : d.length = 4) : ∀ cs, cs ∈ [a, b, c, d] → cs.length = 4 := by
  intro cs h
  simp at h
  rcases h with rfl | rfl | rfl | rfl <;> assumption
theorem PA_of {m : Mem} {L : Own} {w : World} {gb gr g1 g2 g3 g4 T0 T1 T2 T3 T4 T5 : Nat} {b : List Bd} (hb : b.length = 3)
    (hs : St m (some (gr, .cells #[.int .i64 3, .slice (some ⟨g1, 0, none⟩) 3 3, .int .i64 0, .int .i64 0, .int .i64 2, .slice (some ⟨g2, 0, none⟩) 2 2, .int .i64 0, .int .i64 0, .int .i64 6, .slice (some ⟨g3, 0, none⟩) 1 1, .int .i64 3, .int .i64 3, .int .i64 6, .slice (some ⟨g4, 0, none⟩) 1 1, .int .i64 2, .int .i64 3] T0 (0, 0)) :: some (g4, .cells #[.int .i64 0] T4 (0, 0)) :: some (g3, .cells #[.int .i64 2] T3 (0, 0)) :: some (g2, .cells #[.int .i64 0, .int .i64 1] T2 (0, 0)) :: some (g1, .cells #[.int .i64 0, .int .i64 1, .int .i64 2] T1 (0, 0)) :: some (gb, .cells (bds b).flatten.toArray T5 (0, 0)) :: L) w) :
    PS m ⟨b, PA.rules⟩ L #[.slice (some ⟨gb, 0, none⟩) 3 3, .slice (some ⟨gr, 0, none⟩) 4 4] w := by
  obtain ⟨m', k1, k2, k3⟩ := freezeAll [_, _, _, _, _, _] hs
  refine ⟨m', k1, ⟨some ⟨gb, 0, none⟩, 3, some ⟨gr, 0, none⟩, 4, by simp only [hb]; rfl, Sl.ofBlk (bds_len _) (by rw [bds_length, hb]; decide) (k2 gb _ (.tail _ (.tail _ (.tail _ (.tail _ (.tail _ (.head _))))))), ⟨⟨_, Sl.ofBlk (len4 rfl rfl rfl rfl) (by simp) (k2 gr _ (List.Mem.head _)), (pa_rules (k2 g1 _ (.tail _ (.tail _ (.tail _ (.tail _ (.head _)))))) (k2 g2 _ (.tail _ (.tail _ (.tail _ (.head _))))) (k2 g3 _ (.tail _ (.tail _ (.head _)))) (k2 g4 _ (.tail _ (.head _)))).s⟩⟩⟩, k3⟩
theorem A_p (m : Mem) (L : Own) (w : World) (hs : St m L w) :
    Calls Tryz.prog 19 #[] w fun x w' => ∃ pcs : Array Value, x = .returned (.agg pcs) ∧ PS m PA L pcs w' :=
  (A_c m L w hs).mono fun x w' ⟨⟨gb, gr, g1, g2, g3, g4⟩, h1, h2⟩ => ⟨_, h1, PA_of (b := PA.bounds) rfl h2⟩
theorem Sl.ofBlkJ {m : Mem} {sz g T : Nat} {fr : Nat × Nat} {css : List (List Value)} {junk : List Value} (hl : ∀ cs, cs ∈ css → cs.length = sz) (hb : css.length ≤ 140737488355328) (h : m.blk g = some (.cells (css.flatten ++ junk).toArray T fr)) : Sl m sz (some ⟨g, 0, none⟩) css :=
  ⟨hl, hb, fun _ => ⟨g, 0, _, T, fr, rfl, h, fun i cs hi j u hj => by
    have h1 := flatten_at css i cs hl hi j u hj
    simp only [Nat.zero_add, List.getElem?_toArray]
    rw [List.getElem?_append_left (List.getElem?_eq_some_iff.1 h1).1]; exact h1⟩⟩
theorem B_p (m : Mem) (L : Own) (w : World) (hs : St m L w) :
    Calls Tryz.prog 21 #[] w fun x w' => ∃ pcs : Array Value, x = .returned (.agg pcs) ∧ PS m PB L pcs w' := by
  refine calls_of_TC (args := []) Tryz.func21 rfl Tryz.ntmps21 (Nat.le_of_ble_eq_true rfl) hs ?_
  repeat' (first | (apply TR.ch1 (o := ⟨_, .call _, _, _, _, _⟩); exact rfl; exact rfl; exact rfl; (first | exact Wd.plain rfl | exact Wd.on rfl rfl rfl); exact EvC.callX rfl rfl (fun w hs => A_c m _ w hs); rintro ⟨gb, gr, g1, g2, g3, g4⟩) | refine TC.seq ?_ | refine TC.region ?_ | refine TR.nil ?_ | refine Post.then_normal ?_ | (apply TR.st1; exact rfl; exact rfl; exact rfl; (first | exact Wd.plain rfl | exact Wd.on rfl rfl rfl); (first | exact EvS.buildC (cells := #[.int .u64 1, .int .u64 5]) rfl (by kernel_rfl) | exact EvS.fieldAddr rfl | (first | (apply EvS.load1; exact rfl; (first | exact Reads.mem (by assumption) | exact Reads.own (by repeat first | exact List.Mem.head _ | assumption | apply List.Mem.tail)); (first | assumption | exact nthL_arr rfl | exact rfl)) | (apply EvS.loadW; exact rfl; (first | exact Reads.mem (by assumption) | exact Reads.own (by repeat first | exact List.Mem.head _ | assumption | apply List.Mem.tail)); first | exact rfl | assumption) | (apply EvS.loadH; exact rfl; (first | exact Reads.mem (by assumption) | exact Reads.own (by repeat first | exact List.Mem.head _ | assumption | apply List.Mem.tail)); assumption; first | exact rfl | assumption)) | (first | exact EvS.indexAddr rfl rfl (by first | exact rfl | assumption) (by omega) | exact EvS.indexAddrA rfl rfl (by omega)))) | (apply TR.ch1 (o := ⟨_, .alloc _, _, _, _, _⟩) ; exact rfl; exact rfl; exact rfl; (first | exact Wd.plain rfl | exact Wd.on rfl rfl rfl); exact EvC.alloc; intro g) | (apply TR.ch0 (o := ⟨_, .store _ _ _, _, _, _, _⟩) ; exact rfl; exact rfl; (first | exact Wd.plain rfl | exact Wd.on rfl rfl rfl); exact EvC.storeW rfl rfl (by first | exact rfl | assumption) (by first | exact bArr_one _ | exact rfl | (intro v hv; simp at hv; rcases hv with rfl | rfl | rfl | rfl | rfl | rfl | rfl | rfl <;> rfl)) (by repeat first | exact Upd.head | apply Upd.tail) (by first | exact rfl | assumption); rintro ⟨⟩))
  simp only
  repeat' (first | (apply TR.ch0 (o := ⟨_, .store _ _ _, _, _, _, _⟩); exact rfl; exact rfl; exact Wd.plain rfl; exact EvC.storeN (n := 2) rfl rfl rfl (fun v hv => by simp at hv; rcases hv with rfl | rfl <;> rfl) (by repeat first | exact Upd.head | apply Upd.tail) (by decide); rintro ⟨⟩) | refine TC.seq ?_ | refine TC.region ?_ | refine TR.nil ?_ | refine Post.then_normal ?_ | refine TC.ret ?_ | (apply TR.st1 (o := ⟨_, .load _ _, _, _, _, _⟩); exact rfl; exact rfl; exact rfl; (first | exact Wd.plain rfl | exact Wd.on rfl rfl rfl); (first | (apply EvS.load1; exact rfl; (first | exact Reads.mem (by assumption) | exact Reads.own (by repeat first | exact List.Mem.head _ | assumption | apply List.Mem.tail)); (first | assumption | exact nthL_arr rfl | exact rfl)) | (apply EvS.loadW; exact rfl; (first | exact Reads.mem (by assumption) | exact Reads.own (by repeat first | exact List.Mem.head _ | assumption | apply List.Mem.tail)); first | exact rfl | assumption) | (apply EvS.loadH; exact rfl; (first | exact Reads.mem (by assumption) | exact Reads.own (by repeat first | exact List.Mem.head _ | assumption | apply List.Mem.tail)); assumption; first | exact rfl | assumption))))
  refine Post.body_ret _ (ResL.one rfl (ResV.cellW (n := 2) rfl (Reads.own (by repeat first | exact List.Mem.head _ | apply List.Mem.tail)) rfl)) ?_
  intro w h
  exact ⟨_, rfl, PA_of (b := PB.bounds) rfl (h.sublist (List.Sublist.cons _ ((List.Sublist.cons_cons _ (List.Sublist.cons_cons _ (List.Sublist.cons_cons _ (List.Sublist.cons_cons _ (List.Sublist.cons_cons _ (List.Sublist.cons_cons _ (List.Sublist.cons _ (List.Sublist.refl _)))))))))))⟩
theorem C_p (m : Mem) (L : Own) (w : World) (hs : St m L w) :
    Calls Tryz.prog 22 #[] w fun x w' => ∃ pcs : Array Value, x = .returned (.agg pcs) ∧ PS m PC L pcs w' := by
  refine calls_of_TC (args := []) Tryz.func22 rfl Tryz.ntmps22 (Nat.le_of_ble_eq_true rfl) hs ?_
  repeat' (first | (apply TR.ch1 (o := ⟨_, .call _, _, _, _, _⟩); exact rfl; exact rfl; exact rfl; (first | exact Wd.plain rfl | exact Wd.on rfl rfl rfl); exact EvC.callX rfl rfl (fun w hs => A_c m _ w hs); rintro ⟨gb, gr, g1, g2, g3, g4⟩) | refine TC.seq ?_ | refine TC.region ?_ | refine TR.nil ?_ | refine Post.then_normal ?_ | (apply TR.ch1 (o := ⟨_, .alloc _, _, _, _, _⟩) ; exact rfl; exact rfl; exact rfl; (first | exact Wd.plain rfl | exact Wd.on rfl rfl rfl); exact EvC.alloc; intro g) | (apply TR.ch0 (o := ⟨_, .store _ _ _, _, _, _, _⟩) ; exact rfl; exact rfl; (first | exact Wd.plain rfl | exact Wd.on rfl rfl rfl); exact EvC.storeW rfl rfl (by first | exact rfl | assumption) (by first | exact bArr_one _ | exact rfl | (intro v hv; simp at hv; rcases hv with rfl | rfl | rfl | rfl | rfl | rfl | rfl | rfl <;> rfl)) (by repeat first | exact Upd.head | apply Upd.tail) (by first | exact rfl | assumption); rintro ⟨⟩))
  simp only
  rename_i g0
  obtain ⟨gp, hgp⟩ : ∃ x, x = g := ⟨_, rfl⟩
  subst hgp
  obtain ⟨xs, hxs⟩ : ∃ xs : Array Value, xs = #[.int .i64 3, .slice (some ⟨g1, 0, none⟩) 3 3, .int .i64 0, .int .i64 0, .int .i64 2, .slice (some ⟨g2, 0, none⟩) 2 2, .int .i64 0, .int .i64 0, .int .i64 6, .slice (some ⟨g3, 0, none⟩) 1 1, .int .i64 3, .int .i64 3, .int .i64 6, .slice (some ⟨g4, 0, none⟩) 1 1, .int .i64 2, .int .i64 3] := ⟨_, rfl⟩
  have hrow : OwnRow (.slice (some ⟨gr, 0, none⟩) 4 4) 62 4 4 xs.toList (some (gr, .cells xs 62)) := OwnRow.lit (by rw [hxs]; rfl) (by decide)
  have hxl : xs.toList.length = 16 := by rw [hxs]; rfl
  rw [← hxs]
  refine TC.turn (fun w h => h.perm (List.Perm.swap _ _ _)) ?_
  refine TC.draw' (L1 := [some (gr, .cells xs 62 (0, 0))]) [.st, .st, .ch, .ch, .ch, .ch, .st] mixed rfl (by kernel_rfl) ?_
  repeat' (first | (apply D.chx (o := ⟨_, .buildSlice _ _ _, _, _, _, _⟩); exact rfl; exact Wd.plain rfl; exact EvC.buildN (n := 2) (sz := 1) (vs := [.int .i64 2, .int .i64 1]) (cells := #[.int .i64 2, .int .i64 1]) rfl (by decide) (by decide) (by kernel_rfl); exact inferInstance; exact fun _ _ h => StX.of2 h; intro g5) | (apply D.chx (o := ⟨_, .call _, _, _, _, _⟩); exact rfl; (first | exact Wd.plain rfl | exact Wd.on rfl rfl rfl); exact EvC.callV rfl rfl (fun w hs => lrule_c _ _ _ _ _ _ _ _ w hs); exact inferInstance; exact (by first | exact fun _ _ h => StX.of0 h | exact fun _ _ h => StX.of1 h | exact fun _ _ h => StX.of2 h | exact fun _ _ h => StX.of3 h | exact fun _ _ h => StX.of h); rintro ⟨⟩) | (apply D.chx (o := ⟨_, .call _, _, _, _, _⟩); exact rfl; exact Wd.plain rfl; (apply EvC.append; exact rfl; exact rfl; exact hrow; exact Rep1.tail (Rep1.tail Rep1.head); (apply RdC.whole; (first | exact Reads.mem (by assumption) | exact Reads.own (by repeat first | exact List.Mem.head _ | assumption | apply List.Mem.tail))); exact rfl; exact (by first | exact (fun v hv => by simp at hv; rcases hv with rfl | rfl | rfl | rfl | rfl | rfl | rfl | rfl <;> rfl) | exact (fun v hv => by simp at hv; rcases hv with rfl | rfl | rfl | rfl | rfl | rfl | rfl <;> rfl) | exact (fun v hv => by simp at hv; rcases hv with rfl | rfl | rfl | rfl <;> rfl) | exact (fun v hv => by simp at hv; rcases hv with rfl | rfl <;> rfl) | exact (fun v hv => by simp at hv; subst hv; rfl)); exact rfl; decide; omega; (intro e2; exact Rep1.tail (Rep1.tail Rep1.head))); exact ownRow_ex (by rw [List.length_append, hxl]; rfl) (by decide); exact fun _ _ h => StX.of3 h; rintro ⟨⟨v2, e2⟩, hrow3⟩) | (apply D.st1; exact rfl; (first | exact Wd.plain rfl | exact Wd.on rfl rfl rfl); (first | exact EvS.fieldAddr rfl | (first | (apply EvS.load1; exact rfl; (first | exact Reads.memX (by assumption) | exact Reads.ownX (by repeat first | exact List.Mem.head _ | assumption | apply List.Mem.tail)); (first | assumption | exact nthL_arr rfl | exact rfl)) | (apply EvS.loadW; exact rfl; (first | exact Reads.memX (by assumption) | exact Reads.ownX (by repeat first | exact List.Mem.head _ | assumption | apply List.Mem.tail)); first | exact rfl | assumption) | (apply EvS.loadH; exact rfl; (first | exact Reads.memX (by assumption) | exact Reads.ownX (by repeat first | exact List.Mem.head _ | assumption | apply List.Mem.tail)); assumption; first | exact rfl | assumption)))) | (apply D.chx (o := ⟨_, .buildSlice _ _ _, _, _, _, _⟩) ; exact rfl; (first | exact Wd.plain rfl | exact Wd.on rfl rfl rfl); exact EvC.buildA rfl (by exact rfl) (by exact rfl) (by decide) (by decide); exact inferInstance; exact (by first | exact fun _ _ h => StX.of0 h | exact fun _ _ h => StX.of1 h | exact fun _ _ h => StX.of2 h | exact fun _ _ h => StX.of3 h | exact fun _ _ h => StX.of h); intro g) | refine D.tail_ ?_)
  simp only at hrow3 ⊢
  rcases hrow3 with ⟨_, h0, _, _⟩ | ⟨g6, cap, junk, rfl, hc1, hc2, hlen, hjl, rfl⟩
  · omega
  repeat' (first | refine TC.seq ?_ | refine TC.region ?_ | refine TR.nil ?_ | refine Post.then_normal ?_ | refine TC.ret ?_ | (apply TR.st1 (o := ⟨_, .load _ _, _, _, _, _⟩); exact rfl; exact rfl; exact rfl; (first | exact Wd.plain rfl | exact Wd.on rfl rfl rfl); (first | (apply EvS.load1; exact rfl; (first | exact Reads.mem (by assumption) | exact Reads.own (by repeat first | exact List.Mem.head _ | assumption | apply List.Mem.tail)); (first | assumption | exact nthL_arr rfl | exact rfl)) | (apply EvS.loadW; exact rfl; (first | exact Reads.mem (by assumption) | exact Reads.own (by repeat first | exact List.Mem.head _ | assumption | apply List.Mem.tail)); first | exact rfl | assumption) | (apply EvS.loadH; exact rfl; (first | exact Reads.mem (by assumption) | exact Reads.own (by repeat first | exact List.Mem.head _ | assumption | apply List.Mem.tail)); assumption; first | exact rfl | assumption))) | (apply TR.ch0 (o := ⟨_, .store _ _ _, _, _, _, _⟩) ; exact rfl; exact rfl; (first | exact Wd.plain rfl | exact Wd.on rfl rfl rfl); exact EvC.store1 rfl rfl rfl (by repeat first | exact Upd.head | apply Upd.tail) (by first | assumption | exact Nat.lt_of_sub_eq_succ rfl | (simp; omega) | simp); rintro ⟨⟩) | (apply TR.ch0 (o := ⟨_, .store _ _ _, _, _, _, _⟩) ; exact rfl; exact rfl; (first | exact Wd.plain rfl | exact Wd.on rfl rfl rfl); exact EvC.storeW rfl rfl (by first | exact rfl | assumption) (by first | exact bArr_one _ | exact rfl | (intro v hv; simp at hv; rcases hv with rfl | rfl | rfl | rfl | rfl | rfl | rfl | rfl <;> rfl)) (by repeat first | exact Upd.head | apply Upd.tail) (by first | exact rfl | assumption); rintro ⟨⟩))
  refine Post.body_ret _ (ResL.one rfl (ResV.cellW (n := 2) rfl (Reads.own (by repeat first | exact List.Mem.head _ | apply List.Mem.tail)) rfl)) ?_
  intro w h
  obtain ⟨m', k1, k2, k3⟩ := freezeAll [_, _, _, _, _, _, _, _, _, _] h
  refine ⟨_, rfl, m', k1, ⟨some ⟨gb, 0, none⟩, 3, some ⟨g6, 0, none⟩, cap, rfl, Sl.ofBlk (css := bds PC.bounds) (bds_len _) (by decide) (k2 gb _ (.tail _ (.tail _ (.tail _ (.tail _ (.tail _ (.tail _ (.tail _ (.tail _ (.head _)))))))))), ⟨⟨[[.int .i64 3, .slice (some ⟨g1, 0, none⟩) 3 3, .int .i64 0, .int .i64 0], [.int .i64 2, .slice (some ⟨g2, 0, none⟩) 2 2, .int .i64 0, .int .i64 0], [.int .i64 6, .slice (some ⟨g3, 0, none⟩) 1 1, .int .i64 3, .int .i64 3], [.int .i64 6, .slice (some ⟨g4, 0, none⟩) 1 1, .int .i64 2, .int .i64 3], [.int .i64 1, .slice (some ⟨g5, 0, none⟩) 2 2, .int .i64 0, .int .i64 0]], Sl.ofBlkJ (junk := junk) (T := 62) (fr := (0, 0)) ?_ (by simp) ?_, RlL.s ?_⟩⟩⟩, k3⟩
  · intro cs h
    simp at h
    rcases h with rfl | rfl | rfl | rfl | rfl <;> rfl
  · have := k2 g6 _ (.tail _ (.tail _ (.head _)))
    rw [hxs] at this
    exact this
  · exact ⟨RlC.of rfl (by decide) (by decide) (k2 g1 _ (.tail _ (.tail _ (.tail _ (.tail _ (.tail _ (.tail _ (.tail _ (.head _))))))))), RlC.of rfl (by decide) (by decide) (k2 g2 _ (.tail _ (.tail _ (.tail _ (.tail _ (.tail _ (.tail _ (.head _)))))))), RlC.of rfl (by decide) (by decide) (k2 g3 _ (.tail _ (.tail _ (.tail _ (.tail _ (.tail _ (.head _))))))), RlC.of rfl (by decide) (by decide) (k2 g4 _ (.tail _ (.tail _ (.tail _ (.tail _ (.head _)))))), RlC.of rfl (by decide) (by decide) (k2 g5 _ (.tail _ (.head _))), trivial⟩
end Go.Proofs.YtgpgjpcebajofaaGreatDoor
set_option maxHeartbeats 4000000
set_option linter.unusedVariables false
set_option linter.unusedSimpArgs false
set_option maxRecDepth 100000
namespace Go.Proofs.YtgpgjpcebajofaaGreatDoor
open Go Go.XC Go.RowKit Go.SetsP
attribute [local irreducible] Post TC TR D WL EvS EvC Wd ResL Code.wpIn Exit.then Exit.inBlock Exit.noGoto LoopK LoopP bodyPostM Reads Calls

section
variable {m m1 : Mem} {L : Own} {w : World} {pcs : Array Value}
theorem wh_c (hT : TabM m1) (hp : PbC m1 PA pcs) (g T : Nat) (hs : St m1 (some (g, .cells #[.int .u64 3, .int .u64 6, .int .u64 7] T (0, 0)) :: L) w) :
    Calls Tryz.prog 18 #[.agg pcs, .slice (some ⟨g, 0, none⟩) 3 3] w fun x w' => x = .returned (.tuple #[.int .i64 1, .int .i64 0]) ∧ St m1 (some (g, .cells #[.int .u64 3, .int .u64 6, .int .u64 7] T (0, 0)) :: L) w' :=
  borrowV hs fun hs2 => by
    have := holds_c PA pcs (some ⟨g, 0, none⟩) 3 [3, 6, 7] (by decide) (by decide) _ (hT.mono (lend hs).1) (hp.mono (lend hs).1) (Sl.ofBlk (css := u64s [3, 6, 7]) (T := T) (fr := (0, 0)) (by intro cs h; simp [u64s] at h; rcases h with rfl | rfl | rfl <;> rfl) (by decide) (Mem.put_same _ _ _)) _ w hs2
    rw [pa_holds] at this
    exact this
theorem wp_c (hT : TabM m1) (hp : PbC m1 PB pcs) (hs : St m1 L w) :
    Calls Tryz.prog 20 #[.agg pcs] w fun x w' => ∃ y : { y : Mem × (Option Addr × Nat) × (Option Addr × Nat) // m1.Le y.1 ∧ Sl y.1 2 y.2.1.1 (bds [⟨6, 6⟩, ⟨1, 1⟩, ⟨7, 7⟩]) ∧ FcS y.1 y.2.2.1 factsB },
      x = .returned (.tuple #[.slice y.1.2.1.1 3 y.1.2.1.2, .slice y.1.2.2.1 7 y.1.2.2.2, .int .i64 (-1), .int .i64 0]) ∧ St y.1.1 L w' := by
  have := propagate_ok PB pcs pb_ok m1 hT hp L w hs
  rw [pb_b, pb_f, pb_n] at this
  exact this.mono fun x w' ⟨m', A, c, FA, fc, h1, h2, h3, h4, h5⟩ => ⟨⟨(m', (A, c), (FA, fc)), h1, h2, h3⟩, h4, h5⟩
theorem ws_c (hT : TabM m1) (hp : PbC m1 PA pcs) (hs : St m1 L w) :
    Calls Tryz.prog 9 #[.agg pcs, .int .i64 9] w fun x w' => ∃ y : { y : Mem × Option Addr × Nat // m1.Le y.1 ∧ SolS y.1 y.2.1 solsA ∧ 4 ≤ y.2.2 },
      x = .returned (.tuple #[.slice y.1.2.1 4 y.1.2.2, .int .i64 7, .int .i64 0]) ∧ St y.1.1 L w' := by
  have := solve_c PA pcs 9 (by decide) (by decide) m1 hT hp L w hs
  rw [pa_s] at this
  exact this
theorem wc_c (hT : TabM m1) (hp : PbC m1 PC pcs) (hs : St m1 L w) :
    Calls Tryz.prog 14 #[.agg pcs] w fun x w' => ∃ y : { y : Mem × Option Addr × Nat // m1.Le y.1 ∧ Sl y.1 1 y.2.1 (ints [0, 1, 3, 4]) },
      x = .returned (.tuple #[.slice y.1.2.1 4 y.1.2.2, .int .i64 0]) ∧ St y.1.1 L w' := by
  have := core_ok PC pcs pc_ok m1 hT hp L w hs
  rw [pc_c] at this
  exact this
/-- A list in memory and a literal, of ints. -/
theorem wi_c {A : Option Addr} {n c g T : Nat} (l : List Int) (hn : n = l.length) (hb : l.length ≤ 1000) (hA : Sl m1 1 A (ints l)) (cells : Array Value) (hc : cells = (ints l).flatten.toArray) (hs : St m1 (some (g, .cells cells T (0, 0)) :: L) w) :
    Calls Tryz.prog 24 #[.slice A n c, .slice (some ⟨g, 0, none⟩) n n] w fun x w' => x = .returned (.bool true) ∧ St m1 (some (g, .cells cells T (0, 0)) :: L) w' := by
  subst hc hn
  refine borrowV hs fun hs2 => ?_
  have := sameInts_c A (some ⟨g, 0, none⟩) c l.length l l _ (hA.mono (lend hs).1) (Sl.ofBlk (T := T) (fr := (0, 0)) (ints_len l) (by rw [ints_length]; omega) (Mem.put_same _ _ _)) _ w hs2
  rw [show decide (l = l) = true by simp] at this
  exact this
theorem wb_c {A : Option Addr} {c g T : Nat} (hA : Sl m1 2 A (bds [⟨6, 6⟩, ⟨1, 1⟩, ⟨7, 7⟩])) (hs : St m1 (some (g, .cells #[.int .u64 6, .int .u64 6, .int .u64 1, .int .u64 1, .int .u64 7, .int .u64 7] T (0, 0)) :: L) w) :
    Calls Tryz.prog 23 #[.slice A 3 c, .slice (some ⟨g, 0, none⟩) 3 3] w fun x w' => x = .returned (.bool true) ∧ St m1 (some (g, .cells #[.int .u64 6, .int .u64 6, .int .u64 1, .int .u64 1, .int .u64 7, .int .u64 7] T (0, 0)) :: L) w' := by
  refine borrowV hs fun hs2 => ?_
  have := sameBounds_c A (some ⟨g, 0, none⟩) c 3 [⟨6, 6⟩, ⟨1, 1⟩, ⟨7, 7⟩] [⟨6, 6⟩, ⟨1, 1⟩, ⟨7, 7⟩] _ (hA.mono (lend hs).1) (Sl.ofBlk (T := T) (fr := (0, 0)) (bds_len _) (by decide) (Mem.put_same _ _ _)) _ w hs2
  rw [show decide (([⟨6, 6⟩, ⟨1, 1⟩, ⟨7, 7⟩] : List Bd) = [⟨6, 6⟩, ⟨1, 1⟩, ⟨7, 7⟩]) = true by simp] at this
  exact this
theorem SolS.take {A : Option Addr} {l : List (List BV)} (h : SolS m A l) (k : Nat) : SolS m A (l.take k) := by
  obtain ⟨css, h1, h2, h3⟩ := h
  refine ⟨css.take k, Go.Proofs.YtgpgjpcebajofaaGreatDoor.Sl.take h1 k, by simp [h2], fun i t cs hi hj => ?_⟩
  rw [List.getElem?_take] at hi hj
  by_cases hk : i < k
  · rw [if_pos hk] at hi hj; exact h3 i t cs hi hj
  · rw [if_neg hk] at hi; cases hi
theorem wt_c {A : Option Addr} {c g1 g2 T1 T2 : Nat} (hA : SolS m1 A solsA) (hs : St m1 (some (g2, .cells #[.slice (some ⟨g1, 0, none⟩) 3 3] T2 (0, 0)) :: some (g1, .cells #[.int .u64 7, .int .u64 0, .int .u64 7] T1 (0, 0)) :: L) w) :
    Calls Tryz.prog 13 #[.slice A 1 c, .slice (some ⟨g2, 0, none⟩) 1 1] w fun x w' => x = .returned (.bool true) ∧ St m1 (some (g2, .cells #[.slice (some ⟨g1, 0, none⟩) 3 3] T2 (0, 0)) :: some (g1, .cells #[.int .u64 7, .int .u64 0, .int .u64 7] T1 (0, 0)) :: L) w' := by
  refine borrowV hs fun hs2 => borrowV hs2 fun hs3 => ?_
  have hl := (lend hs).1.trans (lend hs2).1
  have := sameSets_c A (some ⟨g2, 0, none⟩) c 1 [[7, 0, 7]] [[7, 0, 7]] _ ((hA.mono hl).take 1) ⟨[[.slice (some ⟨g1, 0, none⟩) 3 3]], Sl.ofBlk (T := T2) (fr := (0, 0)) (by simp) (by simp) ((lend hs2).1.blk _ _ (Mem.put_same _ _ _)), rfl, fun k l cs hk hc => ?_⟩ _ w hs3
  · rw [show decide (([[7, 0, 7]] : List (List BV)) = [[7, 0, 7]]) = true by simp] at this
    exact this
  · cases k with
    | zero =>
      simp at hk hc
      subst hk hc
      exact ⟨_, _, rfl, Sl.ofBlk (css := u64s [7, 0, 7]) (T := T1) (fr := (0, 0)) (by intro cs h; simp [u64s] at h; rcases h with rfl | rfl | rfl <;> rfl) (by decide) (Mem.put_same _ _ _)⟩
    | succ k => simp at hk
end
theorem works_c (m : Mem) (hT : TabM m) (L : Own) (w : World) (hs : St m L w) :
    Calls Tryz.prog 5 #[] w fun x w' => x = .returned (.bool true) ∧ St m L w' := by
  refine calls_of_TC (args := []) Tryz.func5 rfl Tryz.ntmps5 (Nat.le_of_ble_eq_true rfl) hs ?_
  repeat' (first | refine TC.seq ?_ | refine TC.region ?_ | refine TR.nil ?_ | refine Post.then_normal ?_ | (apply a_assign; exact a_assigns))
  (apply TR.ch1 (o := ⟨_, .call _, _, _, _, _⟩); exact rfl; exact rfl; exact rfl; exact Wd.plain rfl; exact EvC.callXS rfl rfl (fun w hs => A_p _ _ w hs); rintro pcs1)
  refine TR.of_exists (X := { y : Mem // m.Le y ∧ PbC y PA pcs1 }) (S' := fun y => St y.1 _) (fun w h => by obtain ⟨q, k1, k2, k3⟩ := h; exact ⟨⟨q, k1, k2⟩, k3⟩) ?_
  rintro ⟨m1, k1, hp1⟩
  simp only at k1 hp1 ⊢
  repeat' (first | (apply TR.ch1 (o := ⟨_, .buildSlice _ _ _, _, _, _, _⟩); exact rfl; exact rfl; exact rfl; (first | exact Wd.plain rfl | exact Wd.on rfl rfl rfl); exact EvC.buildN (n := 3) (sz := 1) (vs := [.int .u64 3, .int .u64 6, .int .u64 7]) (cells := #[.int .u64 3, .int .u64 6, .int .u64 7]) rfl (by decide) (by decide) (by kernel_rfl); intro g) | (apply a_call; exact EvC.callV rfl rfl (fun w hs => wh_c (hT.mono k1) hp1 _ _ hs); exact rfl; exact wd; rintro ⟨⟩) | refine TC.seq ?_ | refine TC.region ?_ | refine TR.nil ?_ | refine Post.then_normal ?_ | (apply a_move; exact a_moves) | (apply a_assign; exact a_assigns) | (apply a_extract; exact a_extracts))
  (apply TR.ch1 (o := ⟨_, .call _, _, _, _, _⟩); exact rfl; exact rfl; exact rfl; exact Wd.plain rfl; exact EvC.callXS rfl rfl (fun w hs => B_p _ _ w hs); rintro pcs2)
  refine TR.of_exists (X := { y : Mem // m1.Le y ∧ PbC y PB pcs2 }) (S' := fun y => St y.1 _) (fun w h => by obtain ⟨q, k1, k2, k3⟩ := h; exact ⟨⟨q, k1, k2⟩, k3⟩) ?_
  rintro ⟨m2, k2, hp2⟩
  simp only at k2 hp2 ⊢
  repeat' (first | (apply a_call; exact EvC.callX rfl rfl (fun w hs => wp_c (hT.mono (k1.trans k2)) hp2 hs); exact rfl; exact wd; rintro ⟨⟨m3, ⟨A3, c3⟩, ⟨FA, fc⟩⟩, k3, hb3, hf3⟩) | refine TC.seq ?_ | refine TC.region ?_ | refine TR.nil ?_ | refine Post.then_normal ?_ | (apply a_move; exact a_moves) | (apply a_assign; exact a_assigns) | (apply a_extract; exact a_extracts))
  simp only at k3 hb3 hf3 ⊢
  (apply TR.ch1 (o := ⟨_, .call _, _, _, _, _⟩); exact rfl; exact rfl; exact rfl; exact Wd.plain rfl; exact EvC.callXS rfl rfl (fun w hs => A_p _ _ w hs); rintro pcs4)
  refine TR.of_exists (X := { y : Mem // m3.Le y ∧ PbC y PA pcs4 }) (S' := fun y => St y.1 _) (fun w h => by obtain ⟨q, k1, k2, k3⟩ := h; exact ⟨⟨q, k1, k2⟩, k3⟩) ?_
  rintro ⟨m4, k4, hp4⟩
  simp only at k4 hp4 ⊢
  have hT4 := hT.mono ((k1.trans k2).trans (k3.trans k4))
  repeat' (first | (apply a_call; exact EvC.callX rfl rfl (fun w hs => ws_c hT4 hp4 hs); exact rfl; exact wd; rintro ⟨⟨m5, A5, c5⟩, k5, hs5, hc5⟩) | refine TC.seq ?_ | refine TC.region ?_ | refine TR.nil ?_ | refine Post.then_normal ?_ | (apply a_move; exact a_moves) | (apply a_assign; exact a_assigns) | (apply a_extract; exact a_extracts))
  simp only at k5 hs5 hc5 ⊢
  (apply TR.ch1 (o := ⟨_, .call _, _, _, _, _⟩); exact rfl; exact rfl; exact rfl; exact Wd.plain rfl; exact EvC.callXS rfl rfl (fun w hs => C_p _ _ w hs); rintro pcs6)
  refine TR.of_exists (X := { y : Mem // m5.Le y ∧ PbC y PC pcs6 }) (S' := fun y => St y.1 _) (fun w h => by obtain ⟨q, k1, k2, k3⟩ := h; exact ⟨⟨q, k1, k2⟩, k3⟩) ?_
  rintro ⟨m6, k6, hp6⟩
  simp only at k6 hp6 ⊢
  (apply TR.ch1 (o := ⟨_, .call _, _, _, _, _⟩); exact rfl; exact rfl; exact rfl; exact Wd.plain rfl; exact EvC.callXS rfl rfl (fun w hs => wc_c (hT4.mono (k5.trans k6)) hp6 hs); rintro ⟨⟨m7, A7, c7⟩, k7, hi7⟩)
  simp only at k7 hi7 ⊢
  have hb := hb3.mono (((k4.trans k5).trans k6).trans k7)
  have hf := hf3.mono (((k4.trans k5).trans k6).trans k7)
  have hss := hs5.mono (k6.trans k7)
  obtain ⟨gF, oF, blkF, TF, frF, W4, c4, rfl, hmF, hc4, hw4⟩ := hf.get (k := 4) (f := ⟨0, 1, true, 3, [1]⟩) rfl
  obtain ⟨gF', oF', blkF', TF', frF', W6, c6, he, hmF', hc6, hw6⟩ := hf.get (k := 6) (f := ⟨1, 2, false, 1, [5]⟩) rfl
  obtain ⟨rfl, rfl⟩ : gF = gF' ∧ oF = oF' := by injection he with he; injection he with a b _; exact ⟨a, b⟩
  rw [hmF] at hmF'
  obtain rfl : blkF = blkF' := by injection hmF' with h; injection h
  obtain ⟨gS, oS, blkS, TS, frS, WS, cS, rfl, _, _, _⟩ := hss.get (k := 0) (l := [7, 0, 7]) rfl
  have h41 : blkF[oF + Int.toNat 4 * 5 + 3]? = some (.int .i64 3) := hc4 3 _ rfl
  have h42 : blkF[oF + Int.toNat 4 * 5 + 4]? = some (.slice W4 1 c4) := hc4 4 _ rfl
  have h62 : blkF[oF + Int.toNat 6 * 5 + 4]? = some (.slice W6 1 c6) := hc6 4 _ rfl
  clear hmF' hc4 hc6
  repeat' (first | (apply TR.ch1; exact rfl; exact rfl; exact rfl; (first | exact Wd.plain rfl | exact Wd.on rfl rfl rfl); (first | exact EvC.buildN (n := 3) (sz := 2) (cells := #[.int .u64 6, .int .u64 6, .int .u64 1, .int .u64 1, .int .u64 7, .int .u64 7]) rfl (by decide) (by decide) (by kernel_rfl) | exact EvC.buildN (n := 3) (sz := 1) (vs := [.int .u64 7, .int .u64 0, .int .u64 7]) (cells := #[.int .u64 7, .int .u64 0, .int .u64 7]) rfl (by decide) (by decide) (by kernel_rfl) | exact EvC.buildN (n := 4) (sz := 1) (vs := [.int .i64 0, .int .i64 1, .int .i64 3, .int .i64 4]) (cells := #[.int .i64 0, .int .i64 1, .int .i64 3, .int .i64 4]) rfl (by decide) (by decide) (by kernel_rfl)); intro g) | (apply a_call; exact EvC.callV rfl rfl (fun w hs => wb_c hb hs); exact rfl; exact wd; rintro ⟨⟩) | (apply a_call; exact EvC.callV rfl rfl (fun w hs => wi_c [1] rfl (by decide) hw4 _ rfl hs); exact rfl; exact wd; rintro ⟨⟩) | (apply a_call; exact EvC.callV rfl rfl (fun w hs => wi_c [5] rfl (by decide) hw6 _ rfl hs); exact rfl; exact wd; rintro ⟨⟩) | (apply a_call; exact EvC.callV rfl rfl (fun w hs => wi_c [0, 1, 3, 4] rfl (by decide) hi7 _ rfl hs); exact rfl; exact wd; rintro ⟨⟩) | (apply a_call; exact EvC.callV rfl rfl (fun w hs => wt_c hss hs); exact rfl; exact wd; rintro ⟨⟩) | refine TC.seq ?_ | refine TC.region ?_ | refine TR.nil ?_ | refine Post.then_normal ?_ | refine TC.skip ?_ | refine TC.ret ?_ | (apply TC.cond_f; exact rfl) | (apply a_gt; exact a_gss; (first | exact rfl | assumption)) | (apply a_gf; exact a_gss; (first | exact rfl | assumption)) | (apply TR.st1; exact rfl; exact rfl; exact rfl; (first | exact Wd.plain rfl | exact Wd.on rfl rfl rfl); (first | exact EvS.buildV rfl (by kernel_rfl) | exact EvS.sliceHi (k := 1) rfl rfl rfl (by omega))) | (apply a_move; exact a_moves) | (apply a_assign; exact a_assigns) | (apply a_fieldAddr; exact a_fieldAddrs) | (apply a_load; exact a_loads) | (apply a_len; exact a_lens) | (apply a_beql; exact a_beqls) | (apply a_bneq; exact a_bneqs) | (apply a_pick; exact a_picks) | (apply a_indexAddr; exact a_indexAddrs) | (apply a_extract; exact a_extracts) | (apply c_build1; exact c_build1s; exact rfl; intro g))
  refine Post.body_ret _ (ResL.one rfl (ResV.tmp rfl)) ?_
  intro w h
  exact ⟨rfl, (h.tail.tail.tail.tail.tail.tail.tail).weaken ((((((k1.trans k2).trans k3).trans k4).trans k5).trans k6).trans k7)⟩
end Go.Proofs.YtgpgjpcebajofaaGreatDoor
