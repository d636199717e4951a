import Derived.Test.YtgpgjpcebajofaaGreatDoorZB
import Derived.Test.YtgpgjpcebajofaaGreatDoorZT
set_option linter.unusedVariables false
set_option linter.unusedSimpArgs false
set_option linter.all false
set_option maxHeartbeats 4000000
set_option linter.unusedVariables false
set_option linter.unusedSimpArgs false
set_option maxRecDepth 100000
namespace Go.Proofs.YtgpgjpcebajofaaGreatDoor
open Go Go.XC Go.RowKit Go.SetsP
attribute [local irreducible] Post TC TR D WL EvS EvC Wd ResL Code.wpIn Exit.then Exit.inBlock Exit.noGoto LoopK LoopP bodyPostM Reads Calls

theorem one_c (e : Int) (m : Mem) (L : Own) (w : World) (hs : St m L w) (h0 : 0 ≤ e) :
    Calls Tryz.prog 98 #[.int .i64 e] w fun r w' => r = .returned (.int .u64 ((1#64 <<< e.toNat).toNat : Int)) ∧ St m L w' := by
  refine calls_of_TC (args := [_]) Tryz.func98 rfl Tryz.ntmps98 (Nat.le_of_ble_eq_true rfl) hs ?_
  repeat' (first | refine TC.seq ?_ | refine TC.region ?_ | refine TR.nil ?_ | refine Post.then_normal ?_ | refine TC.ret ?_ | (apply a_move; exact a_moves) | (apply a_assign; exact a_assigns) | (apply a_bshl; exact a_bshls))
  exact Post.body_ret _ (ResL.one rfl (ResV.tmp rfl)) fun w h => ⟨rfl, h⟩

theorem within_c (n l h : Int) (m : Mem) (L : Own) (w : World) (hs : St m L w) :
    Calls Tryz.prog 44 #[.int .i64 n, .int .i64 l, .int .i64 h] w fun r w' => r = .returned (.bool (decide (l ≤ n ∧ n ≤ h))) ∧ St m L w' := by
  refine calls_of_TC (args := [_, _, _]) Tryz.func44 rfl Tryz.ntmps44 (Nat.le_of_ble_eq_true rfl) hs ?_
  repeat' (first | refine TC.seq ?_ | refine TC.region ?_ | refine TR.nil ?_ | refine Post.then_normal ?_ | refine TC.ret ?_ | (apply a_sk; exact a_sks) | (apply a_gs; exact a_gss; all_goals (intro h)) | (apply a_move; exact a_moves) | (apply a_assign; exact a_assigns) | (apply a_bleq; exact a_bleqs) | (apply a_bgeq; exact a_bgeqs) | (apply a_pick; exact a_picks))
  all_goals exact Post.body_ret _ (ResL.one rfl (ResV.tmp rfl)) fun w h => ⟨by congr 2; simp_all <;> omega, h⟩

theorem vars_c (k : Int) (m : Mem) (L : Own) (w : World) (hs : St m L w) :
    Calls Tryz.prog 96 #[.int .i64 k] w fun r w' => r = .returned (.int .i64 (varsZ k)) ∧ St m L w' := by
  refine calls_of_TC (args := [_]) Tryz.func96 rfl Tryz.ntmps96 (Nat.le_of_ble_eq_true rfl) hs ?_
  repeat' (first | refine TC.seq ?_ | refine TC.region ?_ | refine TR.nil ?_ | refine Post.then_normal ?_ | refine TC.block ?_ | refine TC.skip ?_ | refine TC.ret ?_ | (apply TC.cond_bt; exact rfl; assumption) | refine Post.then_ret ?_ | refine Post.block_normal ?_ | refine Post.block_ret ?_ | (apply TC.cond; exact rfl; all_goals (intro h)) | (apply a_move; exact a_moves) | (apply a_assign; exact a_assigns) | (apply a_beql; exact a_beqls))
  all_goals exact Post.body_ret _ (ResL.one rfl (ResV.tmp rfl)) fun w h => ⟨by unfold varsZ; simp_all, h⟩

theorem index_c (A : Option Addr) (c : Nat) (l : List Int) (v : Int) (m : Mem) (L : Own) (w : World) (hs : St m L w) (hA : Sl m 1 A (ints l)) :
    Calls Tryz.prog 114 #[.slice A l.length c, .int .i64 v] w fun r w' => r = .returned (.int .i64 (idx (fun x => v == x) l)) ∧ St m L w' := by
  have hbig : l.length ≤ 140737488355328 := by simpa [ints] using hA.big
  refine calls_of_TC (args := [_, _]) Tryz.func114 rfl Tryz.ntmps114 (Nat.le_of_ble_eq_true rfl) hs ?_
  repeat' (first | refine TC.seq ?_ | refine TC.region ?_ | refine TR.nil ?_ | refine Post.then_normal ?_ | refine TC.block ?_ | (apply a_move; exact a_moves) | (apply a_assign; exact a_assigns) | (apply a_len; exact a_lens))
  refine TC.loopP (X := Nat) (fun k => k ≤ l.length ∧ ∀ j y, j < k → l[j]? = some y → (v == y) = false) (fun k => [(8, .int .i64 (k : Int)), (7, .int .i64 (l.length : Int)), (0, .slice A l.length c), (1, .int .i64 v)]) (fun _ => St m L) (fun k => l.length - k) 0 ⟨by omega, fun j y h => by omega⟩ inc (fun w h => h) ?_
  rintro k ⟨hk, hno⟩
  by_cases hlt : k < l.length
  · obtain ⟨x, hx⟩ : ∃ x, l[k]? = some x := ⟨_, List.getElem?_eq_getElem hlt⟩
    obtain ⟨g, o, blk, T, fr, hAe, hm, hc⟩ := hA.get1 (k := k) (v := .int .i64 x) (by simp [ints, hx])
    have hd : decide ((k : Int) < (l.length : Int)) = true := by simpa using hlt
    repeat' (first | refine TC.seq ?_ | refine TC.region ?_ | refine TR.nil ?_ | refine Post.then_normal ?_ | refine TC.block ?_ | refine TC.skip ?_ | refine TC.ret ?_ | (apply TC.cond_bt; exact rfl; assumption) | refine Post.then_ret ?_ | refine Post.block_normal ?_ | refine Post.block_ret ?_ | (apply TC.cond; exact rfl; all_goals (intro h)) | (apply a_move; exact a_moves) | (apply a_assign; exact a_assigns) | (apply a_load; exact a_loads) | (apply a_beql; exact a_beqls) | (apply a_blss; exact a_blsss) | (apply a_badd; exact a_badds) | (apply a_indexAddr; exact a_indexAddrs))
    · refine Post.body_ret _ (ResL.one rfl (ResV.tmp rfl)) fun w h => ⟨?_, h⟩
      rw [idx_found hx (by assumption) hno]
    · refine Post.nextP (k + 1) ⟨by omega, fun j y hj hy => ?_⟩ inc (fun w h => h) (by omega)
      by_cases e : j = k
      · subst e; rw [hx] at hy; cases hy; assumption
      · exact hno j y (by omega) hy
  · have hd : decide ((k : Int) < (l.length : Int)) = false := by simpa using hlt
    repeat' (first | refine TC.seq ?_ | refine TC.region ?_ | refine TR.nil ?_ | refine Post.then_normal ?_ | refine TC.ret ?_ | refine TC.exit ?_ | (apply TC.cond_bf; exact rfl; assumption) | refine Post.then_exit ?_ | refine Post.block_here ?_ | (apply a_assign; exact a_assigns) | (apply a_blss; exact a_blsss))
    refine Post.body_ret _ (ResL.one rfl (ResV.tmp rfl)) fun w h => ⟨?_, h⟩
    rw [idx_none]
    intro j y hj
    exact hno j y (by omega)
end Go.Proofs.YtgpgjpcebajofaaGreatDoor
set_option maxHeartbeats 4000000
set_option linter.unusedVariables false
set_option linter.unusedSimpArgs false
set_option maxRecDepth 100000
namespace Go.Proofs.YtgpgjpcebajofaaGreatDoor
open Go Go.XC Go.RowKit Go.SetsP
attribute [local irreducible] Post TC TR D WL EvS EvC Wd ResL Code.wpIn Exit.then Exit.inBlock Exit.noGoto LoopK LoopP bodyPostM Reads Calls

theorem sub_c (a b c : Bool) (m : Mem) (L : Own) (w : World) (hs : St m L w) :
    Calls Tryz.prog 106 #[.agg #[.bool a, .bool b, .bool c]] w fun r w' => r = .returned (.bool (!a || b)) ∧ St m L w' := by
  refine calls_of_TC (args := [_]) Tryz.func106 rfl Tryz.ntmps106 (Nat.le_of_ble_eq_true rfl) hs ?_
  repeat' (first | refine TC.seq ?_ | refine TC.region ?_ | refine TR.nil ?_ | refine Post.then_normal ?_ | refine TC.ret ?_ | (apply a_sk; exact a_sks) | (apply a_gs; exact a_gss; all_goals (intro h)) | (apply a_assign; exact a_assigns) | (apply a_fieldAddr; exact a_fieldAddrs) | (apply a_load; exact a_loads) | (apply a_unOp; exact a_unOps) | (apply a_pick; exact a_picks) | (apply c_boxA; exact c_boxAs; exact rfl; intro g))
  all_goals (refine Post.body_ret _ (ResL.one rfl (ResV.tmp rfl)) ?_; intro wR hR; exact ⟨by congr 2; simp_all [Value.cells], (by repeat first | exact hR | replace hR := hR.tail)⟩)

theorem apart_c (a b c : Bool) (m : Mem) (L : Own) (w : World) (hs : St m L w) :
    Calls Tryz.prog 107 #[.agg #[.bool a, .bool b, .bool c]] w fun r w' => r = .returned (.bool (!a || !b)) ∧ St m L w' := by
  refine calls_of_TC (args := [_]) Tryz.func107 rfl Tryz.ntmps107 (Nat.le_of_ble_eq_true rfl) hs ?_
  repeat' (first | refine TC.seq ?_ | refine TC.region ?_ | refine TR.nil ?_ | refine Post.then_normal ?_ | refine TC.ret ?_ | (apply a_sk; exact a_sks) | (apply a_gs; exact a_gss; all_goals (intro h)) | (apply a_assign; exact a_assigns) | (apply a_fieldAddr; exact a_fieldAddrs) | (apply a_load; exact a_loads) | (apply a_unOp; exact a_unOps) | (apply a_pick; exact a_picks) | (apply c_boxA; exact c_boxAs; exact rfl; intro g))
  all_goals (refine Post.body_ret _ (ResL.one rfl (ResV.tmp rfl)) ?_; intro wR hR; exact ⟨by congr 2; simp_all [Value.cells], (by repeat first | exact hR | replace hR := hR.tail)⟩)

theorem join_c (a b c : Bool) (m : Mem) (L : Own) (w : World) (hs : St m L w) :
    Calls Tryz.prog 108 #[.agg #[.bool a, .bool b, .bool c]] w fun r w' => r = .returned (.bool (c == (a || b))) ∧ St m L w' := by
  refine calls_of_TC (args := [_]) Tryz.func108 rfl Tryz.ntmps108 (Nat.le_of_ble_eq_true rfl) hs ?_
  repeat' (first | refine TC.seq ?_ | refine TC.region ?_ | refine TR.nil ?_ | refine Post.then_normal ?_ | refine TC.ret ?_ | (apply a_sk; exact a_sks) | (apply a_gs; exact a_gss; all_goals (intro h)) | (apply a_assign; exact a_assigns) | (apply a_fieldAddr; exact a_fieldAddrs) | (apply a_load; exact a_loads) | (apply a_beql; exact a_beqls) | (apply a_pick; exact a_picks) | (apply c_boxA; exact c_boxAs; exact rfl; intro g))
  all_goals (refine Post.body_ret _ (ResL.one rfl (ResV.tmp rfl)) ?_; intro wR hR; exact ⟨by congr 2; simp_all [Value.cells], (by repeat first | exact hR | replace hR := hR.tail)⟩)

theorem meet_c (a b c : Bool) (m : Mem) (L : Own) (w : World) (hs : St m L w) :
    Calls Tryz.prog 109 #[.agg #[.bool a, .bool b, .bool c]] w fun r w' => r = .returned (.bool (c == (a && b))) ∧ St m L w' := by
  refine calls_of_TC (args := [_]) Tryz.func109 rfl Tryz.ntmps109 (Nat.le_of_ble_eq_true rfl) hs ?_
  repeat' (first | refine TC.seq ?_ | refine TC.region ?_ | refine TR.nil ?_ | refine Post.then_normal ?_ | refine TC.ret ?_ | (apply a_sk; exact a_sks) | (apply a_gs; exact a_gss; all_goals (intro h)) | (apply a_assign; exact a_assigns) | (apply a_fieldAddr; exact a_fieldAddrs) | (apply a_load; exact a_loads) | (apply a_beql; exact a_beqls) | (apply a_pick; exact a_picks) | (apply c_boxA; exact c_boxAs; exact rfl; intro g))
  all_goals (refine Post.body_ret _ (ResL.one rfl (ResV.tmp rfl)) ?_; intro wR hR; exact ⟨by congr 2; simp_all [Value.cells], (by repeat first | exact hR | replace hR := hR.tail)⟩)

theorem less_c (a b c : Bool) (m : Mem) (L : Own) (w : World) (hs : St m L w) :
    Calls Tryz.prog 110 #[.agg #[.bool a, .bool b, .bool c]] w fun r w' => r = .returned (.bool (c == (a && !b))) ∧ St m L w' := by
  refine calls_of_TC (args := [_]) Tryz.func110 rfl Tryz.ntmps110 (Nat.le_of_ble_eq_true rfl) hs ?_
  repeat' (first | refine TC.seq ?_ | refine TC.region ?_ | refine TR.nil ?_ | refine Post.then_normal ?_ | refine TC.ret ?_ | (apply a_sk; exact a_sks) | (apply a_gs; exact a_gss; all_goals (intro h)) | (apply a_assign; exact a_assigns) | (apply a_fieldAddr; exact a_fieldAddrs) | (apply a_load; exact a_loads) | (apply a_unOp; exact a_unOps) | (apply a_beql; exact a_beqls) | (apply a_pick; exact a_picks) | (apply c_boxA; exact c_boxAs; exact rfl; intro g))
  all_goals (refine Post.body_ret _ (ResL.one rfl (ResV.tmp rfl)) ?_; intro wR hR; exact ⟨by congr 2; simp_all [Value.cells], (by repeat first | exact hR | replace hR := hR.tail)⟩)

/-- The function of a kind. -/
def askF (k : Int) : FuncId := if k = 1 then 106 else if k = 2 then 107 else if k = 3 then 108 else if k = 4 then 109 else 110
theorem kind5 {k : Int} (h1 : 1 ≤ k) (h5 : k ≤ 5) : k = 1 ∨ k = 2 ∨ k = 3 ∨ k = 4 ∨ k = 5 := by omega
theorem askF_enters {k : Int} (h1 : 1 ≤ k) (h5 : k ≤ 5) : EntersF Tryz.prog (askF k) := by
  rcases kind5 h1 h5 with rfl | rfl | rfl | rfl | rfl <;> (unfold askF; simp; infer_instance)
theorem ask_c {k : Int} (h1 : 1 ≤ k) (h5 : k ≤ 5) (a b c : Bool) (m : Mem) (L : Own) (w : World) (hs : St m L w) :
    Calls Tryz.prog (askF k) #[.agg #[.bool a, .bool b, .bool c]] w fun r w' => r = .returned (.bool (asksB k a b c)) ∧ St m L w' := by
  rcases kind5 h1 h5 with rfl | rfl | rfl | rfl | rfl
  · exact sub_c a b c m L w hs
  · exact apart_c a b c m L w hs
  · exact join_c a b c m L w hs
  · exact meet_c a b c m L w hs
  · exact less_c a b c m L w hs
theorem asked_c {k : Int} (h1 : 1 ≤ k) (h5 : k ≤ 5) (m : Mem) (L : Own) (w : World) (hs : St m L w) :
    Calls Tryz.prog 91 #[.int .i64 k] w fun r w' => r = .returned (.func (.func (askF k)) #[] #[]) ∧ St m L w' := by
  rcases kind5 h1 h5 with rfl | rfl | rfl | rfl | rfl
  · refine calls_of_TC (args := [_]) Tryz.func91 rfl Tryz.ntmps91 (Nat.le_of_ble_eq_true rfl) hs ?_
    repeat' (first | refine TR.ch0 rfl rfl (by first | exact Wd.plain rfl | exact Wd.on rfl rfl rfl) (EvC.insertI rfl rfl rfl rfl (by repeat first | exact Upd.head | apply Upd.tail)) ?_; intro _u | refine TC.seq ?_ | refine TC.region ?_ | refine TR.nil ?_ | refine Post.then_normal ?_ | refine TC.ret ?_ | (apply TR.st1 (o := ⟨_, _, _, _, _, _⟩); exact rfl; exact rfl; exact rfl; (first | exact Wd.plain rfl | exact Wd.on rfl rfl rfl); exact EvS.lookupI rfl rfl (by first | exact Reads.own (by repeat first | exact List.Mem.head _ | assumption | apply List.Mem.tail) | exact Reads.ownX (by repeat first | exact List.Mem.head _ | assumption | apply List.Mem.tail) | exact Reads.mem (by assumption) | exact Reads.memX (by assumption)) rfl) | (apply a_move; exact a_moves) | (apply a_assign; exact a_assigns) | (apply c_makeMap; exact c_makeMaps; exact rfl; intro g))
    refine Post.body_ret (.func (.func (askF 1)) #[] #[]) (ResL.one rfl (ResV.tmp rfl)) ?_
    intro w h; exact ⟨rfl, (by repeat first | exact h | replace h := h.tail)⟩
  · refine calls_of_TC (args := [_]) Tryz.func91 rfl Tryz.ntmps91 (Nat.le_of_ble_eq_true rfl) hs ?_
    repeat' (first | refine TR.ch0 rfl rfl (by first | exact Wd.plain rfl | exact Wd.on rfl rfl rfl) (EvC.insertI rfl rfl rfl rfl (by repeat first | exact Upd.head | apply Upd.tail)) ?_; intro _u | refine TC.seq ?_ | refine TC.region ?_ | refine TR.nil ?_ | refine Post.then_normal ?_ | refine TC.ret ?_ | (apply TR.st1 (o := ⟨_, _, _, _, _, _⟩); exact rfl; exact rfl; exact rfl; (first | exact Wd.plain rfl | exact Wd.on rfl rfl rfl); exact EvS.lookupI rfl rfl (by first | exact Reads.own (by repeat first | exact List.Mem.head _ | assumption | apply List.Mem.tail) | exact Reads.ownX (by repeat first | exact List.Mem.head _ | assumption | apply List.Mem.tail) | exact Reads.mem (by assumption) | exact Reads.memX (by assumption)) rfl) | (apply a_move; exact a_moves) | (apply a_assign; exact a_assigns) | (apply c_makeMap; exact c_makeMaps; exact rfl; intro g))
    refine Post.body_ret (.func (.func (askF 2)) #[] #[]) (ResL.one rfl (ResV.tmp rfl)) ?_
    intro w h; exact ⟨rfl, (by repeat first | exact h | replace h := h.tail)⟩
  · refine calls_of_TC (args := [_]) Tryz.func91 rfl Tryz.ntmps91 (Nat.le_of_ble_eq_true rfl) hs ?_
    repeat' (first | refine TR.ch0 rfl rfl (by first | exact Wd.plain rfl | exact Wd.on rfl rfl rfl) (EvC.insertI rfl rfl rfl rfl (by repeat first | exact Upd.head | apply Upd.tail)) ?_; intro _u | refine TC.seq ?_ | refine TC.region ?_ | refine TR.nil ?_ | refine Post.then_normal ?_ | refine TC.ret ?_ | (apply TR.st1 (o := ⟨_, _, _, _, _, _⟩); exact rfl; exact rfl; exact rfl; (first | exact Wd.plain rfl | exact Wd.on rfl rfl rfl); exact EvS.lookupI rfl rfl (by first | exact Reads.own (by repeat first | exact List.Mem.head _ | assumption | apply List.Mem.tail) | exact Reads.ownX (by repeat first | exact List.Mem.head _ | assumption | apply List.Mem.tail) | exact Reads.mem (by assumption) | exact Reads.memX (by assumption)) rfl) | (apply a_move; exact a_moves) | (apply a_assign; exact a_assigns) | (apply c_makeMap; exact c_makeMaps; exact rfl; intro g))
    refine Post.body_ret (.func (.func (askF 3)) #[] #[]) (ResL.one rfl (ResV.tmp rfl)) ?_
    intro w h; exact ⟨rfl, (by repeat first | exact h | replace h := h.tail)⟩
  · refine calls_of_TC (args := [_]) Tryz.func91 rfl Tryz.ntmps91 (Nat.le_of_ble_eq_true rfl) hs ?_
    repeat' (first | refine TR.ch0 rfl rfl (by first | exact Wd.plain rfl | exact Wd.on rfl rfl rfl) (EvC.insertI rfl rfl rfl rfl (by repeat first | exact Upd.head | apply Upd.tail)) ?_; intro _u | refine TC.seq ?_ | refine TC.region ?_ | refine TR.nil ?_ | refine Post.then_normal ?_ | refine TC.ret ?_ | (apply TR.st1 (o := ⟨_, _, _, _, _, _⟩); exact rfl; exact rfl; exact rfl; (first | exact Wd.plain rfl | exact Wd.on rfl rfl rfl); exact EvS.lookupI rfl rfl (by first | exact Reads.own (by repeat first | exact List.Mem.head _ | assumption | apply List.Mem.tail) | exact Reads.ownX (by repeat first | exact List.Mem.head _ | assumption | apply List.Mem.tail) | exact Reads.mem (by assumption) | exact Reads.memX (by assumption)) rfl) | (apply a_move; exact a_moves) | (apply a_assign; exact a_assigns) | (apply c_makeMap; exact c_makeMaps; exact rfl; intro g))
    refine Post.body_ret (.func (.func (askF 4)) #[] #[]) (ResL.one rfl (ResV.tmp rfl)) ?_
    intro w h; exact ⟨rfl, (by repeat first | exact h | replace h := h.tail)⟩
  · refine calls_of_TC (args := [_]) Tryz.func91 rfl Tryz.ntmps91 (Nat.le_of_ble_eq_true rfl) hs ?_
    repeat' (first | refine TR.ch0 rfl rfl (by first | exact Wd.plain rfl | exact Wd.on rfl rfl rfl) (EvC.insertI rfl rfl rfl rfl (by repeat first | exact Upd.head | apply Upd.tail)) ?_; intro _u | refine TC.seq ?_ | refine TC.region ?_ | refine TR.nil ?_ | refine Post.then_normal ?_ | refine TC.ret ?_ | (apply TR.st1 (o := ⟨_, _, _, _, _, _⟩); exact rfl; exact rfl; exact rfl; (first | exact Wd.plain rfl | exact Wd.on rfl rfl rfl); exact EvS.lookupI rfl rfl (by first | exact Reads.own (by repeat first | exact List.Mem.head _ | assumption | apply List.Mem.tail) | exact Reads.ownX (by repeat first | exact List.Mem.head _ | assumption | apply List.Mem.tail) | exact Reads.mem (by assumption) | exact Reads.memX (by assumption)) rfl) | (apply a_move; exact a_moves) | (apply a_assign; exact a_assigns) | (apply c_makeMap; exact c_makeMaps; exact rfl; intro g))
    refine Post.body_ret (.func (.func (askF 5)) #[] #[]) (ResL.one rfl (ResV.tmp rfl)) ?_
    intro w h; exact ⟨rfl, (by repeat first | exact h | replace h := h.tail)⟩

theorem clash1_c (x : Bd) (m : Mem) (L : Own) (w : World) (hs : St m L w) :
    Calls Tryz.prog 105 #[bdV x] w fun r w' => r = .returned (.bool (clashB x)) ∧ St m L w' := by
  unfold bdV
  refine calls_of_TC (args := [_]) Tryz.func105 rfl Tryz.ntmps105 (Nat.le_of_ble_eq_true rfl) hs ?_
  repeat' (first | refine TC.seq ?_ | refine TC.region ?_ | refine TR.nil ?_ | refine Post.then_normal ?_ | refine TC.ret ?_ | (apply a_assign; exact a_assigns) | (apply a_fieldAddr; exact a_fieldAddrs) | (apply a_load; exact a_loads) | (apply a_bneq; exact a_bneqs) | (apply a_bandNot; exact a_bandNots) | (apply c_boxA; exact c_boxAs; exact rfl; intro g))
  (refine Post.body_ret _ (ResL.one rfl (ResV.tmp rfl)) ?_; intro wR hR; exact ⟨rfl, (by repeat first | exact hR | replace hR := hR.tail)⟩)
end Go.Proofs.YtgpgjpcebajofaaGreatDoor
set_option maxHeartbeats 4000000
set_option linter.unusedVariables false
set_option linter.unusedSimpArgs false
set_option maxRecDepth 100000
namespace Go.Proofs.YtgpgjpcebajofaaGreatDoor
open Go Go.XC Go.RowKit Go.SetsP
attribute [local irreducible] Post TC TR D WL EvS EvC Wd ResL Code.wpIn Exit.then Exit.inBlock Exit.noGoto LoopK LoopP bodyPostM Reads Calls

theorem contains_c (A : Option Addr) (c : Nat) (l : List Int) (v : Int) (m : Mem) (L : Own) (w : World) (hs : St m L w) (hA : Sl m 1 A (ints l)) :
    Calls Tryz.prog 97 #[.slice A l.length c, .int .i64 v] w fun r w' => r = .returned (.bool (l.contains v)) ∧ St m L w' := by
  refine calls_of_TC (args := [_, _]) Tryz.func97 rfl Tryz.ntmps97 (Nat.le_of_ble_eq_true rfl) hs ?_
  repeat' (first | (apply a_call; exact EvC.callV rfl rfl (fun w hs => index_c _ _ _ _ _ _ _ hs hA); exact rfl; exact wd; rintro ⟨⟩) | refine TC.seq ?_ | refine TC.region ?_ | refine TR.nil ?_ | refine Post.then_normal ?_ | refine TC.ret ?_ | (apply a_move; exact a_moves) | (apply a_assign; exact a_assigns) | (apply a_bgeq; exact a_bgeqs))
  (refine Post.body_ret _ (ResL.one rfl (ResV.tmp rfl)) ?_; intro wR hR; exact ⟨by rw [idx_nonneg]; congr 2; rw [Bool.eq_iff_iff]; simp, (by repeat first | exact hR | replace hR := hR.tail)⟩)

def rlV (r : Rl) (B : Option Addr) (c : Nat) : Value := .agg #[.int .i64 r.kind, .slice B r.vars.length c, .int .i64 r.low, .int .i64 r.high]
def u64s (l : List BV) : List (List Value) := l.map fun x => [u64v x]

theorem indexBd_c (f : FuncId) (cap : Array Value) [hf : EntersF Tryz.prog f] (p : Bd → Bool) (A : Option Addr) (c : Nat) (l : List Bd) (m : Mem) (L : Own) (w : World) (hs : St m L w) (hA : Sl m 2 A (bds l))
    (hp : ∀ x, x ∈ l → ∀ w, St m L w → Calls Tryz.prog f (#[bdV x] ++ cap) w fun r w' => r = .returned (.bool (p x)) ∧ St m L w') :
    Calls Tryz.prog 71 #[.slice A l.length c, .func (.func f) #[] cap] w fun r w' => r = .returned (.int .i64 (idx p l)) ∧ St m L w' := by
  have hbig : l.length ≤ 140737488355328 := by simpa [bds] using hA.big
  refine calls_of_TC (args := [_, _]) Tryz.func71 rfl Tryz.ntmps71 (Nat.le_of_ble_eq_true rfl) hs ?_
  repeat' (first | refine TC.seq ?_ | refine TC.region ?_ | refine TR.nil ?_ | refine Post.then_normal ?_ | refine TC.block ?_ | (apply a_move; exact a_moves) | (apply a_assign; exact a_assigns) | (apply a_len; exact a_lens))
  refine TC.loopP (X := Nat) (fun k => k ≤ l.length ∧ ∀ j y, j < k → l[j]? = some y → p y = false) (fun k => [(8, .int .i64 (k : Int)), (7, .int .i64 (l.length : Int)), (0, .slice A l.length c), (1, .func (.func f) #[] cap)]) (fun _ => St m L) (fun k => l.length - k) 0 ⟨by omega, fun j y h => by omega⟩ inc (fun w h => h) ?_
  rintro k ⟨hk, hno⟩
  by_cases hlt : k < l.length
  · obtain ⟨x, hx⟩ : ∃ x, l[k]? = some x := ⟨_, List.getElem?_eq_getElem hlt⟩
    obtain ⟨g, o, blk, T, fr, hAe, hm, hc⟩ := hA.get (k := k) (cs := bdC x) (by simp [bds, hx])
    replace hc : CellsAt blk (o + (k : Int).toNat * 2) #[.int .u64 (x.lo.toNat : Int), .int .u64 (x.can.toNat : Int)] := hc
    have hd : decide ((k : Int) < (l.length : Int)) = true := by simpa using hlt
    repeat' (first | (apply a_call; exact EvC.callC rfl rfl (fun w hs => hp x (List.mem_of_getElem? hx) w hs); exact rfl; exact wd; rintro ⟨⟩) | refine TC.seq ?_ | refine TC.region ?_ | refine TR.nil ?_ | refine Post.then_normal ?_ | refine TC.block ?_ | refine TC.skip ?_ | refine TC.ret ?_ | (apply TC.cond_bt; exact rfl; assumption) | refine Post.then_ret ?_ | refine Post.block_normal ?_ | refine Post.block_ret ?_ | (apply TC.cond; exact rfl; all_goals (intro h)) | (apply a_move; exact a_moves) | (apply a_assign; exact a_assigns) | (apply a_load; exact a_loads) | (apply a_blss; exact a_blsss) | (apply a_badd; exact a_badds) | (apply a_indexAddr; exact a_indexAddrs))
    · refine Post.body_ret _ (ResL.one rfl (ResV.tmp rfl)) fun w h => ⟨?_, h⟩
      rw [idx_found hx (by assumption) hno]
    · refine Post.nextP (k + 1) ⟨by omega, fun j y hj hy => ?_⟩ inc (fun w h => h) (by omega)
      by_cases e : j = k
      · subst e; rw [hx] at hy; cases hy; assumption
      · exact hno j y (by omega) hy
  · have hd : decide ((k : Int) < (l.length : Int)) = false := by simpa using hlt
    repeat' (first | refine TC.seq ?_ | refine TC.region ?_ | refine TR.nil ?_ | refine Post.then_normal ?_ | refine TC.ret ?_ | refine TC.exit ?_ | (apply TC.cond_bf; exact rfl; assumption) | refine Post.then_exit ?_ | refine Post.block_here ?_ | (apply a_assign; exact a_assigns) | (apply a_blss; exact a_blsss))
    refine Post.body_ret _ (ResL.one rfl (ResV.tmp rfl)) fun w h => ⟨?_, h⟩
    rw [idx_none]
    intro j y hj
    exact hno j y (by omega)
theorem indexU_c (f : FuncId) (cap : Array Value) [hf : EntersF Tryz.prog f] (p : BV → Bool) (A : Option Addr) (c : Nat) (l : List BV) (m : Mem) (L : Own) (w : World) (hs : St m L w) (hA : Sl m 1 A (u64s l))
    (hp : ∀ x, x ∈ l → ∀ w, St m L w → Calls Tryz.prog f (#[u64v x] ++ cap) w fun r w' => r = .returned (.bool (p x)) ∧ St m L w') :
    Calls Tryz.prog 87 #[.slice A l.length c, .func (.func f) #[] cap] w fun r w' => r = .returned (.int .i64 (idx p l)) ∧ St m L w' := by
  have hbig : l.length ≤ 140737488355328 := by simpa [u64s] using hA.big
  refine calls_of_TC (args := [_, _]) Tryz.func87 rfl Tryz.ntmps87 (Nat.le_of_ble_eq_true rfl) hs ?_
  repeat' (first | refine TC.seq ?_ | refine TC.region ?_ | refine TR.nil ?_ | refine Post.then_normal ?_ | refine TC.block ?_ | (apply a_move; exact a_moves) | (apply a_assign; exact a_assigns) | (apply a_len; exact a_lens))
  refine TC.loopP (X := Nat) (fun k => k ≤ l.length ∧ ∀ j y, j < k → l[j]? = some y → p y = false) (fun k => [(8, .int .i64 (k : Int)), (7, .int .i64 (l.length : Int)), (0, .slice A l.length c), (1, .func (.func f) #[] cap)]) (fun _ => St m L) (fun k => l.length - k) 0 ⟨by omega, fun j y h => by omega⟩ inc (fun w h => h) ?_
  rintro k ⟨hk, hno⟩
  by_cases hlt : k < l.length
  · obtain ⟨x, hx⟩ : ∃ x, l[k]? = some x := ⟨_, List.getElem?_eq_getElem hlt⟩
    obtain ⟨g, o, blk, T, fr, hAe, hm, hc⟩ := hA.get1 (k := k) (v := .int .u64 (x.toNat : Int)) (by simp [u64s, u64v, hx])
    have hd : decide ((k : Int) < (l.length : Int)) = true := by simpa using hlt
    repeat' (first | (apply a_call; exact EvC.callC rfl rfl (fun w hs => hp x (List.mem_of_getElem? hx) w hs); exact rfl; exact wd; rintro ⟨⟩) | refine TC.seq ?_ | refine TC.region ?_ | refine TR.nil ?_ | refine Post.then_normal ?_ | refine TC.block ?_ | refine TC.skip ?_ | refine TC.ret ?_ | (apply TC.cond_bt; exact rfl; assumption) | refine Post.then_ret ?_ | refine Post.block_normal ?_ | refine Post.block_ret ?_ | (apply TC.cond; exact rfl; all_goals (intro h)) | (apply a_move; exact a_moves) | (apply a_assign; exact a_assigns) | (apply a_load; exact a_loads) | (apply a_blss; exact a_blsss) | (apply a_badd; exact a_badds) | (apply a_indexAddr; exact a_indexAddrs))
    · refine Post.body_ret _ (ResL.one rfl (ResV.tmp rfl)) fun w h => ⟨?_, h⟩
      rw [idx_found hx (by assumption) hno]
    · refine Post.nextP (k + 1) ⟨by omega, fun j y hj hy => ?_⟩ inc (fun w h => h) (by omega)
      by_cases e : j = k
      · subst e; rw [hx] at hy; cases hy; assumption
      · exact hno j y (by omega) hy
  · have hd : decide ((k : Int) < (l.length : Int)) = false := by simpa using hlt
    repeat' (first | refine TC.seq ?_ | refine TC.region ?_ | refine TR.nil ?_ | refine Post.then_normal ?_ | refine TC.ret ?_ | refine TC.exit ?_ | (apply TC.cond_bf; exact rfl; assumption) | refine Post.then_exit ?_ | refine Post.block_here ?_ | (apply a_assign; exact a_assigns) | (apply a_blss; exact a_blsss))
    refine Post.body_ret _ (ResL.one rfl (ResV.tmp rfl)) fun w h => ⟨?_, h⟩
    rw [idx_none]
    intro j y hj
    exact hno j y (by omega)
theorem indexRl_c (f : FuncId) (cap : Array Value) [hf : EntersF Tryz.prog f] (p : Rl → Bool) (A : Option Addr) (c : Nat) (l : List Rl) (m : Mem) (L : Own) (w : World) (hs : St m L w) (hA : RlS m A l)
    (hp : ∀ x B c, x ∈ l → (Sl m 1 B (ints x.vars) ∧ x.vars.length ≤ c) → ∀ w, St m L w → Calls Tryz.prog f (#[rlV x B c] ++ cap) w fun r w' => r = .returned (.bool (p x)) ∧ St m L w') :
    Calls Tryz.prog 57 #[.slice A l.length c, .func (.func f) #[] cap] w fun r w' => r = .returned (.int .i64 (idx p l)) ∧ St m L w' := by
  have hbig : l.length ≤ 140737488355328 := hA.big
  refine calls_of_TC (args := [_, _]) Tryz.func57 rfl Tryz.ntmps57 (Nat.le_of_ble_eq_true rfl) hs ?_
  repeat' (first | refine TC.seq ?_ | refine TC.region ?_ | refine TR.nil ?_ | refine Post.then_normal ?_ | refine TC.block ?_ | (apply a_move; exact a_moves) | (apply a_assign; exact a_assigns) | (apply a_len; exact a_lens))
  refine TC.loopP (X := Nat) (fun k => k ≤ l.length ∧ ∀ j y, j < k → l[j]? = some y → p y = false) (fun k => [(8, .int .i64 (k : Int)), (7, .int .i64 (l.length : Int)), (0, .slice A l.length c), (1, .func (.func f) #[] cap)]) (fun _ => St m L) (fun k => l.length - k) 0 ⟨by omega, fun j y h => by omega⟩ inc (fun w h => h) ?_
  rintro k ⟨hk, hno⟩
  by_cases hlt : k < l.length
  · obtain ⟨x, hx⟩ : ∃ x, l[k]? = some x := ⟨_, List.getElem?_eq_getElem hlt⟩
    obtain ⟨g, o, blk, T, fr, B, c', hAe, hm, hc, hB⟩ := hA.get (k := k) hx
    have hd : decide ((k : Int) < (l.length : Int)) = true := by simpa using hlt
    repeat' (first | (apply a_call; exact EvC.callC rfl rfl (fun w hs => hp x _ _ (List.mem_of_getElem? hx) hB w hs); exact rfl; exact wd; rintro ⟨⟩) | refine TC.seq ?_ | refine TC.region ?_ | refine TR.nil ?_ | refine Post.then_normal ?_ | refine TC.block ?_ | refine TC.skip ?_ | refine TC.ret ?_ | (apply TC.cond_bt; exact rfl; assumption) | refine Post.then_ret ?_ | refine Post.block_normal ?_ | refine Post.block_ret ?_ | (apply TC.cond; exact rfl; all_goals (intro h)) | (apply a_move; exact a_moves) | (apply a_assign; exact a_assigns) | (apply a_load; exact a_loads) | (apply a_blss; exact a_blsss) | (apply a_badd; exact a_badds) | (apply a_indexAddr; exact a_indexAddrs))
    · refine Post.body_ret _ (ResL.one rfl (ResV.tmp rfl)) fun w h => ⟨?_, h⟩
      rw [idx_found hx (by assumption) hno]
    · refine Post.nextP (k + 1) ⟨by omega, fun j y hj hy => ?_⟩ inc (fun w h => h) (by omega)
      by_cases e : j = k
      · subst e; rw [hx] at hy; cases hy; assumption
      · exact hno j y (by omega) hy
  · have hd : decide ((k : Int) < (l.length : Int)) = false := by simpa using hlt
    repeat' (first | refine TC.seq ?_ | refine TC.region ?_ | refine TR.nil ?_ | refine Post.then_normal ?_ | refine TC.ret ?_ | refine TC.exit ?_ | (apply TC.cond_bf; exact rfl; assumption) | refine Post.then_exit ?_ | refine Post.block_here ?_ | (apply a_assign; exact a_assigns) | (apply a_blss; exact a_blsss))
    refine Post.body_ret _ (ResL.one rfl (ResV.tmp rfl)) fun w h => ⟨?_, h⟩
    rw [idx_none]
    intro j y hj
    exact hno j y (by omega)

theorem containsBd_c (f : FuncId) (cap : Array Value) [hf : EntersF Tryz.prog f] (p : Bd → Bool) (A : Option Addr) (c : Nat) (l : List Bd) (m : Mem) (L : Own) (w : World) (hs : St m L w) (hA : Sl m 2 A (bds l))
    (hp : ∀ x, x ∈ l → ∀ w, St m L w → Calls Tryz.prog f (#[bdV x] ++ cap) w fun r w' => r = .returned (.bool (p x)) ∧ St m L w') :
    Calls Tryz.prog 104 #[.slice A l.length c, .func (.func f) #[] cap] w fun r w' => r = .returned (.bool (l.any p)) ∧ St m L w' := by
  refine calls_of_TC (args := [_, _]) Tryz.func104 rfl Tryz.ntmps104 (Nat.le_of_ble_eq_true rfl) hs ?_
  repeat' (first | (apply a_call; exact EvC.callV rfl rfl (fun w hs => indexBd_c f cap p _ _ _ _ _ _ hs hA hp); exact rfl; exact wd; rintro ⟨⟩) | refine TC.seq ?_ | refine TC.region ?_ | refine TR.nil ?_ | refine Post.then_normal ?_ | refine TC.ret ?_ | (apply a_move; exact a_moves) | (apply a_assign; exact a_assigns) | (apply a_bgeq; exact a_bgeqs))
  (refine Post.body_ret _ (ResL.one rfl (ResV.tmp rfl)) ?_; intro wR hR; exact ⟨by rw [idx_nonneg], (by repeat first | exact hR | replace hR := hR.tail)⟩)
theorem containsU_c (f : FuncId) (cap : Array Value) [hf : EntersF Tryz.prog f] (p : BV → Bool) (A : Option Addr) (c : Nat) (l : List BV) (m : Mem) (L : Own) (w : World) (hs : St m L w) (hA : Sl m 1 A (u64s l))
    (hp : ∀ x, x ∈ l → ∀ w, St m L w → Calls Tryz.prog f (#[u64v x] ++ cap) w fun r w' => r = .returned (.bool (p x)) ∧ St m L w') :
    Calls Tryz.prog 55 #[.slice A l.length c, .func (.func f) #[] cap] w fun r w' => r = .returned (.bool (l.any p)) ∧ St m L w' := by
  refine calls_of_TC (args := [_, _]) Tryz.func55 rfl Tryz.ntmps55 (Nat.le_of_ble_eq_true rfl) hs ?_
  repeat' (first | (apply a_call; exact EvC.callV rfl rfl (fun w hs => indexU_c f cap p _ _ _ _ _ _ hs hA hp); exact rfl; exact wd; rintro ⟨⟩) | refine TC.seq ?_ | refine TC.region ?_ | refine TR.nil ?_ | refine Post.then_normal ?_ | refine TC.ret ?_ | (apply a_move; exact a_moves) | (apply a_assign; exact a_assigns) | (apply a_bgeq; exact a_bgeqs))
  (refine Post.body_ret _ (ResL.one rfl (ResV.tmp rfl)) ?_; intro wR hR; exact ⟨by rw [idx_nonneg], (by repeat first | exact hR | replace hR := hR.tail)⟩)
theorem containsRl_c (f : FuncId) (cap : Array Value) [hf : EntersF Tryz.prog f] (p : Rl → Bool) (A : Option Addr) (c : Nat) (l : List Rl) (m : Mem) (L : Own) (w : World) (hs : St m L w) (hA : RlS m A l)
    (hp : ∀ x B c, x ∈ l → (Sl m 1 B (ints x.vars) ∧ x.vars.length ≤ c) → ∀ w, St m L w → Calls Tryz.prog f (#[rlV x B c] ++ cap) w fun r w' => r = .returned (.bool (p x)) ∧ St m L w') :
    Calls Tryz.prog 27 #[.slice A l.length c, .func (.func f) #[] cap] w fun r w' => r = .returned (.bool (l.any p)) ∧ St m L w' := by
  refine calls_of_TC (args := [_, _]) Tryz.func27 rfl Tryz.ntmps27 (Nat.le_of_ble_eq_true rfl) hs ?_
  repeat' (first | (apply a_call; exact EvC.callV rfl rfl (fun w hs => indexRl_c f cap p _ _ _ _ _ _ hs hA hp); exact rfl; exact wd; rintro ⟨⟩) | refine TC.seq ?_ | refine TC.region ?_ | refine TR.nil ?_ | refine Post.then_normal ?_ | refine TC.ret ?_ | (apply a_move; exact a_moves) | (apply a_assign; exact a_assigns) | (apply a_bgeq; exact a_bgeqs))
  (refine Post.body_ret _ (ResL.one rfl (ResV.tmp rfl)) ?_; intro wR hR; exact ⟨by rw [idx_nonneg], (by repeat first | exact hR | replace hR := hR.tail)⟩)
theorem clash_c (A : Option Addr) (c : Nat) (l : List Bd) (m : Mem) (L : Own) (w : World) (hs : St m L w) (hA : Sl m 2 A (bds l)) :
    Calls Tryz.prog 89 #[.slice A l.length c] w fun r w' => r = .returned (.bool (l.any clashB)) ∧ St m L w' := by
  refine calls_of_TC (args := [_]) Tryz.func89 rfl Tryz.ntmps89 (Nat.le_of_ble_eq_true rfl) hs ?_
  repeat' (first | (apply a_call; exact EvC.callV rfl rfl (fun w hs => containsBd_c 105 #[] clashB _ _ _ _ _ _ hs hA (fun x _ w hs => clash1_c x _ _ w hs)); exact rfl; exact wd; rintro ⟨⟩) | refine TC.seq ?_ | refine TC.region ?_ | refine TR.nil ?_ | refine Post.then_normal ?_ | refine TC.ret ?_ | (apply a_move; exact a_moves) | (apply a_assign; exact a_assigns))
  (refine Post.body_ret _ (ResL.one rfl (ResV.tmp rfl)) ?_; intro wR hR; exact ⟨rfl, (by repeat first | exact hR | replace hR := hR.tail)⟩)
end Go.Proofs.YtgpgjpcebajofaaGreatDoor
set_option maxHeartbeats 4000000
set_option linter.unusedVariables false
set_option linter.unusedSimpArgs false
set_option maxRecDepth 100000
namespace Go.Proofs.YtgpgjpcebajofaaGreatDoor
open Go Go.XC Go.RowKit Go.SetsP
attribute [local irreducible] Post TC TR D WL EvS EvC Wd ResL Code.wpIn Exit.then Exit.inBlock Exit.noGoto LoopK LoopP bodyPostM Reads Calls

/-- The table of places. -/
def tabC : BV := 285870213051353865#64
def tabL : List Nat := (List.range 64).map fun i => ((List.range 64).find? fun e => ((bit e * tabC) >>> 58).toNat == i).getD 0
def tabV : Array Value := (tabL.map fun (n : Nat) => Value.int .u8 (n : Int)).toArray
def tz (s : BV) : Nat := ((elems s).headD 64)
def tabOk : Bool := (List.range 4096).all fun n => n == 0 || (tabL[(((BitVec.ofNat 64 n &&& -BitVec.ofNat 64 n) * tabC) >>> 58).toNat]? == some (tz (BitVec.ofNat 64 n)) && decide (tz (BitVec.ofNat 64 n) < 12))
theorem tab_ok : tabOk = true := by kernel_rfl
theorem small_ofNat {s : BV} (h : small s) : ∃ n, n < 4096 ∧ s = BitVec.ofNat 64 n := ⟨s.toNat, h, by simp⟩
theorem tab_at {s : BV} (h : small s) (h0 : s ≠ 0#64) : tabV[(((s &&& -s) * tabC) >>> 58).toNat]? = some (.int .u8 (tz s : Int)) ∧ tz s < 12 := by
  have hk := tab_ok
  unfold tabOk at hk
  rw [List.all_eq_true] at hk
  obtain ⟨n, hn, rfl⟩ := small_ofNat h
  have := hk n (by simpa using hn)
  simp only [Bool.or_eq_true, beq_iff_eq, Bool.and_eq_true, decide_eq_true_eq] at this
  rcases this with rfl | ⟨h1, h2⟩
  · exact absurd rfl h0
  · refine ⟨?_, h2⟩
    unfold tabV
    simp only [List.getElem?_toArray, List.getElem?_map, h1, Option.map_some]
def TabM (m : Mem) : Prop := ∃ T fr, m.blk 0 = some (.cells tabV T fr)
theorem TabM.mono {m m' : Mem} (h : TabM m) (hm : m.Le m') : TabM m' := let ⟨T, fr, h1⟩ := h; ⟨T, fr, hm.blk _ _ h1⟩

theorem tz_c (s : BV) (hsm : small s) (h0 : s ≠ 0#64) (m : Mem) (hT : TabM m) (L : Own) (w : World) (hs : St m L w) :
    Calls Tryz.prog 73 #[u64v s] w fun r w' => r = .returned (.int .i64 (tz s : Int)) ∧ St m L w' := by
  obtain ⟨T, fr, hblk⟩ := hT
  obtain ⟨hat, h12⟩ := tab_at hsm h0
  have hd : decide (s = 0#64) = false := by simpa using h0
  have hlt : ((((s &&& -s) * tabC) >>> 58).toNat : Int) < 64 := by
    have : (((s &&& -s) * tabC) >>> 58).toNat < tabV.size := (Array.getElem?_eq_some_iff.1 hat).1
    have e : tabV.size = 64 := by kernel_rfl
    omega
  unfold u64v
  refine calls_of_TC (args := [_]) Tryz.func73 rfl Tryz.ntmps73 (Nat.le_of_ble_eq_true rfl) hs ?_
  repeat' (first | refine TC.seq ?_ | refine TC.region ?_ | refine TR.nil ?_ | refine Post.then_normal ?_ | refine TC.skip ?_ | (apply TC.cond_bf; exact rfl; assumption) | (apply a_move; exact a_moves) | (apply a_assign; exact a_assigns) | (apply a_unOp; exact a_unOps) | (apply a_beql; exact a_beqls) | (apply a_band; exact a_bands) | (apply a_bmul; exact a_bmuls) | (apply a_bshr; exact a_bshrs))
  refine TR.st1 rfl rfl rfl (by first | exact Wd.plain rfl | exact Wd.on rfl rfl rfl) (EvS.indexAddrA (k := .u64) rfl rfl ⟨Int.natCast_nonneg _, hlt⟩) ?_
  refine TR.st1 rfl rfl rfl (by first | exact Wd.plain rfl | exact Wd.on rfl rfl rfl) (EvS.load1 rfl (Reads.mem hblk) (v := .int .u8 (tz s : Int)) (by rw [Int.toNat_natCast, Nat.mul_one, Nat.zero_add]; exact hat)) ?_
  repeat' (first | refine TR.nil ?_ | refine Post.then_normal ?_ | refine TC.ret ?_ | (apply a_assign; exact a_assigns) | (apply a_convert; exact a_converts))
  (refine Post.body_ret _ (ResL.one rfl (ResV.tmp rfl)) ?_; intro wR hR; exact ⟨by congr 2; exact wrap_i64 (by omega), (by repeat first | exact hR | replace hR := hR.tail)⟩)

def pop1 (s : BV) : BV := ((s >>> 1) &&& 6148914691236517205#64) + (s &&& 6148914691236517205#64)
def pop2 (s : BV) : BV := ((s >>> 2) &&& 3689348814741910323#64) + (s &&& 3689348814741910323#64)
def pop3 (s : BV) : BV := ((s >>> 4) + s) &&& 1085102592571150095#64
def pop4 (s : BV) : BV := s + (s >>> 8)
def pop5 (s : BV) : BV := s + (s >>> 16)
def pop6 (s : BV) : BV := s + (s >>> 32)
def popF (s : BV) : BV := pop6 (pop5 (pop4 (pop3 (pop2 (pop1 s)))))
def popOk : Bool := (List.range 4096).all fun n => (popF (BitVec.ofNat 64 n)).toNat &&& 127 == pop (BitVec.ofNat 64 n) && decide ((popF (BitVec.ofNat 64 n)).toNat < 9223372036854775808)
theorem pop_ok : popOk = true := by kernel_rfl
theorem popF_at {s : BV} (h : small s) : (popF s).toNat &&& 127 = pop s ∧ (popF s).toNat < 9223372036854775808 := by
  have hk := pop_ok
  unfold popOk at hk
  rw [List.all_eq_true] at hk
  obtain ⟨n, hn, rfl⟩ := small_ofNat h
  simpa using hk n (by simpa using hn)
theorem pop_c (s : BV) (hsm : small s) (m : Mem) (L : Own) (w : World) (hs : St m L w) :
    Calls Tryz.prog 90 #[u64v s] w fun r w' => r = .returned (.int .i64 (pop s : Int)) ∧ St m L w' := by
  obtain ⟨h1, h2⟩ := popF_at hsm
  unfold u64v
  refine calls_of_TC (args := [_]) Tryz.func90 rfl Tryz.ntmps90 (Nat.le_of_ble_eq_true rfl) hs ?_
  repeat' (first | refine TR.st1 rfl rfl rfl (by first | exact Wd.plain rfl | exact Wd.on rfl rfl rfl) (EvS.convN (a := (popF s).toNat) rfl h2) ?_ | refine TC.seq ?_ | refine TC.region ?_ | refine TR.nil ?_ | refine Post.then_normal ?_ | (apply a_move; exact a_moves) | (apply a_assign; exact a_assigns) | (apply a_band; exact a_bands) | (apply a_badd; exact a_badds) | (apply a_bshr; exact a_bshrs))
  refine TR.st1 rfl rfl rfl (by first | exact Wd.plain rfl | exact Wd.on rfl rfl rfl) (EvS.andI (a := (popF s).toNat) (b := 127) rfl rfl h2 (by omega)) ?_
  repeat' (first | refine TR.nil ?_ | refine Post.then_normal ?_ | refine TC.ret ?_ | (apply a_assign; exact a_assigns))
  (refine Post.body_ret _ (ResL.one rfl (ResV.tmp rfl)) ?_; intro wR hR; exact ⟨by rw [h1], (by repeat first | exact hR | replace hR := hR.tail)⟩)

end Go.Proofs.YtgpgjpcebajofaaGreatDoor
set_option maxHeartbeats 4000000
set_option linter.unusedVariables false
set_option linter.unusedSimpArgs false
set_option maxRecDepth 100000
namespace Go.Proofs.YtgpgjpcebajofaaGreatDoor
open Go Go.XC Go.RowKit Go.SetsP
attribute [local irreducible] Post TC TR D WL EvS EvC Wd ResL Code.wpIn Exit.then Exit.inBlock Exit.noGoto LoopK LoopP bodyPostM Reads Calls

theorem take_snoc {css : List (List Value)} {k : Nat} {cs : List Value} (h : css[k]? = some cs) : (css.take (k + 1)).flatten = (css.take k).flatten ++ cs := by
  rw [List.take_add_one, h]; simp

theorem of_c (b : List Bd) (r : Rl) (B : Option Addr) (c : Nat) (hb : b.length = 8) (hv : ∀ v, v ∈ r.vars → 0 ≤ v ∧ v < 8) (hn : r.vars.length ≤ 1000) (m : Mem) (L : Own) (w : World) (hs : St m L w) (hB : Sl m 1 B (ints r.vars)) :
    Calls Tryz.prog 88 #[.agg (bArr b), rlV r B c] w fun e w' => ∃ x : Mem × Option Addr × Nat, e = .returned (.slice x.2.1 r.vars.length x.2.2) ∧ m.Le x.1 ∧ Sl x.1 2 x.2.1 (bds (ofB b r)) ∧ St x.1 L w' := by
  obtain ⟨css, hcss⟩ : ∃ css, css = bds (ofB b r) := ⟨_, rfl⟩
  have hlen : css.length = r.vars.length := by rw [hcss, bds_length]; simp [ofB]
  unfold rlV
  refine calls_of_TC (args := [_, _]) Tryz.func88 rfl Tryz.ntmps88 (Nat.le_of_ble_eq_true rfl) hs ?_
  repeat' (first | refine TC.seq ?_ | refine TC.region ?_ | refine TR.nil ?_ | refine Post.then_normal ?_ | refine TC.block ?_ | (apply a_move; exact a_moves) | (apply a_assign; exact a_assigns) | (apply a_fieldAddr; exact a_fieldAddrs) | (apply a_load; exact a_loads) | (apply a_len; exact a_lens) | (apply c_boxA; exact c_boxAs; exact rfl; intro g))
  rename_i g0
  refine TC.turn (fun w h => h.addNone) ?_
  refine TC.loopP (X := Gr) (fun x => x.k ≤ r.vars.length ∧ OwnRow x.v 53 2 x.k (css.take x.k).flatten x.e)
    (fun x => [(11, .int .i64 (x.k : Int)), (10, .int .i64 (r.vars.length : Int)), (9, .slice B r.vars.length c), (5, x.v), (2, .pointer (some ⟨g0, 0, none⟩)), (3, .pointer (some ⟨g, 0, none⟩))])
    (fun x => St m (x.e :: some (g, .cells _ _ (0,0)) :: some (g0, .cells _ _ (0,0)) :: L)) (fun x => r.vars.length - x.k) ⟨0, _, none⟩ ⟨Nat.zero_le _, OwnRow.nil⟩ inc (fun w h => h) ?_
  rintro ⟨k, v, e⟩ ⟨hk, hrow⟩
  simp only at hk hrow ⊢
  by_cases hlt : k < r.vars.length
  · obtain ⟨x, hx⟩ : ∃ x, r.vars[k]? = some x := ⟨_, List.getElem?_eq_getElem hlt⟩
    obtain ⟨hx0, hx8⟩ := hv x (List.mem_of_getElem? hx)
    obtain ⟨g1, o, blk, T, fr, hAe, hm, hc⟩ := hB.get1 (k := k) (v := .int .i64 x) (by simp [ints, hx])
    obtain ⟨y, hy⟩ : ∃ y, b[x.toNat]? = some y := ⟨_, List.getElem?_eq_getElem (by omega)⟩
    have hcs : css[k]? = some (bdC y) := by rw [hcss]; simp [bds, ofB, hx, nth, List.getD_eq_getElem?_getD, hy]
    have hat := bArr_at hy (0 + x.toNat * 2) (by omega)
    have hd : decide ((k : Int) < (r.vars.length : Int)) = true := by simpa using hlt
    repeat' (first | refine TC.seq ?_ | refine TC.region ?_ | refine TR.nil ?_ | refine Post.then_normal ?_ | refine TC.block ?_ | refine TC.skip ?_ | (apply TC.cond_bt; exact rfl; assumption) | (apply a_move; exact a_moves) | (apply a_assign; exact a_assigns) | (apply a_load; exact a_loads) | (apply a_blss; exact a_blsss) | (apply a_indexAddr; exact a_indexAddrs) | (apply c_buildA; exact c_buildAs; exact rfl; intro g))
    (apply TR.ch1 (o := ⟨_, .call _, _, _, _, _⟩); exact rfl; exact rfl; exact rfl; (first | exact Wd.plain rfl | exact Wd.on rfl rfl rfl); (apply EvC.append; exact rfl; exact rfl; exact hrow; exact Rep1.tail (Rep1.head); (apply RdC.whole; (first | exact Reads.mem (by assumption) | exact Reads.own (by repeat first | exact List.Mem.head _ | assumption | apply List.Mem.tail) | assumption)); exact rfl; exact (by first | exact (fun v hv => by simp at hv; rcases hv with rfl | rfl | rfl | rfl | rfl | rfl | rfl | rfl <;> rfl) | exact (fun v hv => by simp at hv; rcases hv with rfl | rfl | rfl | rfl | rfl | rfl | rfl <;> rfl) | exact (fun v hv => by simp at hv; rcases hv with rfl | rfl | rfl | rfl <;> rfl) | exact (fun v hv => by simp at hv; rcases hv with rfl | rfl <;> rfl) | exact (fun v hv => by simp at hv; subst hv; rfl)); exact rfl; decide; omega; (intro e2; exact Rep1.tail (Rep1.head))); intro p)
    obtain ⟨⟨v2, e2⟩, hrow2⟩ := p
    repeat' (first | refine TC.region ?_ | refine TR.nil ?_ | refine Post.then_normal ?_ | refine Post.block_normal ?_ | (apply a_move; exact a_moves) | (apply a_assign; exact a_assigns) | (apply a_badd; exact a_badds))
    refine Post.nextP ⟨k + 1, v2, e2⟩ ⟨by simp only; omega, ?_⟩ inc (fun w h => ?_) (by simp only; omega)
    · rw [take_snoc hcs]; exact hrow2
    · exact h.tail
  · have hd : decide ((k : Int) < (r.vars.length : Int)) = false := by simpa using hlt
    repeat' (first | refine TC.seq ?_ | refine TC.region ?_ | refine TR.nil ?_ | refine Post.then_normal ?_ | refine TC.ret ?_ | refine TC.exit ?_ | (apply TC.cond_bf; exact rfl; assumption) | refine Post.then_exit ?_ | refine Post.block_here ?_ | (apply a_move; exact a_moves) | (apply a_assign; exact a_assigns) | (apply a_blss; exact a_blsss))
    obtain rfl : k = r.vars.length := by omega
    rw [← hlen, List.take_length] at hrow
    refine Post.body_ret _ (ResL.one rfl (ResV.tmp rfl)) fun w h => ?_
    obtain ⟨m', A, c', h1, h2, h3, h4⟩ := hrow.freeze (by rw [hcss]; exact bds_len _) rfl (by omega) h Rep1.head
    refine ⟨(m', A, c'), by rw [h2, hlen], h1, by rw [← hcss]; exact h3, h4.tail.tail.tail⟩
end Go.Proofs.YtgpgjpcebajofaaGreatDoor
set_option maxHeartbeats 4000000
set_option linter.unusedVariables false
set_option linter.unusedSimpArgs false
set_option maxRecDepth 100000
namespace Go.Proofs.YtgpgjpcebajofaaGreatDoor
open Go Go.XC Go.RowKit Go.SetsP
attribute [local irreducible] Post TC TR D WL EvS EvC Wd ResL Code.wpIn Exit.then Exit.inBlock Exit.noGoto LoopK LoopP bodyPostM Reads Calls

theorem with_c (b : List Bd) (v e : Int) (i : Bool) (hb : b.length = 8) (hv : 0 ≤ v ∧ v < 8) (he : 0 ≤ e ∧ e < 64) (m : Mem) (L : Own) (w : World) (hs : St m L w) :
    Calls Tryz.prog 74 #[.agg (bArr b), .int .i64 v, .int .i64 e, .bool i] w fun r w' => r = .returned (.agg (bArr (withB b v e.toNat i))) ∧ St m L w' := by
  obtain ⟨y, hy⟩ : ∃ y, b[v.toNat]? = some y := ⟨_, List.getElem?_eq_getElem (by omega)⟩
  have hny : nth b v = y := by simp [nth, List.getD_eq_getElem?_getD, hy]
  have hlo : (bArr b)[0 + v.toNat * 2 + 0]? = some (.int .u64 (y.lo.toNat : Int)) := by have := bArr_lo hy; simpa using this
  have hcan : (bArr b)[0 + v.toNat * 2 + 1]? = some (.int .u64 (y.can.toNat : Int)) := by have := bArr_can hy; simpa using this
  have hz0 : 0 + v.toNat * 2 + 0 < (bArr b).size := by rw [bArr_size]; omega
  have hz1 : 0 + v.toNat * 2 + 1 < (bArr b).size := by rw [bArr_size]; omega
  have hs0 : (bArr (withB b v e.toNat false)).size = 16 := by rw [bArr_size]; simp [withB, hb]
  have hs1 : (bArr (withB b v e.toNat true)).size = 16 := by rw [bArr_size]; simp [withB, hb]
  have he0 : (bArr b).setIfInBounds (0 + v.toNat * 2 + 1) (.int .u64 ((y.can &&& ~~~(1#64 <<< e.toNat)).toNat : Int)) = bArr (withB b v e.toNat false) := by
    rw [show withB b v e.toNat false = b.set v.toNat ⟨y.lo, y.can &&& ~~~bit e.toNat⟩ by simp [withB, hny, setB], ← bArr_set_can hy (y.can &&& ~~~bit e.toNat), Nat.zero_add]; rfl
  have he1 : (bArr b).setIfInBounds (0 + v.toNat * 2 + 0) (.int .u64 ((y.lo ||| 1#64 <<< e.toNat).toNat : Int)) = bArr (withB b v e.toNat true) := by
    rw [show withB b v e.toNat true = b.set v.toNat ⟨y.lo ||| bit e.toNat, y.can⟩ by simp [withB, hny, setB], ← bArr_set_lo hy (y.lo ||| bit e.toNat), Nat.zero_add]; rfl
  cases i
  · refine calls_of_TC (args := [_, _, _, _]) Tryz.func74 rfl Tryz.ntmps74 (Nat.le_of_ble_eq_true rfl) hs ?_
    repeat' (first | refine TC.seq ?_ | refine TC.region ?_ | refine TR.nil ?_ | refine Post.then_normal ?_ | (apply TC.cond_t; exact rfl) | (apply TC.cond_f; exact rfl) | (apply TR.st1 (o := ⟨_, .move _, _, _, _, _⟩); exact rfl; exact rfl; exact rfl; (first | exact Wd.plain rfl | exact Wd.on rfl rfl rfl); exact EvS.move rfl) | (apply TR.ch1 (o := ⟨_, .box _ _, _, _, _, _⟩) ; exact rfl; exact rfl; exact rfl; (first | exact Wd.plain rfl | exact Wd.on rfl rfl rfl); exact EvC.boxA rfl; intro g) | (apply TR.ch1 (o := ⟨_, .alloc _, _, _, _, _⟩) ; exact rfl; exact rfl; exact rfl; (first | exact Wd.plain rfl | exact Wd.on rfl rfl rfl); exact EvC.alloc; intro g))
    refine TC.draw_ [.st, .st, .st, .st, .st, .ch, .st, .st, .st] mixed rfl (by kernel_rfl) ?_
    repeat' (first | (apply D.chx (o := ⟨_, .call _, _, _, _, _⟩); exact rfl; (first | exact Wd.plain rfl | exact Wd.on rfl rfl rfl); exact EvC.callV rfl rfl (fun w hs => one_c _ _ _ w hs he.1); exact inferInstance; exact (by first | exact fun _ _ h => StX.of0 h | exact fun _ _ h => StX.of1 h | exact fun _ _ h => StX.of2 h | exact fun _ _ h => StX.of3 h | exact fun _ _ h => StX.of h); rintro ⟨⟩) | (apply D.st1; exact rfl; (first | exact Wd.plain rfl | exact Wd.on rfl rfl rfl); (first | exact EvS.move rfl | exact EvS.fieldAddr rfl | (first | (apply EvS.load1; exact rfl; (first | exact Reads.memX (by assumption) | exact Reads.ownX (by repeat first | exact List.Mem.head _ | assumption | apply List.Mem.tail)); (first | assumption | exact nthL_arr rfl | exact rfl)) | (apply EvS.loadW; exact rfl; (first | exact Reads.memX (by assumption) | exact Reads.ownX (by repeat first | exact List.Mem.head _ | assumption | apply List.Mem.tail)); first | exact rfl | assumption) | (apply EvS.loadH; exact rfl; (first | exact Reads.memX (by assumption) | exact Reads.ownX (by repeat first | exact List.Mem.head _ | assumption | apply List.Mem.tail)); assumption; first | exact rfl | assumption)) | exact EvS.or64 rfl rfl (by first | with_reducible exact U64.var _ | exact U64.lit rfl) (by first | with_reducible exact U64.var _ | exact U64.lit rfl) | exact EvS.andNot64 rfl rfl (by first | with_reducible exact U64.var _ | exact U64.lit rfl) (by first | with_reducible exact U64.var _ | exact U64.lit rfl) | (first | exact EvS.indexAddr rfl rfl (by first | exact rfl | assumption) (by omega) | exact EvS.indexAddrA rfl rfl (by omega)))) | refine D.tail_ ?_)
    repeat' (first | refine TC.seq ?_ | refine TC.region ?_ | refine TR.nil ?_ | refine Post.then_normal ?_ | (apply TR.ch0 (o := ⟨_, .store _ _ _, _, _, _, _⟩) ; exact rfl; exact rfl; (first | exact Wd.plain rfl | exact Wd.on rfl rfl rfl); exact EvC.store1 rfl rfl rfl (by repeat first | exact Upd.head | apply Upd.tail) (by first | assumption | exact Nat.lt_of_sub_eq_succ rfl | (simp; omega) | simp); rintro ⟨⟩))
    rw [he0]
    repeat' (first | refine TR.nil ?_ | refine Post.then_normal ?_ | refine TC.ret ?_ | (apply TR.st1 (o := ⟨_, .load _ _, _, _, _, _⟩); exact rfl; exact rfl; exact rfl; (first | exact Wd.plain rfl | exact Wd.on rfl rfl rfl); (first | (apply EvS.load1; exact rfl; (first | exact Reads.mem (by assumption) | exact Reads.own (by repeat first | exact List.Mem.head _ | assumption | apply List.Mem.tail)); (first | assumption | exact nthL_arr rfl | exact rfl)) | (apply EvS.loadW; exact rfl; (first | exact Reads.mem (by assumption) | exact Reads.own (by repeat first | exact List.Mem.head _ | assumption | apply List.Mem.tail)); first | exact rfl | assumption) | (apply EvS.loadH; exact rfl; (first | exact Reads.mem (by assumption) | exact Reads.own (by repeat first | exact List.Mem.head _ | assumption | apply List.Mem.tail)); assumption; first | exact rfl | assumption))) | (apply TR.ch0 (o := ⟨_, .store _ _ _, _, _, _, _⟩) ; exact rfl; exact rfl; (first | exact Wd.plain rfl | exact Wd.on rfl rfl rfl); exact EvC.storeW rfl rfl (by first | exact rfl | assumption) (by first | exact bArr_one _ | exact rfl | (intro v hv; simp at hv; rcases hv with rfl | rfl | rfl | rfl | rfl | rfl | rfl | rfl <;> rfl)) (by repeat first | exact Upd.head | apply Upd.tail) (by first | exact rfl | assumption); rintro ⟨⟩))
    refine Post.body_ret _ (ResL.one rfl (ResV.cellW rfl (Reads.own (by repeat first | exact List.Mem.head _ | apply List.Mem.tail)) (by assumption))) ?_
    exact fun w h => ⟨rfl, h.tail.tail⟩
  · refine calls_of_TC (args := [_, _, _, _]) Tryz.func74 rfl Tryz.ntmps74 (Nat.le_of_ble_eq_true rfl) hs ?_
    repeat' (first | refine TC.seq ?_ | refine TC.region ?_ | refine TR.nil ?_ | refine Post.then_normal ?_ | (apply TC.cond_t; exact rfl) | (apply TC.cond_f; exact rfl) | (apply TR.st1 (o := ⟨_, .move _, _, _, _, _⟩); exact rfl; exact rfl; exact rfl; (first | exact Wd.plain rfl | exact Wd.on rfl rfl rfl); exact EvS.move rfl) | (apply TR.ch1 (o := ⟨_, .box _ _, _, _, _, _⟩) ; exact rfl; exact rfl; exact rfl; (first | exact Wd.plain rfl | exact Wd.on rfl rfl rfl); exact EvC.boxA rfl; intro g) | (apply TR.ch1 (o := ⟨_, .alloc _, _, _, _, _⟩) ; exact rfl; exact rfl; exact rfl; (first | exact Wd.plain rfl | exact Wd.on rfl rfl rfl); exact EvC.alloc; intro g))
    refine TC.draw_ [.st, .st, .st, .st, .st, .ch, .st, .st, .st] mixed rfl (by kernel_rfl) ?_
    repeat' (first | (apply D.chx (o := ⟨_, .call _, _, _, _, _⟩); exact rfl; (first | exact Wd.plain rfl | exact Wd.on rfl rfl rfl); exact EvC.callV rfl rfl (fun w hs => one_c _ _ _ w hs he.1); exact inferInstance; exact (by first | exact fun _ _ h => StX.of0 h | exact fun _ _ h => StX.of1 h | exact fun _ _ h => StX.of2 h | exact fun _ _ h => StX.of3 h | exact fun _ _ h => StX.of h); rintro ⟨⟩) | (apply D.st1; exact rfl; (first | exact Wd.plain rfl | exact Wd.on rfl rfl rfl); (first | exact EvS.move rfl | exact EvS.fieldAddr rfl | (first | (apply EvS.load1; exact rfl; (first | exact Reads.memX (by assumption) | exact Reads.ownX (by repeat first | exact List.Mem.head _ | assumption | apply List.Mem.tail)); (first | assumption | exact nthL_arr rfl | exact rfl)) | (apply EvS.loadW; exact rfl; (first | exact Reads.memX (by assumption) | exact Reads.ownX (by repeat first | exact List.Mem.head _ | assumption | apply List.Mem.tail)); first | exact rfl | assumption) | (apply EvS.loadH; exact rfl; (first | exact Reads.memX (by assumption) | exact Reads.ownX (by repeat first | exact List.Mem.head _ | assumption | apply List.Mem.tail)); assumption; first | exact rfl | assumption)) | exact EvS.or64 rfl rfl (by first | with_reducible exact U64.var _ | exact U64.lit rfl) (by first | with_reducible exact U64.var _ | exact U64.lit rfl) | exact EvS.andNot64 rfl rfl (by first | with_reducible exact U64.var _ | exact U64.lit rfl) (by first | with_reducible exact U64.var _ | exact U64.lit rfl) | (first | exact EvS.indexAddr rfl rfl (by first | exact rfl | assumption) (by omega) | exact EvS.indexAddrA rfl rfl (by omega)))) | refine D.tail_ ?_)
    repeat' (first | refine TC.seq ?_ | refine TC.region ?_ | refine TR.nil ?_ | refine Post.then_normal ?_ | (apply TR.ch0 (o := ⟨_, .store _ _ _, _, _, _, _⟩) ; exact rfl; exact rfl; (first | exact Wd.plain rfl | exact Wd.on rfl rfl rfl); exact EvC.store1 rfl rfl rfl (by repeat first | exact Upd.head | apply Upd.tail) (by first | assumption | exact Nat.lt_of_sub_eq_succ rfl | (simp; omega) | simp); rintro ⟨⟩))
    rw [he1]
    repeat' (first | refine TR.nil ?_ | refine Post.then_normal ?_ | refine TC.ret ?_ | (apply TR.st1 (o := ⟨_, .load _ _, _, _, _, _⟩); exact rfl; exact rfl; exact rfl; (first | exact Wd.plain rfl | exact Wd.on rfl rfl rfl); (first | (apply EvS.load1; exact rfl; (first | exact Reads.mem (by assumption) | exact Reads.own (by repeat first | exact List.Mem.head _ | assumption | apply List.Mem.tail)); (first | assumption | exact nthL_arr rfl | exact rfl)) | (apply EvS.loadW; exact rfl; (first | exact Reads.mem (by assumption) | exact Reads.own (by repeat first | exact List.Mem.head _ | assumption | apply List.Mem.tail)); first | exact rfl | assumption) | (apply EvS.loadH; exact rfl; (first | exact Reads.mem (by assumption) | exact Reads.own (by repeat first | exact List.Mem.head _ | assumption | apply List.Mem.tail)); assumption; first | exact rfl | assumption))) | (apply TR.ch0 (o := ⟨_, .store _ _ _, _, _, _, _⟩) ; exact rfl; exact rfl; (first | exact Wd.plain rfl | exact Wd.on rfl rfl rfl); exact EvC.storeW rfl rfl (by first | exact rfl | assumption) (by first | exact bArr_one _ | exact rfl | (intro v hv; simp at hv; rcases hv with rfl | rfl | rfl | rfl | rfl | rfl | rfl | rfl <;> rfl)) (by repeat first | exact Upd.head | apply Upd.tail) (by first | exact rfl | assumption); rintro ⟨⟩))
    refine Post.body_ret _ (ResL.one rfl (ResV.cellW rfl (Reads.own (by repeat first | exact List.Mem.head _ | apply List.Mem.tail)) (by assumption))) ?_
    exact fun w h => ⟨rfl, h.tail.tail⟩
end Go.Proofs.YtgpgjpcebajofaaGreatDoor
set_option maxHeartbeats 4000000
set_option linter.unusedVariables false
set_option linter.unusedSimpArgs false
set_option maxRecDepth 100000
namespace Go.Proofs.YtgpgjpcebajofaaGreatDoor
open Go Go.XC Go.RowKit Go.SetsP
attribute [local irreducible] Post TC TR D WL EvS EvC Wd ResL Code.wpIn Exit.then Exit.inBlock Exit.noGoto LoopK LoopP bodyPostM Reads Calls

def stepOk : Bool := (List.range 4096).all fun n => n == 0 || ((BitVec.ofNat 64 n &&& (BitVec.ofNat 64 n - 1#64)) == (BitVec.ofNat 64 n &&& ~~~bit (tz (BitVec.ofNat 64 n))) && decide ((BitVec.ofNat 64 n &&& (BitVec.ofNat 64 n - 1#64)).toNat < n))
theorem step_ok : stepOk = true := by kernel_rfl
theorem filter_head {α : Type} [DecidableEq α] {p : α → Bool} {l t : List α} {a : α} (hn : l.Nodup) (h : l.filter p = a :: t) : l.filter (fun x => p x && x != a) = t := by
  have h1 : (l.filter p).filter (fun x => x != a) = t := by
    rw [h, List.filter_cons]
    have hnd : (a :: t).Nodup := h ▸ (hn.sublist List.filter_sublist)
    simp only [bne_self_eq_false, Bool.false_eq_true, if_false]
    rw [List.filter_eq_self]
    intro x hx
    have := (List.nodup_cons.1 hnd).1
    simp only [bne_iff_ne]
    rintro rfl
    exact this hx
  rw [List.filter_filter] at h1
  rw [← h1]
  congr 1
  funext x
  exact Bool.and_comm _ _
theorem has_clr (s : BV) (t e : Nat) (he : e < 64) : has (s &&& ~~~bit t) e = (has s e && e != t) := by
  unfold has bit
  simp only [BitVec.getLsbD_and, BitVec.getLsbD_not, BitVec.getLsbD_shiftLeft, he, decide_true, Bool.true_and]
  congr 1
  by_cases h : e = t
  · subst h; simp
  · by_cases h2 : e < t
    · simp [h2, h]
    · have h3 : e - t ≠ 0 := by omega
      simp [h2, h, h3, BitVec.getLsbD_one]
theorem elems_step {s : BV} (h : small s) (h0 : s ≠ 0#64) : elems s = tz s :: elems (s &&& (s - 1#64)) ∧ (s &&& (s - 1#64)).toNat < s.toNat := by
  have hk := step_ok
  unfold stepOk at hk
  rw [List.all_eq_true] at hk
  obtain ⟨n, hn, rfl⟩ := small_ofNat h
  have := hk n (by simpa using hn)
  simp only [Bool.or_eq_true, beq_iff_eq, Bool.and_eq_true, decide_eq_true_eq] at this
  rcases this with rfl | ⟨h1, h2⟩
  · exact absurd rfl h0
  · refine ⟨?_, ?_⟩
    · rw [h1]
      generalize BitVec.ofNat 64 n = s at *
      cases he : elems s with
      | nil =>
        exfalso
        have := (tab_at h h0).2
        unfold tz at this
        rw [he] at this
        simp at this
      | cons a t =>
        have hat : tz s = a := by unfold tz; rw [he]; rfl
        rw [hat]
        congr 1
        have := filter_head List.nodup_range he
        rw [← this]
        unfold elems
        refine List.filter_congr fun e h => ?_
        rw [has_clr s a e (by simpa using h)]
    · have : (BitVec.ofNat 64 n).toNat = n := by rw [BitVec.toNat_ofNat]; omega
      rw [this]; exact h2
theorem elems_zero : elems 0#64 = [] := by kernel_rfl
def nats (l : List Nat) : List Value := l.map fun (e : Nat) => Value.int .i64 (e : Int)

structure Gi where
  pre : List Nat
  s : BV
  m : Mem
  Lc : Own

theorem iter_c (s : BV) (hsm : small s) (g : Nat) (T : TypeId) (m0 : Mem) (hT : TabM m0) :
    IterOk Tryz.prog 111 #[.pointer (some ⟨g, 0, none⟩)] m0 [some (g, .cells #[.int .u64 (s.toNat : Int)] T (0, 0))] (nats (elems s)) := by
  intro l J Jx hR m Lc w hm hJ hs
  show Calls Tryz.prog 111 #[.func (.yield l) #[] #[], .pointer (some ⟨g, 0, none⟩)] w _
  refine calls_of_TC (args := [_, _]) Tryz.func111 rfl Tryz.ntmps111 (Nat.le_of_ble_eq_true rfl) hs ?_
  repeat' (first | refine TC.block ?_)
  refine TC.loopP (X := Gi) (fun x => elems s = x.pre ++ elems x.s ∧ small x.s ∧ m.Le x.m ∧ J (nats x.pre) x.m x.Lc)
    (fun x => [(0, .func (.yield l) #[] #[]), (1, .pointer (some ⟨g, 0, none⟩))])
    (fun x => St x.m (some (g, .cells #[.int .u64 (x.s.toNat : Int)] T (0,0)) :: x.Lc)) (fun x => x.s.toNat) ⟨[], s, m, Lc⟩ ⟨rfl, hsm, Mem.Le.refl _, hJ⟩ (incl.lk (by repeat first | exact trivial | refine ⟨rfl, ?_⟩)) (fun w h => h) ?_
  rintro ⟨pre, s', m', Lc'⟩ ⟨hpre, hs', hm', hJ'⟩
  simp only at hpre hs' hm' hJ' ⊢
  by_cases h0 : s' = 0#64
  · have hd : (s' != 0#64) = false := by simpa using h0
    repeat' (first | refine TC.seq ?_ | refine TC.region ?_ | refine TR.nil ?_ | refine Post.then_normal ?_ | refine TC.exit ?_ | (apply TC.cond_bf; exact rfl; assumption) | refine Post.then_exit ?_ | refine Post.block_here ?_ | (apply TR.st1; exact rfl; exact rfl; exact rfl; (first | exact Wd.plain rfl | exact Wd.on rfl rfl rfl); (first | (first | (apply EvS.load1; exact rfl; (first | exact Reads.mem (by assumption) | exact Reads.own (by repeat first | exact List.Mem.head _ | assumption | apply List.Mem.tail)); (first | assumption | exact nthL_arr rfl | exact rfl)) | (apply EvS.loadW; exact rfl; (first | exact Reads.mem (by assumption) | exact Reads.own (by repeat first | exact List.Mem.head _ | assumption | apply List.Mem.tail)); first | exact rfl | assumption) | (apply EvS.loadH; exact rfl; (first | exact Reads.mem (by assumption) | exact Reads.own (by repeat first | exact List.Mem.head _ | assumption | apply List.Mem.tail)); assumption; first | exact rfl | assumption)) | (first | exact EvS.ne64 rfl rfl (by first | with_reducible exact U64.var _ | exact U64.lit rfl) (by first | with_reducible exact U64.var _ | exact U64.lit rfl) | exact EvS.neB rfl rfl | exact EvS.neI rfl rfl))))
    subst h0
    rw [elems_zero, List.append_nil] at hpre
    rw [hpre]
    refine Post.body_end _ (ResL.zero rfl) ?_
    exact fun w h => ⟨⟨_, rfl⟩, m', [_], Lc', hm', h, .inl hJ'⟩
  · have hd : (s' != 0#64) = true := by simpa using h0
    obtain ⟨hst, hlt⟩ := elems_step hs' h0
    have hxs : nats (elems s) = nats pre ++ .int .i64 (tz s' : Int) :: nats (elems (s' &&& (s' - 1#64))) := by rw [hpre, hst]; simp [nats]
    repeat' (first | (apply TR.ch1 (o := ⟨_, .call _, _, _, _, _⟩); exact rfl; exact rfl; exact rfl; (first | exact Wd.plain rfl | exact Wd.on rfl rfl rfl); exact EvC.callV rfl rfl (fun w hs => tz_c s' hs' h0 _ (hT.mono (hm.trans hm')) _ w hs); rintro ⟨⟩) | refine TC.seq ?_ | refine TC.region ?_ | refine TR.nil ?_ | refine Post.then_normal ?_ | refine TC.block ?_ | refine TC.skip ?_ | (apply TC.cond_bt; exact rfl; assumption) | (apply TR.st1; exact rfl; exact rfl; exact rfl; (first | exact Wd.plain rfl | exact Wd.on rfl rfl rfl); (first | exact EvS.move rfl | (first | (apply EvS.load1; exact rfl; (first | exact Reads.mem (by assumption) | exact Reads.own (by repeat first | exact List.Mem.head _ | assumption | apply List.Mem.tail)); (first | assumption | exact nthL_arr rfl | exact rfl)) | (apply EvS.loadW; exact rfl; (first | exact Reads.mem (by assumption) | exact Reads.own (by repeat first | exact List.Mem.head _ | assumption | apply List.Mem.tail)); first | exact rfl | assumption) | (apply EvS.loadH; exact rfl; (first | exact Reads.mem (by assumption) | exact Reads.own (by repeat first | exact List.Mem.head _ | assumption | apply List.Mem.tail)); assumption; first | exact rfl | assumption)) | (first | exact EvS.ne64 rfl rfl (by first | with_reducible exact U64.var _ | exact U64.lit rfl) (by first | with_reducible exact U64.var _ | exact U64.lit rfl) | exact EvS.neB rfl rfl | exact EvS.neI rfl rfl))))
    refine TR.ch1 rfl rfl rfl (by first | exact Wd.plain rfl | exact Wd.on rfl rfl rfl) (EvC.yield (Li := [some (g, .cells #[.int .u64 (s'.toNat : Int)] T (0, 0))]) (Lc := Lc') rfl rfl (hR _ _ _ _ hxs) hJ') ?_
    rintro ⟨⟨bb, m2, Lc2⟩, hm2, hor⟩
    simp only at hm2 hor ⊢
    have hpre2 : nats (pre ++ [tz s']) = nats pre ++ [.int .i64 (tz s' : Int)] := by simp [nats]
    rcases hor with ⟨rfl, hj⟩ | ⟨rfl, hj⟩
    · repeat' (first | refine TC.region ?_ | refine TR.nil ?_ | refine Post.then_normal ?_ | refine TC.skip ?_ | (apply TC.cond_f; exact rfl) | refine Post.block_normal ?_ | (apply TR.st1; exact rfl; exact rfl; exact rfl; (first | exact Wd.plain rfl | exact Wd.on rfl rfl rfl); (first | (first | (apply EvS.load1; exact rfl; (first | exact Reads.mem (by assumption) | exact Reads.own (by repeat first | exact List.Mem.head _ | assumption | apply List.Mem.tail)); (first | assumption | exact nthL_arr rfl | exact rfl)) | (apply EvS.loadW; exact rfl; (first | exact Reads.mem (by assumption) | exact Reads.own (by repeat first | exact List.Mem.head _ | assumption | apply List.Mem.tail)); first | exact rfl | assumption) | (apply EvS.loadH; exact rfl; (first | exact Reads.mem (by assumption) | exact Reads.own (by repeat first | exact List.Mem.head _ | assumption | apply List.Mem.tail)); assumption; first | exact rfl | assumption)) | (first | exact EvS.not rfl | exact EvS.neg64 rfl (by first | with_reducible exact U64.var _ | exact U64.lit rfl)) | exact EvS.and64 rfl rfl (by first | with_reducible exact U64.var _ | exact U64.lit rfl) (by first | with_reducible exact U64.var _ | exact U64.lit rfl) | (first | exact EvS.subI rfl rfl (by omega) | exact EvS.sub64 rfl rfl (by first | with_reducible exact U64.var _ | exact U64.lit rfl) (by first | with_reducible exact U64.var _ | exact U64.lit rfl)))) | (apply TR.ch0 (o := ⟨_, .store _ _ _, _, _, _, _⟩) ; exact rfl; exact rfl; (first | exact Wd.plain rfl | exact Wd.on rfl rfl rfl); exact EvC.store1 rfl rfl rfl (by repeat first | exact Upd.head | apply Upd.tail) (by first | assumption | exact Nat.lt_of_sub_eq_succ rfl | (simp; omega) | simp); rintro ⟨⟩))
      refine Post.nextP ⟨pre ++ [tz s'], s' &&& (s' - 1#64), m2, Lc2⟩ ⟨?_, ?_, hm'.trans hm2, ?_⟩ (incl.lk (by repeat first | exact trivial | refine ⟨rfl, ?_⟩)) (fun w h => h) hlt
      · simp only; rw [hpre, hst]; simp
      · exact Nat.lt_trans hlt hs'
      · simp only; rw [hpre2]; exact hj
    · repeat' (first | refine TR.nil ?_ | refine Post.then_normal ?_ | refine TC.ret ?_ | (apply TC.cond_t; exact rfl) | refine Post.then_ret ?_ | refine Post.block_ret ?_ | (apply TR.st1 (o := ⟨_, .unOp _ _ _, _, _, _, _⟩); exact rfl; exact rfl; exact rfl; (first | exact Wd.plain rfl | exact Wd.on rfl rfl rfl); (first | exact EvS.not rfl | exact EvS.neg64 rfl (by first | with_reducible exact U64.var _ | exact U64.lit rfl))))
      refine Post.body_ret _ (ResL.zero rfl) ?_
      refine fun w h => ⟨⟨_, rfl⟩, m2, [_], Lc2, hm'.trans hm2, h, .inr ⟨_, ?_, hj⟩⟩
      exact ⟨nats (elems (s' &&& (s' - 1#64))), by rw [hxs]; simp⟩

theorem elements_c (s : BV) (m : Mem) (L : Own) (w : World) (hs : St m L w) :
    Calls Tryz.prog 92 #[.int .u64 (s.toNat : Int)] w fun r w' => ∃ g : Nat, r = .returned (.func (.func 111) #[] #[.pointer (some ⟨g, 0, none⟩)]) ∧ St m (some (g, .cells #[.int .u64 (s.toNat : Int)] 39 (0, 0)) :: L) w' := by
  refine calls_of_TC (args := [_]) Tryz.func92 rfl Tryz.ntmps92 (Nat.le_of_ble_eq_true rfl) hs ?_
  repeat' (first | refine TC.seq ?_ | refine TC.region ?_ | refine TR.nil ?_ | refine Post.then_normal ?_ | refine TC.ret ?_ | (apply TR.st1; exact rfl; exact rfl; exact rfl; (first | exact Wd.plain rfl | exact Wd.on rfl rfl rfl); (first | exact EvS.assign rfl | exact EvS.makeFunc rfl rfl)) | (apply TR.ch1 (o := ⟨_, .box _ _, _, _, _, _⟩) ; exact rfl; exact rfl; exact rfl; (first | exact Wd.plain rfl | exact Wd.on rfl rfl rfl); exact EvC.box1 rfl rfl; intro g))
  refine Post.body_ret _ (ResL.one rfl (ResV.tmp rfl)) ?_
  exact fun w h => ⟨_, rfl, h⟩

theorem Upd.castC {L L' : Own} {g : Nat} {o : Obj} {a b : Array Value} {T : TypeId} {fr : Nat × Nat} (e : b = a) (h : Upd L g o (.cells a T fr) L') : Upd L g o (.cells b T fr) L' := e ▸ h
def zero8 : Array Value := bArr (List.replicate 8 ⟨0#64, 0#64⟩)
theorem spl_bounds (l : List Bd) (h : l.length ≤ 8) : spl zero8 0 (bds l).flatten.toArray = bArr (l ++ List.replicate (8 - l.length) ⟨0, 0⟩) := by
  have h2 : (bds l).flatten.length = l.length * 2 := by rw [bds_flatten]; have := bArr_size l; simpa [bArr] using this
  unfold spl bArr
  congr 1
  rw [List.flatMap_append, ← bds_flatten]
  simp only [List.take_zero, List.nil_append, Nat.zero_add]
  congr 1
  rw [h2]
  have : ∀ n, n ≤ 8 → List.drop (n * 2) zero8.toList = List.flatMap bdC (List.replicate (8 - n) ⟨0, 0⟩) := by
    intro n hn
    have : n = 0 ∨ n = 1 ∨ n = 2 ∨ n = 3 ∨ n = 4 ∨ n = 5 ∨ n = 6 ∨ n = 7 ∨ n = 8 := by omega
    rcases this with rfl | rfl | rfl | rfl | rfl | rfl | rfl | rfl | rfl <;> rfl
  exact this _ h

theorem boundsOf_c (p : Pb) (cs : Array Value) (hl : p.bounds.length ≤ 8) (m : Mem) (hp : PbC m p cs) (L : Own) (w : World) (hs : St m L w) :
    Calls Tryz.prog 61 #[.agg cs] w fun r w' => r = .returned (.agg (bArr (p.bounds ++ List.replicate (8 - p.bounds.length) ⟨0, 0⟩))) ∧ St m L w' := by
  obtain ⟨A, c, B, k, rfl, hA, hB⟩ := hp
  refine calls_of_TC (args := [_]) Tryz.func61 rfl Tryz.ntmps61 (Nat.le_of_ble_eq_true rfl) hs ?_
  repeat' (first | refine TC.seq ?_ | refine TC.region ?_ | refine TR.nil ?_ | refine Post.then_normal ?_ | (apply TR.ch1 (o := ⟨_, .box _ _, _, _, _, _⟩) ; exact rfl; exact rfl; exact rfl; (first | exact Wd.plain rfl | exact Wd.on rfl rfl rfl); exact EvC.boxA rfl; intro g) | (apply TR.ch1 (o := ⟨_, .alloc _, _, _, _, _⟩) ; exact rfl; exact rfl; exact rfl; (first | exact Wd.plain rfl | exact Wd.on rfl rfl rfl); exact EvC.alloc; intro g))
  have hsz : (bArr (p.bounds ++ List.replicate (8 - p.bounds.length) ⟨0, 0⟩)).size = 16 := by rw [bArr_size]; simp; omega
  refine TC.draw_ [.st, .st, .st] mixed rfl (by kernel_rfl) ?_
  repeat' (first | (apply D.st1; exact rfl; (first | exact Wd.plain rfl | exact Wd.on rfl rfl rfl); (first | exact EvS.fieldAddr rfl | (first | (apply EvS.load1; exact rfl; (first | exact Reads.memX (by assumption) | exact Reads.ownX (by repeat first | exact List.Mem.head _ | assumption | apply List.Mem.tail)); (first | assumption | exact nthL_arr rfl | exact rfl)) | (apply EvS.loadW; exact rfl; (first | exact Reads.memX (by assumption) | exact Reads.ownX (by repeat first | exact List.Mem.head _ | assumption | apply List.Mem.tail)); first | exact rfl | assumption) | (apply EvS.loadH; exact rfl; (first | exact Reads.memX (by assumption) | exact Reads.ownX (by repeat first | exact List.Mem.head _ | assumption | apply List.Mem.tail)); assumption; first | exact rfl | assumption)) | exact EvS.sliceA rfl)) | refine D.tail_ ?_)

  refine TR.ch1 rfl rfl rfl (by first | exact Wd.plain rfl | exact Wd.on rfl rfl rfl) (EvC.copy (cs := zero8) rfl rfl hl hA.rdc ?_ ?_ (by exact Nat.lt_of_sub_eq_succ rfl) (Upd.castC (spl_bounds _ hl) (by repeat first | exact Upd.head | apply Upd.tail)) ?_) ?_
  · rw [bds_flatten]; have := bArr_size p.bounds; simpa [bArr] using this
  · rw [bds_flatten]; exact bdC_oneCell _
  · rw [show zero8.size = 16 from rfl]; omega
  intro _u
  repeat' (first | refine TC.seq ?_ | refine TC.region ?_ | refine TR.nil ?_ | refine Post.then_normal ?_ | refine TC.ret ?_ | (apply TR.st1 (o := ⟨_, .load _ _, _, _, _, _⟩); exact rfl; exact rfl; exact rfl; (first | exact Wd.plain rfl | exact Wd.on rfl rfl rfl); (first | (apply EvS.load1; exact rfl; (first | exact Reads.mem (by assumption) | exact Reads.own (by repeat first | exact List.Mem.head _ | assumption | apply List.Mem.tail)); (first | assumption | exact nthL_arr rfl | exact rfl)) | (apply EvS.loadW; exact rfl; (first | exact Reads.mem (by assumption) | exact Reads.own (by repeat first | exact List.Mem.head _ | assumption | apply List.Mem.tail)); first | exact rfl | assumption) | (apply EvS.loadH; exact rfl; (first | exact Reads.mem (by assumption) | exact Reads.own (by repeat first | exact List.Mem.head _ | assumption | apply List.Mem.tail)); assumption; first | exact rfl | assumption))) | (apply TR.ch0 (o := ⟨_, .store _ _ _, _, _, _, _⟩) ; exact rfl; exact rfl; (first | exact Wd.plain rfl | exact Wd.on rfl rfl rfl); exact EvC.storeW rfl rfl (by first | exact rfl | assumption) (by first | exact bArr_one _ | exact rfl | (intro v hv; simp at hv; rcases hv with rfl | rfl | rfl | rfl | rfl | rfl | rfl | rfl <;> rfl)) (by repeat first | exact Upd.head | apply Upd.tail) (by first | exact rfl | assumption); rintro ⟨⟩))
  refine Post.body_ret _ (ResL.one rfl (ResV.cellW rfl (Reads.own (by repeat first | exact List.Mem.head _ | apply List.Mem.tail)) (by assumption))) ?_
  exact fun w h => ⟨rfl, h.tail.tail.tail⟩
end Go.Proofs.YtgpgjpcebajofaaGreatDoor
set_option maxHeartbeats 4000000
set_option linter.unusedVariables false
set_option linter.unusedSimpArgs false
set_option maxRecDepth 100000
namespace Go.Proofs.YtgpgjpcebajofaaGreatDoor
open Go Go.XC Go.RowKit Go.SetsP
attribute [local irreducible] Post TC TR D WL EvS EvC Wd ResL Code.wpIn Exit.then Exit.inBlock Exit.noGoto LoopK LoopP bodyPostM Reads Calls

theorem tb_iff (mask k : Nat) : (((mask >>> ((k : Nat) : Int).toNat &&& 1 : Nat) : Int) == 1) = mask.testBit k := by
  rw [Int.toNat_natCast, Nat.testBit, Nat.and_comm 1, Nat.and_one_is_mod]
  rcases Nat.mod_two_eq_zero_or_one (mask >>> k) with h | h <;> simp [h]
theorem shr_lt {mask k : Nat} (h : mask < 4096) : mask >>> k < 9223372036854775808 := Nat.lt_of_le_of_lt (Nat.shiftRight_le _ _) (by omega)

theorem allowed_c (A : Option Addr) (c : Nat) (l : List Bd) (e mask : Nat) (he : e < 64) (hmk : mask < 4096) (hl8 : l.length ≤ 8) (m : Mem) (L : Own) (w : World) (hs : St m L w) (hA : Sl m 2 A (bds l)) :
    Calls Tryz.prog 93 #[.slice A l.length c, .int .i64 (e : Int), .int .i64 (mask : Int)] w fun r w' => r = .returned (.bool (allowedB l e mask)) ∧ St m L w' := by
  refine calls_of_TC (args := [_, _, _]) Tryz.func93 rfl Tryz.ntmps93 (Nat.le_of_ble_eq_true rfl) hs ?_
  repeat' (first | refine TC.seq ?_ | refine TC.region ?_ | refine TR.nil ?_ | refine Post.then_normal ?_ | refine TC.block ?_ | (apply TR.st1; exact rfl; exact rfl; exact rfl; (first | exact Wd.plain rfl | exact Wd.on rfl rfl rfl); (first | exact EvS.move rfl | exact EvS.assign rfl | exact EvS.len rfl)))
  refine TC.loopP (X := Nat) (fun k => k ≤ l.length ∧ ∀ j y, j < k → l[j]? = some y → okAt e mask y j = true) (fun k => [(12, .int .i64 (k : Int)), (11, .int .i64 (l.length : Int)), (10, .slice A l.length c), (1, .int .i64 (e : Int)), (2, .int .i64 (mask : Int))]) (fun _ => St m L) (fun k => l.length - k) 0 ⟨by omega, fun j y h => by omega⟩ (incl.lk (by repeat first | exact trivial | refine ⟨rfl, ?_⟩)) (fun w h => h) ?_
  rintro k ⟨hk, hno⟩
  by_cases hlt : k < l.length
  · obtain ⟨y, hy⟩ : ∃ x, l[k]? = some x := ⟨_, List.getElem?_eq_getElem hlt⟩
    obtain ⟨g, o, blk, T, fr, hAe, hm, hc⟩ := hA.get (k := k) (cs := bdC y) (by simp [bds, hy])
    replace hc : CellsAt blk (o + (k : Int).toNat * 2) #[.int .u64 (y.lo.toNat : Int), .int .u64 (y.can.toNat : Int)] := hc
    have hd : decide ((k : Int) < (l.length : Int)) = true := by simpa using hlt
    have hshr := shr_lt (k := (k : Int).toNat) hmk
    repeat' (first | refine TC.seq ?_ | refine TC.region ?_ | refine TR.nil ?_ | refine Post.then_normal ?_ | refine TC.block ?_ | refine TC.skip ?_ | (apply TC.cond_bt; exact rfl; assumption) | (apply TR.st1; exact rfl; exact rfl; exact rfl; (first | exact Wd.plain rfl | exact Wd.on rfl rfl rfl); (first | exact EvS.move rfl | exact EvS.assign rfl | (first | (apply EvS.load1; exact rfl; (first | exact Reads.mem (by assumption) | exact Reads.own (by repeat first | exact List.Mem.head _ | assumption | apply List.Mem.tail)); (first | assumption | exact nthL_arr rfl | exact rfl)) | (apply EvS.loadW; exact rfl; (first | exact Reads.mem (by assumption) | exact Reads.own (by repeat first | exact List.Mem.head _ | assumption | apply List.Mem.tail)); first | exact rfl | assumption) | (apply EvS.loadH; exact rfl; (first | exact Reads.mem (by assumption) | exact Reads.own (by repeat first | exact List.Mem.head _ | assumption | apply List.Mem.tail)); assumption; first | exact rfl | assumption)) | exact EvS.ltI rfl rfl | (first | exact EvS.indexAddr rfl rfl (by first | exact rfl | assumption) (by omega) | exact EvS.indexAddrA rfl rfl (by omega)))) | (apply TR.ch1 (o := ⟨_, .alloc _, _, _, _, _⟩) ; exact rfl; exact rfl; exact rfl; (first | exact Wd.plain rfl | exact Wd.on rfl rfl rfl); exact EvC.alloc; intro g) | (apply TR.ch0 (o := ⟨_, .store _ _ _, _, _, _, _⟩) ; exact rfl; exact rfl; (first | exact Wd.plain rfl | exact Wd.on rfl rfl rfl); exact EvC.storeW rfl rfl (by first | exact rfl | assumption) (by first | exact bArr_one _ | exact rfl | (intro v hv; simp at hv; rcases hv with rfl | rfl | rfl | rfl | rfl | rfl | rfl | rfl <;> rfl)) (by repeat first | exact Upd.head | apply Upd.tail) (by first | exact rfl | assumption); rintro ⟨⟩))
    refine TR.st1 rfl rfl rfl (by first | exact Wd.plain rfl | exact Wd.on rfl rfl rfl) (EvS.shrI (a := mask) rfl rfl (by omega)) ?_
    refine TR.st1 rfl rfl rfl (by first | exact Wd.plain rfl | exact Wd.on rfl rfl rfl) (EvS.andI (b := 1) rfl rfl hshr (by omega)) ?_
    repeat' (first | refine TC.seq ?_ | refine TR.nil ?_ | refine Post.then_normal ?_ | (apply TR.st1; exact rfl; exact rfl; exact rfl; (first | exact Wd.plain rfl | exact Wd.on rfl rfl rfl); (first | exact EvS.assign rfl | (first | exact EvS.eq64 rfl rfl (by first | with_reducible exact U64.var _ | exact U64.lit rfl) (by first | with_reducible exact U64.var _ | exact U64.lit rfl) | exact EvS.eqI rfl rfl | exact EvS.eqB rfl rfl))))
    have hext : okAt e mask y k = true → ∀ j y, j < k + 1 → l[j]? = some y → okAt e mask y j = true := fun h0 j z hj hz => by
      by_cases e1 : j = k
      · subst e1; rw [hy] at hz; cases hz; exact h0
      · exact hno j z (by omega) hz
    have hall : okAt e mask y k = false → allowedB l e mask = false := fun h0 => by
      unfold allowedB
      rw [List.all_eq_false]
      exact ⟨(y, k), List.mk_mem_zipIdx_iff_getElem?.2 hy, by simp [h0]⟩
    rw [tb_iff]
    have hone : (bit e) = 1#64 <<< ((e : Int).toNat) := rfl
    by_cases hb : mask.testBit k = true
    · rw [hb]
      by_cases hz : has y.can e = true
      · have hq : ((y.can &&& 1#64 <<< ((e : Int).toNat)) == 0#64) = false := by rw [← hone, and_bit_eq _ _ he, hz]; rfl
        have hok : okAt e mask y k = true := by unfold okAt; rw [if_pos hb, hz]
        refine TC.draw_ [.st, .st, .st, .st, .st, .ch, .st, .st, .st, .st, .st, .st, .st, .sk, .sk, .sk, .sk, .sk, .sk, .st, .st] mixed rfl (by kernel_rfl) ?_
        repeat' (first | rw [hq] | (apply D.chx (o := ⟨_, .call _, _, _, _, _⟩); exact rfl; (first | exact Wd.plain rfl | exact Wd.on rfl rfl rfl); exact EvC.callV rfl rfl (fun w hs => one_c _ _ _ w hs (by omega)); exact inferInstance; exact (by first | exact fun _ _ h => StX.of0 h | exact fun _ _ h => StX.of1 h | exact fun _ _ h => StX.of2 h | exact fun _ _ h => StX.of3 h | exact fun _ _ h => StX.of h); rintro ⟨⟩) | (apply D.sk1; exact rfl; (first | exact Wd.off rfl rfl rfl rfl | exact Wd.offU rfl rfl rfl)) | (apply D.st1; exact rfl; (first | exact Wd.plain rfl | exact Wd.on rfl rfl rfl); (first | exact EvS.move rfl | exact EvS.fieldAddr rfl | (first | (apply EvS.load1; exact rfl; (first | exact Reads.memX (by assumption) | exact Reads.ownX (by repeat first | exact List.Mem.head _ | assumption | apply List.Mem.tail)); (first | assumption | exact nthL_arr rfl | exact rfl)) | (apply EvS.loadW; exact rfl; (first | exact Reads.memX (by assumption) | exact Reads.ownX (by repeat first | exact List.Mem.head _ | assumption | apply List.Mem.tail)); first | exact rfl | assumption) | (apply EvS.loadH; exact rfl; (first | exact Reads.memX (by assumption) | exact Reads.ownX (by repeat first | exact List.Mem.head _ | assumption | apply List.Mem.tail)); assumption; first | exact rfl | assumption)) | (first | exact EvS.not rfl | exact EvS.neg64 rfl (by first | with_reducible exact U64.var _ | exact U64.lit rfl)) | (first | exact EvS.eq64 rfl rfl (by first | with_reducible exact U64.var _ | exact U64.lit rfl) (by first | with_reducible exact U64.var _ | exact U64.lit rfl) | exact EvS.eqI rfl rfl | exact EvS.eqB rfl rfl) | exact EvS.and64 rfl rfl (by first | with_reducible exact U64.var _ | exact U64.lit rfl) (by first | with_reducible exact U64.var _ | exact U64.lit rfl) | (first | exact EvS.pick_t rfl rfl | exact EvS.pick_f rfl rfl))) | refine D.tail_ ?_)
        repeat' (first | refine TC.region ?_ | refine TR.nil ?_ | refine Post.then_normal ?_ | refine TC.skip ?_ | (apply TC.cond_f; exact rfl) | refine Post.block_normal ?_ | (apply TR.st1; exact rfl; exact rfl; exact rfl; (first | exact Wd.plain rfl | exact Wd.on rfl rfl rfl); (first | exact EvS.move rfl | (first | exact EvS.addI rfl rfl (by omega) | exact EvS.add64 rfl rfl (by first | with_reducible exact U64.var _ | exact U64.lit rfl) (by first | with_reducible exact U64.var _ | exact U64.lit rfl)))))
        refine Post.nextP (k + 1) ⟨by omega, hext hok⟩ (incl.lk (by repeat first | exact trivial | refine ⟨rfl, ?_⟩)) (fun w h => h.tail) (by omega)
      · have hq : ((y.can &&& 1#64 <<< ((e : Int).toNat)) == 0#64) = true := by rw [← hone, and_bit_eq _ _ he]; simp [hz]
        have hok : okAt e mask y k = false := by unfold okAt; rw [if_pos hb]; simpa using hz
        refine TC.draw_ [.st, .st, .st, .st, .st, .ch, .st, .st, .st, .st, .sk, .sk, .sk, .sk, .sk, .sk, .sk, .sk, .sk, .sk, .st] mixed rfl (by kernel_rfl) ?_
        repeat' (first | rw [hq] | (apply D.chx (o := ⟨_, .call _, _, _, _, _⟩); exact rfl; (first | exact Wd.plain rfl | exact Wd.on rfl rfl rfl); exact EvC.callV rfl rfl (fun w hs => one_c _ _ _ w hs (by omega)); exact inferInstance; exact (by first | exact fun _ _ h => StX.of0 h | exact fun _ _ h => StX.of1 h | exact fun _ _ h => StX.of2 h | exact fun _ _ h => StX.of3 h | exact fun _ _ h => StX.of h); rintro ⟨⟩) | (apply D.sk1; exact rfl; (first | exact Wd.off rfl rfl rfl rfl | exact Wd.offU rfl rfl rfl)) | (apply D.st1; exact rfl; (first | exact Wd.plain rfl | exact Wd.on rfl rfl rfl); (first | exact EvS.move rfl | exact EvS.fieldAddr rfl | (first | (apply EvS.load1; exact rfl; (first | exact Reads.memX (by assumption) | exact Reads.ownX (by repeat first | exact List.Mem.head _ | assumption | apply List.Mem.tail)); (first | assumption | exact nthL_arr rfl | exact rfl)) | (apply EvS.loadW; exact rfl; (first | exact Reads.memX (by assumption) | exact Reads.ownX (by repeat first | exact List.Mem.head _ | assumption | apply List.Mem.tail)); first | exact rfl | assumption) | (apply EvS.loadH; exact rfl; (first | exact Reads.memX (by assumption) | exact Reads.ownX (by repeat first | exact List.Mem.head _ | assumption | apply List.Mem.tail)); assumption; first | exact rfl | assumption)) | (first | exact EvS.eq64 rfl rfl (by first | with_reducible exact U64.var _ | exact U64.lit rfl) (by first | with_reducible exact U64.var _ | exact U64.lit rfl) | exact EvS.eqI rfl rfl | exact EvS.eqB rfl rfl) | exact EvS.and64 rfl rfl (by first | with_reducible exact U64.var _ | exact U64.lit rfl) (by first | with_reducible exact U64.var _ | exact U64.lit rfl) | (first | exact EvS.pick_t rfl rfl | exact EvS.pick_f rfl rfl))) | refine D.tail_ ?_)
        repeat' (first | refine TC.seq ?_ | refine TC.region ?_ | refine TR.nil ?_ | refine Post.then_normal ?_ | refine TC.ret ?_ | (apply TC.cond_t; exact rfl) | refine Post.then_ret ?_ | refine Post.block_ret ?_ | (apply TR.st1 (o := ⟨_, .assign _, _, _, _, _⟩); exact rfl; exact rfl; exact rfl; (first | exact Wd.plain rfl | exact Wd.on rfl rfl rfl); exact EvS.assign rfl))

        refine Post.body_ret _ (ResL.one rfl (ResV.tmp rfl)) ?_
        exact fun w h => ⟨by rw [hall hok], h.tail⟩
    · rw [Bool.not_eq_true] at hb
      rw [hb]
      have hok : okAt e mask y k = !has y.lo e := by unfold okAt; rw [if_neg (by simp [hb])]
      refine TC.draw_ [.st, .st, .sk, .sk, .sk, .sk, .sk, .sk, .st, .st, .st, .st, .st, .st, .st, .st, .ch, .st, .st, .st, .st] mixed rfl (by kernel_rfl) ?_
      repeat' (first | (apply D.chx (o := ⟨_, .call _, _, _, _, _⟩); exact rfl; (first | exact Wd.plain rfl | exact Wd.on rfl rfl rfl); exact EvC.callV rfl rfl (fun w hs => one_c _ _ _ w hs (by omega)); exact inferInstance; exact (by first | exact fun _ _ h => StX.of0 h | exact fun _ _ h => StX.of1 h | exact fun _ _ h => StX.of2 h | exact fun _ _ h => StX.of3 h | exact fun _ _ h => StX.of h); rintro ⟨⟩) | (apply D.sk1; exact rfl; (first | exact Wd.off rfl rfl rfl rfl | exact Wd.offU rfl rfl rfl)) | (apply D.st1; exact rfl; (first | exact Wd.plain rfl | exact Wd.on rfl rfl rfl); (first | exact EvS.move rfl | exact EvS.fieldAddr rfl | (first | (apply EvS.load1; exact rfl; (first | exact Reads.memX (by assumption) | exact Reads.ownX (by repeat first | exact List.Mem.head _ | assumption | apply List.Mem.tail)); (first | assumption | exact nthL_arr rfl | exact rfl)) | (apply EvS.loadW; exact rfl; (first | exact Reads.memX (by assumption) | exact Reads.ownX (by repeat first | exact List.Mem.head _ | assumption | apply List.Mem.tail)); first | exact rfl | assumption) | (apply EvS.loadH; exact rfl; (first | exact Reads.memX (by assumption) | exact Reads.ownX (by repeat first | exact List.Mem.head _ | assumption | apply List.Mem.tail)); assumption; first | exact rfl | assumption)) | (first | exact EvS.not rfl | exact EvS.neg64 rfl (by first | with_reducible exact U64.var _ | exact U64.lit rfl)) | (first | exact EvS.ne64 rfl rfl (by first | with_reducible exact U64.var _ | exact U64.lit rfl) (by first | with_reducible exact U64.var _ | exact U64.lit rfl) | exact EvS.neB rfl rfl | exact EvS.neI rfl rfl) | exact EvS.and64 rfl rfl (by first | with_reducible exact U64.var _ | exact U64.lit rfl) (by first | with_reducible exact U64.var _ | exact U64.lit rfl) | (first | exact EvS.pick_t rfl rfl | exact EvS.pick_f rfl rfl))) | refine D.tail_ ?_)
      repeat' (first | refine TC.seq ?_ | refine TC.region ?_ | refine TR.nil ?_ | refine Post.then_normal ?_ | refine TC.skip ?_ | refine TC.ret ?_ | refine Post.then_ret ?_ | refine Post.block_normal ?_ | refine Post.block_ret ?_ | (apply TC.cond; exact rfl; all_goals (intro h)) | (apply TR.st1; exact rfl; exact rfl; exact rfl; (first | exact Wd.plain rfl | exact Wd.on rfl rfl rfl); (first | exact EvS.move rfl | exact EvS.assign rfl | (first | exact EvS.addI rfl rfl (by omega) | exact EvS.add64 rfl rfl (by first | with_reducible exact U64.var _ | exact U64.lit rfl) (by first | with_reducible exact U64.var _ | exact U64.lit rfl)))))
      · rename_i h
        rw [← hone] at h
        have hok : okAt e mask y k = false := by rw [hok, ← and_bit_eq _ _ he]; simpa [bne] using h
        refine Post.body_ret _ (ResL.one rfl (ResV.tmp rfl)) ?_
        exact fun w h => ⟨by rw [hall hok], h.tail⟩
      · rename_i h
        rw [← hone] at h
        have hok : okAt e mask y k = true := by rw [hok, ← and_bit_eq _ _ he]; simpa [bne] using h
        refine Post.nextP (k + 1) ⟨by omega, hext hok⟩ (incl.lk (by repeat first | exact trivial | refine ⟨rfl, ?_⟩)) (fun w h => h.tail) (by omega)
  · have hd : decide ((k : Int) < (l.length : Int)) = false := by simpa using hlt
    repeat' (first | refine TC.seq ?_ | refine TC.region ?_ | refine TR.nil ?_ | refine Post.then_normal ?_ | refine TC.ret ?_ | refine TC.exit ?_ | (apply TC.cond_bf; exact rfl; assumption) | refine Post.then_exit ?_ | refine Post.block_here ?_ | (apply TR.st1; exact rfl; exact rfl; exact rfl; (first | exact Wd.plain rfl | exact Wd.on rfl rfl rfl); (first | exact EvS.assign rfl | exact EvS.ltI rfl rfl)))
    refine Post.body_ret _ (ResL.one rfl (ResV.tmp rfl)) ?_
    refine fun w h => ⟨?_, h⟩
    have : allowedB l e mask = true := by
      unfold allowedB
      rw [List.all_eq_true]
      rintro ⟨x, i⟩ hx
      rw [List.mk_mem_zipIdx_iff_getElem?] at hx
      exact hno i x (by have := (List.getElem?_eq_some_iff.1 hx).1; omega) hx
    rw [this]
end Go.Proofs.YtgpgjpcebajofaaGreatDoor
set_option maxHeartbeats 4000000
set_option linter.unusedVariables false
set_option linter.unusedSimpArgs false
set_option maxRecDepth 100000
namespace Go.Proofs.YtgpgjpcebajofaaGreatDoor
open Go Go.XC Go.RowKit Go.SetsP
attribute [local irreducible] Post TC TR D WL EvS EvC Wd ResL Code.wpIn Exit.then Exit.inBlock Exit.noGoto LoopK LoopP bodyPostM Reads Calls

theorem of_c' (b : List Bd) (r : Rl) (B : Option Addr) (c : Nat) (hb : b.length = 8) (hr : okR r) (m : Mem) (L : Own) (w : World) (hs : St m L w) (hB : Sl m 1 B (ints r.vars)) :
    Calls Tryz.prog 88 #[.agg (bArr b), rlV r B c] w fun e w' => ∃ x : { x : Mem × Option Addr × Nat // m.Le x.1 ∧ Sl x.1 2 x.2.1 (bds (ofB b r)) }, e = .returned (.slice x.1.2.1 (ofB b r).length x.1.2.2) ∧ St x.1.1 L w' := by
  have hn : (ofB b r).length = r.vars.length := by simp [ofB]
  have h3 : r.vars.length ≤ 1000 := by
    have h := hr.2.2.2
    have : varsZ r.kind ≤ 3 := by unfold varsZ; (repeat' split) <;> omega
    omega
  rw [hn]
  exact (of_c b r B c hb hr.1 h3 m L w hs hB).mono fun e w' ⟨x, h1, h2, h3, h4⟩ => ⟨⟨x, h2, h3⟩, h1, h4⟩

theorem tb_ne (k i : Nat) : (((k &&& 2 ^ i : Nat) : Int) != 0) = k.testBit i := by
  have h : k &&& 2 ^ i = (k.testBit i).toNat * 2 ^ i := by
    apply Nat.eq_of_testBit_eq
    intro j
    rw [Nat.testBit_and, Nat.testBit_two_pow]
    cases hb : k.testBit i
    · simp only [Bool.toNat_false, Nat.zero_mul, Nat.zero_testBit]
      by_cases e : i = j
      · subst e; simp [hb]
      · simp [e]
    · simp only [Bool.toNat_true, Nat.one_mul, Nat.testBit_two_pow]
      by_cases e : i = j
      · subst e; simp [hb]
      · simp [e]
  rw [h]
  cases k.testBit i
  · simp
  · have : 0 < 2 ^ i := Nat.two_pow_pos i
    simp only [Bool.toNat_true, Nat.one_mul]
    generalize 2 ^ i = q at *
    rw [bne_iff_ne]
    omega

theorem possible_c (b : List Bd) (r : Rl) (B : Option Addr) (c : Nat) (hb : okB b) (hr : okR r) (m : Mem) (hT : TabM m) (hB : Sl m 1 B (ints r.vars)) (L : Own) (w : World) (hs : St m L w) :
    Calls Tryz.prog 59 #[.agg (bArr b), rlV r B c] w fun e w' => e = .returned (.bool (possB b r)) ∧ St m L w' := by
  have hsz : (bArr b).size = 16 := by rw [bArr_size, hb.1]
  unfold rlV
  refine calls_of_TC (args := [_, _]) Tryz.func59 rfl Tryz.ntmps59 (Nat.le_of_ble_eq_true rfl) hs ?_
  repeat' (first | refine TC.seq ?_ | refine TC.region ?_ | refine TR.nil ?_ | refine Post.then_normal ?_ | refine TC.scope ?_ | (apply TR.st1 (o := ⟨_, .load _ _, _, _, _, _⟩); exact rfl; exact rfl; exact rfl; (first | exact Wd.plain rfl | exact Wd.on rfl rfl rfl); (first | (apply EvS.load1; exact rfl; (first | exact Reads.mem (by assumption) | exact Reads.own (by repeat first | exact List.Mem.head _ | assumption | apply List.Mem.tail)); (first | assumption | exact nthL_arr rfl | exact rfl)) | (apply EvS.loadW; exact rfl; (first | exact Reads.mem (by assumption) | exact Reads.own (by repeat first | exact List.Mem.head _ | assumption | apply List.Mem.tail)); first | exact rfl | assumption) | (apply EvS.loadH; exact rfl; (first | exact Reads.mem (by assumption) | exact Reads.own (by repeat first | exact List.Mem.head _ | assumption | apply List.Mem.tail)); assumption; first | exact rfl | assumption))) | (apply TR.ch1 (o := ⟨_, .box _ _, _, _, _, _⟩) ; exact rfl; exact rfl; exact rfl; (first | exact Wd.plain rfl | exact Wd.on rfl rfl rfl); exact EvC.boxA rfl; intro g) | (apply TR.ch1 (o := ⟨_, .alloc _, _, _, _, _⟩) ; exact rfl; exact rfl; exact rfl; (first | exact Wd.plain rfl | exact Wd.on rfl rfl rfl); exact EvC.alloc; intro g))
  refine TR.ch1 rfl rfl rfl (by first | exact Wd.plain rfl | exact Wd.on rfl rfl rfl) (EvC.callX rfl rfl (fun w hs => of_c' b r B c hb.1 hr _ _ w hs hB)) ?_
  rintro ⟨⟨m1, A, c1⟩, hle, hA⟩
  simp only at hle hA ⊢
  have hpo : ∀ w, St m1 L w → St m L w := fun w h => h.weaken hle
  obtain ⟨l, hl⟩ : ∃ l, l = ofB b r := ⟨_, rfl⟩
  by_cases hcl : (ofB b r).any clashB = true
  · have hp : possB b r = false := by unfold possB; rw [if_pos hcl]
    repeat' (first | (apply TR.ch1 (o := ⟨_, .call _, _, _, _, _⟩); exact rfl; exact rfl; exact rfl; (first | exact Wd.plain rfl | exact Wd.on rfl rfl rfl); exact EvC.callV rfl rfl (fun w hs => clash_c _ _ _ _ _ _ hs hA); rintro ⟨⟩) | rw [hcl] | refine TC.seq ?_ | refine TC.region ?_ | refine TR.nil ?_ | refine Post.then_normal ?_ | refine TC.ret ?_ | (apply TC.cond_t; exact rfl) | refine Post.then_ret ?_ | refine Post.scope_ret ?_ | (apply TR.st1 (o := ⟨_, .load _ _, _, _, _, _⟩); exact rfl; exact rfl; exact rfl; (first | exact Wd.plain rfl | exact Wd.on rfl rfl rfl); (first | (apply EvS.load1; exact rfl; (first | exact Reads.mem (by assumption) | exact Reads.own (by repeat first | exact List.Mem.head _ | assumption | apply List.Mem.tail)); (first | assumption | exact nthL_arr rfl | exact rfl)) | (apply EvS.loadW; exact rfl; (first | exact Reads.mem (by assumption) | exact Reads.own (by repeat first | exact List.Mem.head _ | assumption | apply List.Mem.tail)); first | exact rfl | assumption) | (apply EvS.loadH; exact rfl; (first | exact Reads.mem (by assumption) | exact Reads.own (by repeat first | exact List.Mem.head _ | assumption | apply List.Mem.tail)); assumption; first | exact rfl | assumption))) | (apply TR.ch1 (o := ⟨_, .alloc _, _, _, _, _⟩) ; exact rfl; exact rfl; exact rfl; (first | exact Wd.plain rfl | exact Wd.on rfl rfl rfl); exact EvC.alloc; intro g) | (apply TR.ch0 (o := ⟨_, .store _ _ _, _, _, _, _⟩) ; exact rfl; exact rfl; (first | exact Wd.plain rfl | exact Wd.on rfl rfl rfl); exact EvC.store1 rfl rfl rfl (by repeat first | exact Upd.head | apply Upd.tail) (by first | assumption | exact Nat.lt_of_sub_eq_succ rfl | (simp; omega) | simp); rintro ⟨⟩))
    refine Post.body_ret _ (ResL.one rfl (ResV.cell1 rfl (Reads.own (by repeat first | exact List.Mem.head _ | apply List.Mem.tail)) rfl)) ?_
    exact fun w h => ⟨by rw [hp]; rfl, hpo _ (by exact (by first | exact h | exact h.tail | exact h.tail.tail | exact h.tail.tail.tail | exact h.tail.tail.tail.tail | exact h.tail.tail.tail.tail.tail | exact h.tail.tail.tail.tail.tail.tail))⟩
  · rw [Bool.not_eq_true] at hcl
    by_cases h6 : r.kind = 6
    · have hk : (r.kind == 6) = true := by simp [h6]
      repeat' (first | (apply TR.ch1 (o := ⟨_, .call _, _, _, _, _⟩); exact rfl; exact rfl; exact rfl; (first | exact Wd.plain rfl | exact Wd.on rfl rfl rfl); exact EvC.callV rfl rfl (fun w hs => clash_c _ _ _ _ _ _ hs hA); rintro ⟨⟩) | rw [hcl] | rw [hk] | refine TC.seq ?_ | refine TC.region ?_ | refine TR.nil ?_ | refine Post.then_normal ?_ | refine TC.skip ?_ | (apply TC.cond_t; exact rfl) | (apply TC.cond_f; exact rfl) | (apply TR.st1; exact rfl; exact rfl; exact rfl; (first | exact Wd.plain rfl | exact Wd.on rfl rfl rfl); (first | exact EvS.fieldAddr rfl | (first | (apply EvS.load1; exact rfl; (first | exact Reads.mem (by assumption) | exact Reads.own (by repeat first | exact List.Mem.head _ | assumption | apply List.Mem.tail)); (first | assumption | exact nthL_arr rfl | exact rfl)) | (apply EvS.loadW; exact rfl; (first | exact Reads.mem (by assumption) | exact Reads.own (by repeat first | exact List.Mem.head _ | assumption | apply List.Mem.tail)); first | exact rfl | assumption) | (apply EvS.loadH; exact rfl; (first | exact Reads.mem (by assumption) | exact Reads.own (by repeat first | exact List.Mem.head _ | assumption | apply List.Mem.tail)); assumption; first | exact rfl | assumption)) | (first | exact EvS.eq64 rfl rfl (by first | with_reducible exact U64.var _ | exact U64.lit rfl) (by first | with_reducible exact U64.var _ | exact U64.lit rfl) | exact EvS.eqI rfl rfl | exact EvS.eqB rfl rfl))) | (apply TR.ch1 (o := ⟨_, .alloc _, _, _, _, _⟩) ; exact rfl; exact rfl; exact rfl; (first | exact Wd.plain rfl | exact Wd.on rfl rfl rfl); exact EvC.alloc; intro g) | (apply TR.ch0 (o := ⟨_, .store _ _ _, _, _, _, _⟩) ; exact rfl; exact rfl; (first | exact Wd.plain rfl | exact Wd.on rfl rfl rfl); exact EvC.store1 rfl rfl rfl (by repeat first | exact Upd.head | apply Upd.tail) (by first | assumption | exact Nat.lt_of_sub_eq_succ rfl | (simp; omega) | simp); rintro ⟨⟩))
      have hlen : (ofB b r).length = 1 := by
        have h := hr.2.2.2
        rw [h6, show varsZ 6 = 1 from rfl] at h
        simp [ofB]; omega
      obtain ⟨y, hy⟩ : ∃ y, ofB b r = [y] := List.length_eq_one_iff.1 hlen
      have hyb : small y.lo ∧ small y.can := by
        have : y ∈ ofB b r := by rw [hy]; simp
        obtain ⟨v, hv, rfl⟩ := List.mem_map.1 this
        have := hr.1 v hv
        unfold nth
        rw [List.getD_eq_getElem?_getD, List.getElem?_eq_getElem (by have := hb.1; omega)]
        exact hb.2 _ (List.getElem_mem _)
      obtain ⟨ga, o, blk, T, fr, hAe, hm, hc⟩ := hA.get (k := 0) (cs := bdC y) (by rw [hy]; rfl)
      have hlo : blk[o + Int.toNat 0 * 2 + 0]? = some (.int .u64 (y.lo.toNat : Int)) := hc 0 _ rfl
      have hcan : blk[o + Int.toNat 0 * 2 + 1]? = some (.int .u64 (y.can.toNat : Int)) := hc 1 _ rfl
      have hp : possB b r = (decide ((pop y.lo : Int) ≤ r.high) && decide ((pop y.can : Int) ≥ r.low)) := by unfold possB; rw [if_neg (by rw [hcl]; simp), if_pos h6, hy]; rfl
      by_cases hq : decide ((pop y.lo : Int) ≤ r.high) = true
      · refine TC.draw_ [.st, .st, .st, .st, .ch, .st, .st, .st, .st, .st, .st, .st, .st, .ch, .st, .st, .st, .st] mixed rfl (by kernel_rfl) ?_
        repeat' (first | rw [hq] | (apply D.chx (o := ⟨_, .call _, _, _, _, _⟩); exact rfl; (first | exact Wd.plain rfl | exact Wd.on rfl rfl rfl); exact EvC.callV rfl rfl (fun w hs => pop_c y.lo hyb.1 _ _ w hs); exact inferInstance; exact (by first | exact fun _ _ h => StX.of0 h | exact fun _ _ h => StX.of1 h | exact fun _ _ h => StX.of2 h | exact fun _ _ h => StX.of3 h | exact fun _ _ h => StX.of h); rintro ⟨⟩) | (apply D.chx (o := ⟨_, .call _, _, _, _, _⟩); exact rfl; (first | exact Wd.plain rfl | exact Wd.on rfl rfl rfl); exact EvC.callV rfl rfl (fun w hs => pop_c y.can hyb.2 _ _ w hs); exact inferInstance; exact (by first | exact fun _ _ h => StX.of0 h | exact fun _ _ h => StX.of1 h | exact fun _ _ h => StX.of2 h | exact fun _ _ h => StX.of3 h | exact fun _ _ h => StX.of h); rintro ⟨⟩) | (apply D.st1; exact rfl; (first | exact Wd.plain rfl | exact Wd.on rfl rfl rfl); (first | exact EvS.move rfl | exact EvS.fieldAddr rfl | (first | (apply EvS.load1; exact rfl; (first | exact Reads.memX (by assumption) | exact Reads.ownX (by repeat first | exact List.Mem.head _ | assumption | apply List.Mem.tail)); (first | assumption | exact nthL_arr rfl | exact rfl)) | (apply EvS.loadW; exact rfl; (first | exact Reads.memX (by assumption) | exact Reads.ownX (by repeat first | exact List.Mem.head _ | assumption | apply List.Mem.tail)); first | exact rfl | assumption) | (apply EvS.loadH; exact rfl; (first | exact Reads.memX (by assumption) | exact Reads.ownX (by repeat first | exact List.Mem.head _ | assumption | apply List.Mem.tail)); assumption; first | exact rfl | assumption)) | exact EvS.leI rfl rfl | exact EvS.geI rfl rfl | (first | exact EvS.pick_t rfl rfl | exact EvS.pick_f rfl rfl) | (first | exact EvS.indexAddr rfl rfl (by first | exact rfl | assumption) (by omega) | exact EvS.indexAddrA rfl rfl (by omega)))) | refine D.tail_ ?_)
        repeat' (first | refine TR.nil ?_ | refine Post.then_normal ?_ | refine TC.ret ?_ | refine Post.then_ret ?_ | refine Post.scope_ret ?_ | (apply TR.ch0 (o := ⟨_, .store _ _ _, _, _, _, _⟩) ; exact rfl; exact rfl; (first | exact Wd.plain rfl | exact Wd.on rfl rfl rfl); exact EvC.store1 rfl rfl rfl (by repeat first | exact Upd.head | apply Upd.tail) (by first | assumption | exact Nat.lt_of_sub_eq_succ rfl | (simp; omega) | simp); rintro ⟨⟩))
        refine Post.body_ret _ (ResL.one rfl (ResV.cell1 rfl (Reads.own (by repeat first | exact List.Mem.head _ | apply List.Mem.tail)) rfl)) ?_
        exact fun w h => ⟨by rw [hp, hq]; rfl, hpo _ (by exact (by first | exact h | exact h.tail | exact h.tail.tail | exact h.tail.tail.tail | exact h.tail.tail.tail.tail | exact h.tail.tail.tail.tail.tail | exact h.tail.tail.tail.tail.tail.tail))⟩
      · rw [Bool.not_eq_true] at hq
        refine TC.draw_ [.st, .st, .st, .st, .ch, .st, .st, .st, .st, .sk, .sk, .sk, .sk, .sk, .sk, .sk, .sk, .st] mixed rfl (by kernel_rfl) ?_
        repeat' (first | rw [hq] | (apply D.chx (o := ⟨_, .call _, _, _, _, _⟩); exact rfl; (first | exact Wd.plain rfl | exact Wd.on rfl rfl rfl); exact EvC.callV rfl rfl (fun w hs => pop_c y.lo hyb.1 _ _ w hs); exact inferInstance; exact (by first | exact fun _ _ h => StX.of0 h | exact fun _ _ h => StX.of1 h | exact fun _ _ h => StX.of2 h | exact fun _ _ h => StX.of3 h | exact fun _ _ h => StX.of h); rintro ⟨⟩) | (apply D.sk1; exact rfl; (first | exact Wd.off rfl rfl rfl rfl | exact Wd.offU rfl rfl rfl)) | (apply D.st1; exact rfl; (first | exact Wd.plain rfl | exact Wd.on rfl rfl rfl); (first | exact EvS.move rfl | exact EvS.fieldAddr rfl | (first | (apply EvS.load1; exact rfl; (first | exact Reads.memX (by assumption) | exact Reads.ownX (by repeat first | exact List.Mem.head _ | assumption | apply List.Mem.tail)); (first | assumption | exact nthL_arr rfl | exact rfl)) | (apply EvS.loadW; exact rfl; (first | exact Reads.memX (by assumption) | exact Reads.ownX (by repeat first | exact List.Mem.head _ | assumption | apply List.Mem.tail)); first | exact rfl | assumption) | (apply EvS.loadH; exact rfl; (first | exact Reads.memX (by assumption) | exact Reads.ownX (by repeat first | exact List.Mem.head _ | assumption | apply List.Mem.tail)); assumption; first | exact rfl | assumption)) | exact EvS.leI rfl rfl | (first | exact EvS.pick_t rfl rfl | exact EvS.pick_f rfl rfl) | (first | exact EvS.indexAddr rfl rfl (by first | exact rfl | assumption) (by omega) | exact EvS.indexAddrA rfl rfl (by omega)))) | refine D.tail_ ?_)
        repeat' (first | refine TR.nil ?_ | refine Post.then_normal ?_ | refine TC.ret ?_ | refine Post.then_ret ?_ | refine Post.scope_ret ?_ | (apply TR.ch0 (o := ⟨_, .store _ _ _, _, _, _, _⟩) ; exact rfl; exact rfl; (first | exact Wd.plain rfl | exact Wd.on rfl rfl rfl); exact EvC.store1 rfl rfl rfl (by repeat first | exact Upd.head | apply Upd.tail) (by first | assumption | exact Nat.lt_of_sub_eq_succ rfl | (simp; omega) | simp); rintro ⟨⟩))
        refine Post.body_ret _ (ResL.one rfl (ResV.cell1 rfl (Reads.own (by repeat first | exact List.Mem.head _ | apply List.Mem.tail)) rfl)) ?_
        exact fun w h => ⟨by rw [hp, hq]; rfl, hpo _ (by exact (by first | exact h | exact h.tail | exact h.tail.tail | exact h.tail.tail.tail | exact h.tail.tail.tail.tail | exact h.tail.tail.tail.tail.tail | exact h.tail.tail.tail.tail.tail.tail))⟩
    · have hk : (r.kind == 6) = false := by simpa using h6
      have hk1 : 1 ≤ r.kind := hr.2.1
      have hk5 : r.kind ≤ 5 := by have := hr.2.2.1; omega
      have hfi := askF_enters hk1 hk5
      repeat' (first | (apply TR.ch1 (o := ⟨_, .call _, _, _, _, _⟩); exact rfl; exact rfl; exact rfl; (first | exact Wd.plain rfl | exact Wd.on rfl rfl rfl); exact EvC.callV rfl rfl (fun w hs => clash_c _ _ _ _ _ _ hs hA); rintro ⟨⟩) | rw [hcl] | rw [hk] | (apply TR.ch1 (o := ⟨_, .call _, _, _, _, _⟩); exact rfl; exact rfl; exact rfl; (first | exact Wd.plain rfl | exact Wd.on rfl rfl rfl); exact EvC.callV rfl rfl (fun w hs => asked_c hk1 hk5 _ _ _ hs); rintro ⟨⟩) | refine TC.seq ?_ | refine TC.region ?_ | refine TR.nil ?_ | refine Post.then_normal ?_ | refine TC.skip ?_ | refine TC.label ?_ | (apply TC.cond_f; exact rfl) | (apply TR.st1; exact rfl; exact rfl; exact rfl; (first | exact Wd.plain rfl | exact Wd.on rfl rfl rfl); (first | exact EvS.fieldAddr rfl | (first | (apply EvS.load1; exact rfl; (first | exact Reads.mem (by assumption) | exact Reads.own (by repeat first | exact List.Mem.head _ | assumption | apply List.Mem.tail)); (first | assumption | exact nthL_arr rfl | exact rfl)) | (apply EvS.loadW; exact rfl; (first | exact Reads.mem (by assumption) | exact Reads.own (by repeat first | exact List.Mem.head _ | assumption | apply List.Mem.tail)); first | exact rfl | assumption) | (apply EvS.loadH; exact rfl; (first | exact Reads.mem (by assumption) | exact Reads.own (by repeat first | exact List.Mem.head _ | assumption | apply List.Mem.tail)); assumption; first | exact rfl | assumption)) | (first | exact EvS.eq64 rfl rfl (by first | with_reducible exact U64.var _ | exact U64.lit rfl) (by first | with_reducible exact U64.var _ | exact U64.lit rfl) | exact EvS.eqI rfl rfl | exact EvS.eqB rfl rfl))) | (apply TR.ch1 (o := ⟨_, .alloc _, _, _, _, _⟩) ; exact rfl; exact rfl; exact rfl; (first | exact Wd.plain rfl | exact Wd.on rfl rfl rfl); exact EvC.alloc; intro g) | (apply TR.ch0 (o := ⟨_, .store _ _ _, _, _, _, _⟩) ; exact rfl; exact rfl; (first | exact Wd.plain rfl | exact Wd.on rfl rfl rfl); exact EvC.store1 rfl rfl rfl (by repeat first | exact Upd.head | apply Upd.tail) (by first | assumption | exact Nat.lt_of_sub_eq_succ rfl | (simp; omega) | simp); rintro ⟨⟩))
      rename_i gb gr gt gs
      obtain ⟨L1, hL1⟩ : ∃ L1 : Own, L1 = some (g, .cells #[.func (.func (askF r.kind)) #[] #[]] 121 (0, 0)) :: some (gs, .cells #[.slice A (ofB b r).length c1] 22 (0, 0)) :: some (gt, .cells #[.bool false] 4 (0, 0)) :: some (gr, .cells #[.int .i64 r.kind, .slice B r.vars.length c, .int .i64 r.low, .int .i64 r.high] 62 (0, 0)) :: some (gb, .cells (bArr b) 89 (0, 0)) :: L := ⟨_, rfl⟩
      refine TR.turn (fun w h => (show St m1 L1 w by rw [hL1]; exact h)) ?_
      refine TR.ch1 rfl rfl rfl (by first | exact Wd.plain rfl | exact Wd.on rfl rfl rfl) (EvC.callX rfl rfl (fun w hs => elements_c 4095#64 _ _ w hs)) ?_
      intro ge
      repeat' (first | refine TR.nil ?_ | refine Post.then_normal ?_ | refine TC.block ?_)
      have hel : elems 4095#64 = List.range 12 := by kernel_rfl
      have hit := iter_c 4095#64 (by unfold small; decide) ge 39 m1 (hT.mono hle)
      have hn3 : (ofB b r).length ≤ 3 := by
        have h := hr.2.2.2
        have : varsZ r.kind ≤ 3 := by unfold varsZ; (repeat' split) <;> omega
        simp [ofB]; omega
      have hpow8 : 2 ^ (ofB b r).length ≤ 8 := by
        have : (ofB b r).length = 0 ∨ (ofB b r).length = 1 ∨ (ofB b r).length = 2 ∨ (ofB b r).length = 3 := by omega
        rcases this with h | h | h | h <;> rw [h] <;> decide
      have hpow : 1 * 2 ^ (ofB b r).length < 9223372036854775808 := by omega
      refine TC.turn (fun w h => (show St m1 (L1 ++ [some (ge, .cells #[.int .u64 ((4095#64).toNat : Int)] 39 (0, 0))]) w from h.perm (List.perm_append_comm (l₁ := [_])))) ?_
      refine TC.rangeFunc rfl rfl hit (fun pre m Lc => m1.Le m ∧ Lc = L1 ∧ ∀ e : Nat, Value.int .i64 (e : Int) ∈ pre → elemB (ofB b r) r.kind e = true) (fun c pre m Lc => c = .ret ∧ m1.Le m ∧ Lc = L1 ∧ possB b r = false) ⟨Mem.Le.refl _, rfl, by simp⟩ ?_ ?_ ?_
      · rintro l gd rec pre x rest m2 Lc Li hxs ⟨hle2, rfl, hall⟩
        obtain ⟨e, he, rfl⟩ : ∃ e : Nat, e < 12 ∧ x = .int .i64 (e : Int) := by
          have : x ∈ nats (elems 4095#64) := by rw [hxs]; simp
          rw [hel] at this
          obtain ⟨e, he, rfl⟩ := List.mem_map.1 this
          exact ⟨e, by simpa using he, rfl⟩
        repeat' (first | refine TC.region ?_ | refine TR.nil ?_ | (apply TR.st1 (o := ⟨_, .assign _, _, _, _, _⟩); exact rfl; exact rfl; exact rfl; (first | exact Wd.plain rfl | exact Wd.on rfl rfl rfl); exact EvS.assign rfl))
        refine Post.asg (Mem.Le.refl _) ?_
        subst hL1
        repeat' (first | refine TC.seq ?_ | refine TC.region ?_ | refine TR.nil ?_ | refine Post.then_normal ?_ | refine TC.block ?_ | (apply TR.st1; exact rfl; exact rfl; exact rfl; (first | exact Wd.plain rfl | exact Wd.on rfl rfl rfl); (first | (first | exact EvS.shlI (a := 1) rfl rfl (by omega) hpow | exact EvS.shl64 rfl rfl (by first | with_reducible exact U64.var _ | exact U64.lit rfl) (by omega)) | exact EvS.move rfl | (first | (apply EvS.load1; exact rfl; (first | exact Reads.mem (by assumption) | exact Reads.own (by repeat first | exact List.Mem.head _ | assumption | apply List.Mem.tail)); (first | assumption | exact nthL_arr rfl | exact rfl)) | (apply EvS.loadW; exact rfl; (first | exact Reads.mem (by assumption) | exact Reads.own (by repeat first | exact List.Mem.head _ | assumption | apply List.Mem.tail)); first | exact rfl | assumption) | (apply EvS.loadH; exact rfl; (first | exact Reads.mem (by assumption) | exact Reads.own (by repeat first | exact List.Mem.head _ | assumption | apply List.Mem.tail)); assumption; first | exact rfl | assumption)) | exact EvS.len rfl)))
        refine TC.loopP (X := Nat) (fun k => k ≤ 2 ^ (ofB b r).length ∧ ∀ j, j < k → wayB (ofB b r) r.kind e j = false)
          (fun k => [(43, .int .i64 (k : Int)), (42, .int .i64 ((1 * 2 ^ (ofB b r).length : Nat) : Int)), (7, .int .i64 (e : Int)), (5, .pointer (some ⟨gs, 0, none⟩)), (6, .pointer (some ⟨g, 0, none⟩)), (4, .pointer (some ⟨gt, 0, none⟩))])
          (fun _ => St m2 _) (fun k => 2 ^ (ofB b r).length - k) 0 ⟨by omega, fun j h => by omega⟩ (incl.lk (by repeat first | exact trivial | refine ⟨rfl, ?_⟩)) (fun w h => h) ?_
        rintro k ⟨hk, hno⟩
        by_cases hlt : k < 2 ^ (ofB b r).length
        · have hd : decide ((k : Int) < ((1 * 2 ^ (ofB b r).length : Nat) : Int)) = true := by simp only [decide_eq_true_eq]; omega
          have hk63 : k < 9223372036854775808 := by omega
          have t0 : (((k &&& 1 : Nat) : Int) != 0) = k.testBit 0 := tb_ne k 0
          have t1 : (((k &&& 2 : Nat) : Int) != 0) = k.testBit 1 := tb_ne k 1
          have t2 : (((k &&& 4 : Nat) : Int) != 0) = k.testBit 2 := tb_ne k 2
          have hnext : wayB (ofB b r) r.kind e k = false → ∀ j, j < k + 1 → wayB (ofB b r) r.kind e j = false := fun h0 j hj => by
            by_cases e1 : j = k
            · subst e1; exact h0
            · exact hno j (by omega)
          by_cases hal : allowedB (ofB b r) e k = true
          · by_cases hask : asksB r.kind (((k &&& 1 : Nat) : Int) != 0) (((k &&& 2 : Nat) : Int) != 0) (((k &&& 4 : Nat) : Int) != 0) = true
            · have hway : wayB (ofB b r) r.kind e k = true := by unfold wayB; rw [hal, ← t0, ← t1, ← t2, hask]; rfl
              repeat' (first | (apply TR.ch1; exact rfl; exact rfl; exact rfl; (first | exact Wd.plain rfl | exact Wd.on rfl rfl rfl); (first | exact EvC.callV rfl rfl (fun w hs => allowed_c _ _ _ e k (by omega) (by omega) (by omega) _ _ _ hs (hA.mono hle2)) | exact EvC.callV rfl rfl (fun w hs => ask_c hk1 hk5 _ _ _ _ _ _ hs)); rintro ⟨⟩) | refine TC.seq ?_ | refine TC.region ?_ | refine TR.nil ?_ | refine Post.then_normal ?_ | refine TC.block ?_ | refine TC.skip ?_ | refine TC.exit ?_ | (apply TC.cond_bt; exact rfl; assumption) | refine Post.then_exit ?_ | refine Post.block_here ?_ | refine Post.block_past (by decide) ?_ | (apply TR.gs_t (o := ⟨_, .move _, _, _, _, _⟩); exact rfl; exact rfl; exact rfl; exact rfl; (first | exact Wd.plain rfl | exact Wd.on rfl rfl rfl); exact EvS.move rfl; (first | exact rfl | assumption)) | (apply TR.st1; exact rfl; exact rfl; exact rfl; (first | exact Wd.plain rfl | exact Wd.on rfl rfl rfl); (first | (first | exact EvS.andI (a := k) (b := 1) rfl rfl hk63 (by omega) | exact EvS.andI (a := k) (b := 2) rfl rfl hk63 (by omega) | exact EvS.andI (a := k) (b := 4) rfl rfl hk63 (by omega) | exact EvS.and64 rfl rfl (by first | with_reducible exact U64.var _ | exact U64.lit rfl) (by first | with_reducible exact U64.var _ | exact U64.lit rfl)) | exact EvS.buildV rfl (by kernel_rfl) | exact EvS.move rfl | exact EvS.assign rfl | (first | (apply EvS.load1; exact rfl; (first | exact Reads.mem (by assumption) | exact Reads.own (by repeat first | exact List.Mem.head _ | assumption | apply List.Mem.tail)); (first | assumption | exact nthL_arr rfl | exact rfl)) | (apply EvS.loadW; exact rfl; (first | exact Reads.mem (by assumption) | exact Reads.own (by repeat first | exact List.Mem.head _ | assumption | apply List.Mem.tail)); first | exact rfl | assumption) | (apply EvS.loadH; exact rfl; (first | exact Reads.mem (by assumption) | exact Reads.own (by repeat first | exact List.Mem.head _ | assumption | apply List.Mem.tail)); assumption; first | exact rfl | assumption)) | (first | exact EvS.ne64 rfl rfl (by first | with_reducible exact U64.var _ | exact U64.lit rfl) (by first | with_reducible exact U64.var _ | exact U64.lit rfl) | exact EvS.neB rfl rfl | exact EvS.neI rfl rfl) | exact EvS.ltI rfl rfl | (first | exact EvS.pick_t rfl rfl | exact EvS.pick_f rfl rfl))))
              refine Post.rq (_ :: _ :: _ :: _ :: _ :: L) (Mem.Le.refl _) ⟨hle2, rfl, fun e' he' => ?_⟩
              rcases List.mem_append.1 he' with h1 | h1
              · exact hall e' h1
              · have : e' = e := by have h2 : (e' : Int) = (e : Int) := by simpa using h1
                                    omega
                subst this
                unfold elemB
                rw [List.any_eq_true]
                exact ⟨k, by simpa using hlt, hway⟩
            · rw [Bool.not_eq_true] at hask
              have hway : wayB (ofB b r) r.kind e k = false := by unfold wayB; rw [hal, ← t0, ← t1, ← t2, hask]; rfl
              repeat' (first | (apply TR.ch1; exact rfl; exact rfl; exact rfl; (first | exact Wd.plain rfl | exact Wd.on rfl rfl rfl); (first | exact EvC.callV rfl rfl (fun w hs => allowed_c _ _ _ e k (by omega) (by omega) (by omega) _ _ _ hs (hA.mono hle2)) | exact EvC.callV rfl rfl (fun w hs => ask_c hk1 hk5 _ _ _ _ _ _ hs)); rintro ⟨⟩) | refine TC.seq ?_ | refine TC.region ?_ | refine TR.nil ?_ | refine Post.then_normal ?_ | refine TC.block ?_ | refine TC.skip ?_ | (apply TC.cond_bt; exact rfl; assumption) | (apply TC.cond_bf; exact rfl; assumption) | refine Post.block_normal ?_ | (apply TR.gs_t (o := ⟨_, .move _, _, _, _, _⟩); exact rfl; exact rfl; exact rfl; exact rfl; (first | exact Wd.plain rfl | exact Wd.on rfl rfl rfl); exact EvS.move rfl; (first | exact rfl | assumption)) | (apply TR.st1; exact rfl; exact rfl; exact rfl; (first | exact Wd.plain rfl | exact Wd.on rfl rfl rfl); (first | (first | exact EvS.andI (a := k) (b := 1) rfl rfl hk63 (by omega) | exact EvS.andI (a := k) (b := 2) rfl rfl hk63 (by omega) | exact EvS.andI (a := k) (b := 4) rfl rfl hk63 (by omega) | exact EvS.and64 rfl rfl (by first | with_reducible exact U64.var _ | exact U64.lit rfl) (by first | with_reducible exact U64.var _ | exact U64.lit rfl)) | exact EvS.buildV rfl (by kernel_rfl) | exact EvS.move rfl | exact EvS.assign rfl | (first | (apply EvS.load1; exact rfl; (first | exact Reads.mem (by assumption) | exact Reads.own (by repeat first | exact List.Mem.head _ | assumption | apply List.Mem.tail)); (first | assumption | exact nthL_arr rfl | exact rfl)) | (apply EvS.loadW; exact rfl; (first | exact Reads.mem (by assumption) | exact Reads.own (by repeat first | exact List.Mem.head _ | assumption | apply List.Mem.tail)); first | exact rfl | assumption) | (apply EvS.loadH; exact rfl; (first | exact Reads.mem (by assumption) | exact Reads.own (by repeat first | exact List.Mem.head _ | assumption | apply List.Mem.tail)); assumption; first | exact rfl | assumption)) | (first | exact EvS.ne64 rfl rfl (by first | with_reducible exact U64.var _ | exact U64.lit rfl) (by first | with_reducible exact U64.var _ | exact U64.lit rfl) | exact EvS.neB rfl rfl | exact EvS.neI rfl rfl) | exact EvS.ltI rfl rfl | (first | exact EvS.addI rfl rfl (by omega) | exact EvS.add64 rfl rfl (by first | with_reducible exact U64.var _ | exact U64.lit rfl) (by first | with_reducible exact U64.var _ | exact U64.lit rfl)) | (first | exact EvS.pick_t rfl rfl | exact EvS.pick_f rfl rfl))))
              exact Post.nextP (k + 1) ⟨by omega, hnext hway⟩ (incl.lk (by repeat first | exact trivial | refine ⟨rfl, ?_⟩)) (fun w h => h) (by omega)
          · rw [Bool.not_eq_true] at hal
            have hway : wayB (ofB b r) r.kind e k = false := by unfold wayB; rw [hal]; rfl
            repeat' (first | (apply TR.ch1 (o := ⟨_, .call _, _, _, _, _⟩); exact rfl; exact rfl; exact rfl; (first | exact Wd.plain rfl | exact Wd.on rfl rfl rfl); exact EvC.callV rfl rfl (fun w hs => allowed_c _ _ _ e k (by omega) (by omega) (by omega) _ _ _ hs (hA.mono hle2)); rintro ⟨⟩) | refine TC.seq ?_ | refine TC.region ?_ | refine TR.nil ?_ | refine Post.then_normal ?_ | refine TC.block ?_ | refine TC.skip ?_ | (apply TC.cond_f; exact rfl) | (apply TC.cond_bt; exact rfl; assumption) | refine Post.block_normal ?_ | (apply TR.sk1 (o := ⟨_, _, _, _, _, some _⟩); exact rfl; exact rfl; (first | exact Wd.off rfl rfl rfl rfl | exact Wd.offU rfl rfl rfl)) | (apply TR.gs_f (o := ⟨_, .move _, _, _, _, _⟩); exact rfl; exact rfl; exact rfl; exact rfl; (first | exact Wd.plain rfl | exact Wd.on rfl rfl rfl); exact EvS.move rfl; (first | exact rfl | assumption)) | (apply TR.st1; exact rfl; exact rfl; exact rfl; (first | exact Wd.plain rfl | exact Wd.on rfl rfl rfl); (first | exact EvS.move rfl | exact EvS.assign rfl | (first | (apply EvS.load1; exact rfl; (first | exact Reads.mem (by assumption) | exact Reads.own (by repeat first | exact List.Mem.head _ | assumption | apply List.Mem.tail)); (first | assumption | exact nthL_arr rfl | exact rfl)) | (apply EvS.loadW; exact rfl; (first | exact Reads.mem (by assumption) | exact Reads.own (by repeat first | exact List.Mem.head _ | assumption | apply List.Mem.tail)); first | exact rfl | assumption) | (apply EvS.loadH; exact rfl; (first | exact Reads.mem (by assumption) | exact Reads.own (by repeat first | exact List.Mem.head _ | assumption | apply List.Mem.tail)); assumption; first | exact rfl | assumption)) | exact EvS.ltI rfl rfl | (first | exact EvS.addI rfl rfl (by omega) | exact EvS.add64 rfl rfl (by first | with_reducible exact U64.var _ | exact U64.lit rfl) (by first | with_reducible exact U64.var _ | exact U64.lit rfl)) | (first | exact EvS.pick_t rfl rfl | exact EvS.pick_f rfl rfl))))
            exact Post.nextP (k + 1) ⟨by omega, hnext hway⟩ (incl.lk (by repeat first | exact trivial | refine ⟨rfl, ?_⟩)) (fun w h => h) (by omega)
        · have hd : decide ((k : Int) < ((1 * 2 ^ (ofB b r).length : Nat) : Int)) = false := by simp only [decide_eq_false_iff_not]; omega
          have hp : possB b r = false := by
            unfold possB
            rw [if_neg (by rw [hcl]; simp), if_neg h6, List.all_eq_false]
            refine ⟨e, by simpa using he, ?_⟩
            rw [Bool.not_eq_true]
            unfold elemB
            rw [List.any_eq_false]
            intro j hj
            rw [hno j (by have := List.mem_range.1 hj; omega)]
            simp
          repeat' (first | refine TC.seq ?_ | refine TC.region ?_ | refine TR.nil ?_ | refine Post.then_normal ?_ | refine TC.ret ?_ | refine TC.exit ?_ | (apply TC.cond_bf; exact rfl; assumption) | refine Post.then_exit ?_ | refine Post.block_ret ?_ | refine Post.block_here ?_ | (apply TR.st1 (o := ⟨_, .binOp .lss _ _ _ _, _, _, _, _⟩); exact rfl; exact rfl; exact rfl; (first | exact Wd.plain rfl | exact Wd.on rfl rfl rfl); exact EvS.ltI rfl rfl) | (apply TR.ch0 (o := ⟨_, .store _ _ _, _, _, _, _⟩) ; exact rfl; exact rfl; (first | exact Wd.plain rfl | exact Wd.on rfl rfl rfl); exact EvC.store1 rfl rfl rfl (by repeat first | exact Upd.head | apply Upd.tail) (by first | assumption | exact Nat.lt_of_sub_eq_succ rfl | (simp; omega) | simp); rintro ⟨⟩))
          exact Post.rq_ret (_ :: _ :: _ :: _ :: _ :: L) (Mem.Le.refl _) ⟨rfl, hle2, rfl, hp⟩
      · rintro gd m2 Lc ⟨hle2, rfl, hall⟩
        have hp : possB b r = true := by
          unfold possB
          rw [if_neg (by rw [hcl]; simp), if_neg h6, List.all_eq_true]
          intro e he
          refine hall e ?_
          rw [hel]
          exact List.mem_map.2 ⟨e, he, rfl⟩
        subst hL1
        repeat' (first | refine TC.seq ?_ | refine TC.region ?_ | refine TR.nil ?_ | refine Post.then_normal ?_ | refine TC.ret ?_ | refine Post.block_normal ?_ | refine Post.scope_ret ?_ | (apply TR.ch0 (o := ⟨_, .store _ _ _, _, _, _, _⟩) ; exact rfl; exact rfl; (first | exact Wd.plain rfl | exact Wd.on rfl rfl rfl); exact EvC.store1 rfl rfl rfl (by repeat first | exact Upd.head | apply Upd.tail) (by first | assumption | exact Nat.lt_of_sub_eq_succ rfl | (simp; omega) | simp); rintro ⟨⟩))
        refine Post.body_ret_m (gs := [gd]) _ (ResL.one rfl (ResV.cell1 rfl (Reads.own (by repeat first | exact List.Mem.head _ | apply List.Mem.tail)) rfl)) ?_
        exact fun w h => ⟨by rw [hp]; rfl, hpo _ ((h.weaken hle2).tail.tail.tail.tail.tail)⟩
      · rintro gd c pre m2 Lc hpre ⟨rfl, hle2, rfl, hp⟩
        subst hL1
        repeat' (first | refine TC.ret ?_ | refine Post.then_ret ?_ | refine Post.block_ret ?_ | refine Post.scope_ret ?_)
        refine Post.body_ret_m (gs := [gd]) _ (ResL.one rfl (ResV.cell1 rfl (Reads.own (by repeat first | exact List.Mem.head _ | apply List.Mem.tail)) rfl)) ?_
        exact fun w h => ⟨by rw [hp]; rfl, hpo _ ((h.weaken hle2).tail.tail.tail.tail.tail)⟩
end Go.Proofs.YtgpgjpcebajofaaGreatDoor
