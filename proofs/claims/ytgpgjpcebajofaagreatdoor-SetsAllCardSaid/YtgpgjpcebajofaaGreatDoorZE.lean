import Derived.Test.YtgpgjpcebajofaaGreatDoorZC
import Derived.Test.YtgpgjpcebajofaaGreatDoorZB
set_option linter.unusedVariables false
set_option linter.unusedSimpArgs false
set_option linter.all false
set_option maxHeartbeats 4000000
set_option linter.unusedVariables false
set_option linter.unusedSimpArgs false
set_option maxRecDepth 100000
namespace Go.Proofs.YtgpgjpcebajofaaGreatDoor
open Go Go.XC Go.RowKit Go.SetsP
attribute [local irreducible] Post TC TR D WL EvS EvC Wd ResL Code.wpIn Exit.then Exit.inBlock Exit.noGoto LoopK LoopP bodyPostM Reads Calls
/-- A rule is as defined. -/
def okV (r : Rl) (many : Int) (v : Int) (j : Nat) : Bool := decide (0 ≤ v ∧ v ≤ many - 1) && !(r.vars.take j).contains v
def ruleB (r : Rl) (many : Int) : Bool :=
  if varsZ r.kind == 0 || (r.vars.length : Int) != varsZ r.kind then false
  else if !(r.vars.zipIdx.all fun x => okV r many x.1 x.2) then false
  else if r.kind == 6 then decide (0 ≤ r.low ∧ r.low ≤ 12) && decide (r.low ≤ r.high ∧ r.high ≤ 12)
  else r.low == 0 && r.high == 0
theorem Sl.take {m : Mem} {sz : Nat} {A : Option Addr} {css : List (List Value)} (h : Sl m sz A css) (k : Nat) : Sl m sz A (css.take k) := by
  refine ⟨fun cs hc => h.len cs (List.mem_of_mem_take hc), by have := h.big; rw [List.length_take]; omega, fun hne => ?_⟩
  obtain ⟨g, o, blk, T, fr, h1, h2, h3⟩ := h.at_ (by rintro rfl; simp at hne)
  refine ⟨g, o, blk, T, fr, h1, h2, fun i cs hi j u hj => h3 i cs ?_ j u hj⟩
  rw [List.getElem?_take] at hi
  split at hi
  · exact hi
  · cases hi

theorem rule_c (r : Rl) (B : Option Addr) (c : Nat) (many : Nat) (hm : many ≤ 1000) (m : Mem) (hB : Sl m 1 B (ints r.vars)) (hcap : r.vars.length ≤ c) (L : Own) (w : World) (hs : St m L w) :
    Calls Tryz.prog 69 #[rlV r B c, .int .i64 (many : Int)] w fun e w' => e = .returned (.bool (ruleB r many)) ∧ St m L w' := by
  have hbig : r.vars.length ≤ 140737488355328 := by simpa [ints] using hB.big
  unfold rlV
  refine calls_of_TC (args := [_, _]) Tryz.func69 rfl Tryz.ntmps69 (Nat.le_of_ble_eq_true rfl) hs ?_
  repeat' (first | (apply a_call; exact EvC.callV rfl rfl (fun w hs => vars_c _ _ _ _ hs); exact rfl; exact wd; rintro ⟨⟩) | refine TC.seq ?_ | refine TC.region ?_ | refine TR.nil ?_ | refine Post.then_normal ?_ | refine TC.block ?_ | refine TC.skip ?_ | refine TC.ret ?_ | (apply TC.cond_t; exact rfl) | refine Post.then_ret ?_ | (apply TC.cond; exact rfl; all_goals (intro h)) | (apply a_sk; exact a_sks) | (apply a_gs; exact a_gss; all_goals (intro h)) | (apply a_move; exact a_moves) | (apply a_assign; exact a_assigns) | (apply a_fieldAddr; exact a_fieldAddrs) | (apply a_load; exact a_loads) | (apply a_len; exact a_lens) | (apply a_beql; exact a_beqls) | (apply a_bneq; exact a_bneqs) | (apply a_pick; exact a_picks) | (apply c_boxA; exact c_boxAs; exact rfl; intro g))
  · (refine Post.body_ret _ (ResL.one rfl (ResV.tmp rfl)) ?_; intro wR hR; exact ⟨by rw [show ruleB r many = false by unfold ruleB; rw [h]; rfl], (by repeat first | exact hR | replace hR := hR.tail)⟩)
  · (refine Post.body_ret _ (ResL.one rfl (ResV.tmp rfl)) ?_; intro wR hR; exact ⟨by rw [show ruleB r many = false by unfold ruleB; rw [h, Bool.or_true]; rfl], (by repeat first | exact hR | replace hR := hR.tail)⟩)
  · rename_i hv0
    have hv1 := h
    have h1 : ruleB r many = if !(r.vars.zipIdx.all fun x => okV r many x.1 x.2) then false
        else if r.kind == 6 then decide (0 ≤ r.low ∧ r.low ≤ 12) && decide (r.low ≤ r.high ∧ r.high ≤ 12) else r.low == 0 && r.high == 0 := by
      unfold ruleB; rw [hv0, hv1]; rfl
    refine TC.loopP (X := Nat) (fun k => k ≤ r.vars.length ∧ ∀ j v, j < k → r.vars[j]? = some v → okV r many v j = true) (fun k => [(23, .int .i64 (k : Int)), (22, .int .i64 (r.vars.length : Int)), (21, .slice B r.vars.length c), (2, .pointer (some ⟨g, 0, none⟩)), (1, .int .i64 (many : Int))]) (fun _ => St m _) (fun k => r.vars.length - k) 0 ⟨by omega, fun j y h => by omega⟩ inc (fun w h => h) ?_
    rintro k ⟨hk, hno⟩
    by_cases hlt : k < r.vars.length
    · obtain ⟨x, hx⟩ : ∃ x, r.vars[k]? = some x := ⟨_, List.getElem?_eq_getElem hlt⟩
      obtain ⟨g1, o, blk, T, fr, hAe, hmb, hc⟩ := hB.get1 (k := k) (v := .int .i64 x) (by simp [ints, hx])
      have hd : decide ((k : Int) < (r.vars.length : Int)) = true := by simpa using hlt
      have hno' : okV r many x k = false → ruleB r many = false := fun h0 => by
        rw [h1, if_pos]
        rw [Bool.not_eq_true', List.all_eq_false]
        exact ⟨(x, k), List.mk_mem_zipIdx_iff_getElem?.2 hx, by simp [h0]⟩
      have hlen : (r.vars.take k).length = k := by rw [List.length_take]; omega
      have hTk : Sl m 1 B (ints (r.vars.take k)) := by have := Sl.take hB k; rwa [ints, ← List.map_take] at this
      by_cases hw : decide (0 ≤ x ∧ x ≤ (many : Int) - 1) = true
      · have hw' : (!decide (0 ≤ x ∧ x ≤ (many : Int) - 1)) = false := by rw [hw]; rfl
        by_cases hcn : (r.vars.take k).contains x = true
        · repeat' (first | (apply a_call; exact EvC.callV rfl rfl (fun w hs => within_c _ _ _ _ _ _ hs); exact rfl; exact wd; rintro ⟨⟩) | (apply a_call; exact EvC.callV rfl rfl (fun w hs => by have := contains_c B c (r.vars.take k) x _ _ w hs hTk; rw [hlen] at this; exact this); exact rfl; exact wd; rintro ⟨⟩) | refine TC.seq ?_ | refine TC.region ?_ | refine TR.nil ?_ | refine Post.then_normal ?_ | refine TC.block ?_ | refine TC.skip ?_ | refine TC.ret ?_ | (apply TC.cond_bt; exact rfl; assumption) | refine Post.then_ret ?_ | refine Post.block_ret ?_ | (apply a_gf; exact a_gss; (first | exact rfl | assumption)) | (apply TR.st1 (o := ⟨_, .slice _ _ _ _ _, _, _, _, _⟩); exact rfl; exact rfl; exact rfl; (first | exact Wd.plain rfl | exact Wd.on rfl rfl rfl); exact EvS.sliceHi rfl rfl hAe (by omega)) | (apply a_move; exact a_moves) | (apply a_assign; exact a_assigns) | (apply a_fieldAddr; exact a_fieldAddrs) | (apply a_load; exact a_loads) | (apply a_unOp; exact a_unOps) | (apply a_blss; exact a_blsss) | (apply a_bsub; exact a_bsubs) | (apply a_pick; exact a_picks) | (apply a_indexAddr; exact a_indexAddrs))
          (refine Post.body_ret _ (ResL.one rfl (ResV.tmp rfl)) ?_; intro wR hR; exact ⟨by rw [hno' (by unfold okV; rw [hcn, Bool.not_true, Bool.and_false])], (by repeat first | exact hR | replace hR := hR.tail)⟩)
        · rw [Bool.not_eq_true] at hcn
          repeat' (first | (apply a_call; exact EvC.callV rfl rfl (fun w hs => within_c _ _ _ _ _ _ hs); exact rfl; exact wd; rintro ⟨⟩) | (apply a_call; exact EvC.callV rfl rfl (fun w hs => by have := contains_c B c (r.vars.take k) x _ _ w hs hTk; rw [hlen] at this; exact this); exact rfl; exact wd; rintro ⟨⟩) | refine TC.seq ?_ | refine TC.region ?_ | refine TR.nil ?_ | refine Post.then_normal ?_ | refine TC.block ?_ | refine TC.skip ?_ | (apply TC.cond_bt; exact rfl; assumption) | (apply TC.cond_bf; exact rfl; assumption) | refine Post.block_normal ?_ | (apply a_gf; exact a_gss; (first | exact rfl | assumption)) | (apply TR.st1 (o := ⟨_, .slice _ _ _ _ _, _, _, _, _⟩); exact rfl; exact rfl; exact rfl; (first | exact Wd.plain rfl | exact Wd.on rfl rfl rfl); exact EvS.sliceHi rfl rfl hAe (by omega)) | (apply a_move; exact a_moves) | (apply a_assign; exact a_assigns) | (apply a_fieldAddr; exact a_fieldAddrs) | (apply a_load; exact a_loads) | (apply a_unOp; exact a_unOps) | (apply a_blss; exact a_blsss) | (apply a_badd; exact a_badds) | (apply a_bsub; exact a_bsubs) | (apply a_pick; exact a_picks) | (apply a_indexAddr; exact a_indexAddrs))
          refine Post.nextP (k + 1) ⟨by omega, fun j z hj hz => ?_⟩ inc (fun w h => h) (by omega)
          by_cases e : j = k
          · subst e; rw [hx] at hz; cases hz; unfold okV; rw [hw, hcn]; rfl
          · exact hno j z (by omega) hz
      · rw [Bool.not_eq_true] at hw
        have hw' : (!decide (0 ≤ x ∧ x ≤ (many : Int) - 1)) = true := by rw [hw]; rfl
        repeat' (first | (apply a_call; exact EvC.callV rfl rfl (fun w hs => within_c _ _ _ _ _ _ hs); exact rfl; exact wd; rintro ⟨⟩) | refine TC.seq ?_ | refine TC.region ?_ | refine TR.nil ?_ | refine Post.then_normal ?_ | refine TC.block ?_ | refine TC.skip ?_ | refine TC.ret ?_ | (apply TC.cond_t; exact rfl) | (apply TC.cond_bt; exact rfl; assumption) | refine Post.then_ret ?_ | refine Post.block_ret ?_ | (apply a_sk; exact a_sks) | (apply a_gt; exact a_gss; (first | exact rfl | assumption)) | (apply a_move; exact a_moves) | (apply a_assign; exact a_assigns) | (apply a_load; exact a_loads) | (apply a_unOp; exact a_unOps) | (apply a_blss; exact a_blsss) | (apply a_bsub; exact a_bsubs) | (apply a_pick; exact a_picks) | (apply a_indexAddr; exact a_indexAddrs))
        (refine Post.body_ret _ (ResL.one rfl (ResV.tmp rfl)) ?_; intro wR hR; exact ⟨by rw [hno' (by unfold okV; rw [hw]; rfl)], (by repeat first | exact hR | replace hR := hR.tail)⟩)
    · have hd : decide ((k : Int) < (r.vars.length : Int)) = false := by simpa using hlt
      have h2 : ruleB r many = if r.kind == 6 then decide (0 ≤ r.low ∧ r.low ≤ 12) && decide (r.low ≤ r.high ∧ r.high ≤ 12) else r.low == 0 && r.high == 0 := by
        rw [h1, if_neg]
        rw [Bool.not_eq_true, Bool.not_eq_false', List.all_eq_true]
        rintro ⟨x, i⟩ hx
        rw [List.mk_mem_zipIdx_iff_getElem?] at hx
        exact hno i x (by have := (List.getElem?_eq_some_iff.1 hx).1; omega) hx
      repeat' (first | (apply a_call; exact EvC.callV rfl rfl (fun w hs => within_c _ _ _ _ _ _ hs); exact rfl; exact wd; rintro ⟨⟩) | refine TC.seq ?_ | refine TC.region ?_ | refine TR.nil ?_ | refine Post.then_normal ?_ | refine TC.skip ?_ | refine TC.ret ?_ | refine TC.exit ?_ | (apply TC.cond_bf; exact rfl; assumption) | refine Post.then_ret ?_ | refine Post.then_exit ?_ | refine Post.block_here ?_ | (apply TC.cond; exact rfl; all_goals (intro h)) | (apply a_sk; exact a_sks) | (apply a_gs; exact a_gss; all_goals (intro h)) | (apply a_assign; exact a_assigns) | (apply a_fieldAddr; exact a_fieldAddrs) | (apply a_load; exact a_loads) | (apply a_beql; exact a_beqls) | (apply a_blss; exact a_blsss) | (apply a_pick; exact a_picks))
      · rename_i hk
        (refine Post.body_ret _ (ResL.one rfl (ResV.tmp rfl)) ?_; intro wR hR; exact ⟨by rw [h2, hk, if_pos rfl, h]; rfl, (by repeat first | exact hR | replace hR := hR.tail)⟩)
      · rename_i hk
        (refine Post.body_ret _ (ResL.one rfl (ResV.tmp rfl)) ?_; intro wR hR; exact ⟨by rw [h2, hk, if_pos rfl, h]; rfl, (by repeat first | exact hR | replace hR := hR.tail)⟩)
      · rename_i hk
        (refine Post.body_ret _ (ResL.one rfl (ResV.tmp rfl)) ?_; intro wR hR; exact ⟨by rw [h2, hk, if_neg (by simp), h]; rfl, (by repeat first | exact hR | replace hR := hR.tail)⟩)
      · rename_i hk
        (refine Post.body_ret _ (ResL.one rfl (ResV.tmp rfl)) ?_; intro wR hR; exact ⟨by rw [h2, hk, if_neg (by simp), h]; rfl, (by repeat first | exact hR | replace hR := hR.tail)⟩)
end Go.Proofs.YtgpgjpcebajofaaGreatDoor
set_option maxHeartbeats 4000000
set_option linter.unusedVariables false
set_option linter.unusedSimpArgs false
set_option maxRecDepth 100000
namespace Go.Proofs.YtgpgjpcebajofaaGreatDoor
open Go Go.XC Go.RowKit Go.SetsP
attribute [local irreducible] Post TC TR D WL EvS EvC Wd ResL Code.wpIn Exit.then Exit.inBlock Exit.noGoto LoopK LoopP bodyPostM Reads Calls

theorem okB_set {b : List Bd} (h : okB b) (k : Nat) (y : Bd) (h1 : small y.lo) (h2 : small y.can) : okB (b.set k y) :=
  ⟨by rw [List.length_set]; exact h.1, fun x hx => by
    rcases List.mem_or_eq_of_mem_set hx with h3 | rfl
    · exact h.2 x h3
    · exact ⟨h1, h2⟩⟩
theorem small_or {s t : BV} (h : small s) (h2 : small t) : small (s ||| t) := by
  unfold small at *
  rw [BitVec.toNat_or]
  exact Nat.or_lt_two_pow (n := 12) h h2
theorem small_bit {e : Nat} (h : e < 12) : small (bit e) := by
  unfold small bit
  have : e = 0 ∨ e = 1 ∨ e = 2 ∨ e = 3 ∨ e = 4 ∨ e = 5 ∨ e = 6 ∨ e = 7 ∨ e = 8 ∨ e = 9 ∨ e = 10 ∨ e = 11 := by omega
  rcases this with rfl | rfl | rfl | rfl | rfl | rfl | rfl | rfl | rfl | rfl | rfl | rfl <;> decide
theorem small_and {s t : BV} (h : small s) : small (s &&& t) := by
  unfold small at *
  rw [BitVec.toNat_and]
  exact Nat.lt_of_le_of_lt Nat.and_le_left h
theorem nth_ok {b : List Bd} (h : okB b) {v : Int} (hv : 0 ≤ v ∧ v < 8) : small (nth b v).lo ∧ small (nth b v).can := by
  unfold nth
  rw [List.getD_eq_getElem?_getD, List.getElem?_eq_getElem (by have := h.1; omega)]
  exact h.2 _ (List.getElem_mem _)
theorem okB_with {b : List Bd} (h : okB b) {v : Int} (hv : 0 ≤ v ∧ v < 8) {e : Nat} (he : e < 12) (i : Bool) : okB (withB b v e i) := by
  obtain ⟨h1, h2⟩ := nth_ok h hv
  unfold withB setB
  cases i
  · exact okB_set h _ _ h1 (small_and h2)
  · exact okB_set h _ _ (small_or h1 (small_bit he)) h2

/-- A fact's cells. -/
def fcC (v : Int) (e : Int) (i : Bool) (n : Int) (W : Option Addr) (k c : Nat) : Array Value := #[.int .i64 v, .int .i64 e, .bool i, .int .i64 n, .slice W k c]
theorem follows_c (b : List Bd) (r : Rl) (B : Option Addr) (c : Nat) (v : Int) (e : Nat) (i : Bool) (n : Int) (W : Option Addr) (k c' : Nat) (hb : okB b) (hr : okR r) (hv : 0 ≤ v ∧ v < 8) (he : e < 12) (m : Mem) (hT : TabM m) (hB : Sl m 1 B (ints r.vars)) (L : Own) (w : World) (hs : St m L w) :
    Calls Tryz.prog 112 #[.agg (bArr b), rlV r B c, .agg (fcC v (e : Int) i n W k c')] w fun x w' => x = .returned (.bool (folB b r v e i)) ∧ St m L w' := by
  have hsz : (bArr b).size = 16 := by rw [bArr_size, hb.1]
  have hwb := okB_with hb hv he (!i)
  unfold rlV fcC
  refine calls_of_TC (args := [_, _, _]) Tryz.func112 rfl Tryz.ntmps112 (Nat.le_of_ble_eq_true rfl) hs ?_
  repeat' (first | refine TC.seq ?_ | refine TC.region ?_ | refine TR.nil ?_ | refine Post.then_normal ?_ | (apply TR.st1 (o := ⟨_, .assign _, _, _, _, _⟩); exact rfl; exact rfl; exact rfl; (first | exact Wd.plain rfl | exact Wd.on rfl rfl rfl); exact EvS.assign rfl) | (apply TR.ch1 (o := ⟨_, .box _ _, _, _, _, _⟩) ; exact rfl; exact rfl; exact rfl; (first | exact Wd.plain rfl | exact Wd.on rfl rfl rfl); exact EvC.boxA rfl; intro g))
  refine TC.draw_ [.st, .st, .st, .st, .st, .st, .st, .st, .ch, .st, .ch, .st, .st] mixed rfl (by kernel_rfl) ?_
  repeat' (first | (apply D.chx (o := ⟨_, .call _, _, _, _, _⟩); exact rfl; (first | exact Wd.plain rfl | exact Wd.on rfl rfl rfl); exact EvC.callV rfl rfl (fun w hs => with_c b v (e : Int) (!i) hb.1 hv (by omega) _ _ w hs); exact inferInstance; exact (by first | exact fun _ _ h => StX.of0 h | exact fun _ _ h => StX.of1 h | exact fun _ _ h => StX.of2 h | exact fun _ _ h => StX.of3 h | exact fun _ _ h => StX.of h); rintro ⟨⟩) | (apply D.chx (o := ⟨_, .call _, _, _, _, _⟩); exact rfl; (first | exact Wd.plain rfl | exact Wd.on rfl rfl rfl); exact EvC.callV rfl rfl (fun w hs => possible_c _ r B c hwb hr _ hT hB _ w hs); exact inferInstance; exact (by first | exact fun _ _ h => StX.of0 h | exact fun _ _ h => StX.of1 h | exact fun _ _ h => StX.of2 h | exact fun _ _ h => StX.of3 h | exact fun _ _ h => StX.of h); rintro ⟨⟩) | (apply D.st1; exact rfl; (first | exact Wd.plain rfl | exact Wd.on rfl rfl rfl); (first | exact EvS.assign rfl | exact EvS.fieldAddr rfl | (first | (apply EvS.load1; exact rfl; (first | exact Reads.memX (by assumption) | exact Reads.ownX (by repeat first | exact List.Mem.head _ | assumption | apply List.Mem.tail)); (first | assumption | exact nthL_arr rfl | exact rfl)) | (apply EvS.loadW; exact rfl; (first | exact Reads.memX (by assumption) | exact Reads.ownX (by repeat first | exact List.Mem.head _ | assumption | apply List.Mem.tail)); first | exact rfl | assumption) | (apply EvS.loadH; exact rfl; (first | exact Reads.memX (by assumption) | exact Reads.ownX (by repeat first | exact List.Mem.head _ | assumption | apply List.Mem.tail)); assumption; first | exact rfl | assumption)) | (first | exact EvS.not rfl | exact EvS.neg64 rfl (by first | with_reducible exact U64.var _ | exact U64.lit rfl)))) | refine D.tail_ ?_)
  repeat' (first | refine TR.nil ?_ | refine Post.then_normal ?_ | refine TC.ret ?_)
  (refine Post.body_ret _ (ResL.one rfl (ResV.tmp rfl)) ?_; intro wR hR; exact ⟨rfl, (by first | exact hR | exact hR.tail | exact hR.tail.tail | exact hR.tail.tail.tail | exact hR.tail.tail.tail.tail | exact hR.tail.tail.tail.tail.tail | exact hR.tail.tail.tail.tail.tail.tail)⟩)

theorem check1_c (r : Rl) (B : Option Addr) (c : Nat) (g : Nat) (A A2 : Option Addr) (n c1 k c2 : Nat) (T : TypeId) (hn : n ≤ 1000) (m : Mem) (hB : Sl m 1 B (ints r.vars)) (hcap : r.vars.length ≤ c) (L : Own) (hg : some (g, .cells #[.slice A n c1, .slice A2 k c2] T (0, 0)) ∈ L) (w : World) (hs : St m L w) :
    Calls Tryz.prog 68 #[rlV r B c, .pointer (some ⟨g, 0, none⟩)] w fun x w' => x = .returned (.bool (!ruleB r n)) ∧ St m L w' := by
  unfold rlV
  refine calls_of_TC (args := [_, _]) Tryz.func68 rfl Tryz.ntmps68 (Nat.le_of_ble_eq_true rfl) hs ?_
  repeat' (first | (apply TR.ch1 (o := ⟨_, .call _, _, _, _, _⟩); exact rfl; exact rfl; exact rfl; (first | exact Wd.plain rfl | exact Wd.on rfl rfl rfl); exact EvC.callV rfl rfl (fun w hs => rule_c r B c n hn _ hB hcap _ _ hs); rintro ⟨⟩) | refine TC.seq ?_ | refine TC.region ?_ | refine TR.nil ?_ | refine Post.then_normal ?_ | refine TC.ret ?_ | (apply TR.st1; exact rfl; exact rfl; exact rfl; (first | exact Wd.plain rfl | exact Wd.on rfl rfl rfl); (first | exact EvS.assign rfl | exact EvS.fieldAddr rfl | (first | (apply EvS.load1; exact rfl; (first | exact Reads.mem (by assumption) | exact Reads.own (by repeat first | exact List.Mem.head _ | assumption | apply List.Mem.tail)); (first | assumption | exact nthL_arr rfl | exact rfl)) | (apply EvS.loadW; exact rfl; (first | exact Reads.mem (by assumption) | exact Reads.own (by repeat first | exact List.Mem.head _ | assumption | apply List.Mem.tail)); first | exact rfl | assumption) | (apply EvS.loadH; exact rfl; (first | exact Reads.mem (by assumption) | exact Reads.own (by repeat first | exact List.Mem.head _ | assumption | apply List.Mem.tail)); assumption; first | exact rfl | assumption)) | exact EvS.len rfl | (first | exact EvS.not rfl | exact EvS.neg64 rfl (by first | with_reducible exact U64.var _ | exact U64.lit rfl)))) | (apply TR.ch1 (o := ⟨_, .box _ _, _, _, _, _⟩) ; exact rfl; exact rfl; exact rfl; (first | exact Wd.plain rfl | exact Wd.on rfl rfl rfl); exact EvC.boxA rfl; intro g))
  (refine Post.body_ret _ (ResL.one rfl (ResV.tmp rfl)) ?_; intro wR hR; exact ⟨rfl, (by first | exact hR | exact hR.tail | exact hR.tail.tail | exact hR.tail.tail.tail | exact hR.tail.tail.tail.tail | exact hR.tail.tail.tail.tail.tail | exact hR.tail.tail.tail.tail.tail.tail)⟩)

def bdOk (x : Bd) : Bool := ((x.can &&& ~~~4095#64) == 0#64) && !clashB x
def checkB (p : Pb) : Bool := decide (1 ≤ p.bounds.length ∧ p.bounds.length ≤ 8) && decide (p.rules.length ≤ 12) && p.bounds.all bdOk && !(p.rules.any fun r => !ruleB r p.bounds.length)
def errI (b : Bool) : Int := if b then 0 else 2
theorem check_c (p : Pb) (cs : Array Value) (h9 : p.bounds.length ≤ 1000) (h13 : p.rules.length ≤ 1000) (m : Mem) (hp : PbC m p cs) (L : Own) (w : World) (hs : St m L w) :
    Calls Tryz.prog 43 #[.agg cs] w fun x w' => x = .returned (.int .i64 (errI (checkB p))) ∧ St m L w' := by
  obtain ⟨A, c, B, k, rfl, hA, hB⟩ := hp
  have hno (h : checkB p = false) : errI (checkB p) = 2 := by rw [h]; rfl
  by_cases h1 : decide (1 ≤ (p.bounds.length : Int) ∧ (p.bounds.length : Int) ≤ 8) = true
  · have h1' : (!decide (1 ≤ (p.bounds.length : Int) ∧ (p.bounds.length : Int) ≤ 8)) = false := by rw [h1]; rfl
    have h8 : p.bounds.length ≤ 8 := by have := of_decide_eq_true h1; omega
    by_cases h2 : decide ((p.rules.length : Int) > 12) = true
    · have hck : checkB p = false := by
        unfold checkB
        rw [show decide (p.rules.length ≤ 12) = false by have := of_decide_eq_true h2; rw [decide_eq_false_iff_not]; omega]
        simp
      refine calls_of_TC (args := [_]) Tryz.func43 rfl Tryz.ntmps43 (Nat.le_of_ble_eq_true rfl) hs ?_
      repeat' (first | (apply TR.ch1 (o := ⟨_, .call _, _, _, _, _⟩); exact rfl; exact rfl; exact rfl; (first | exact Wd.plain rfl | exact Wd.on rfl rfl rfl); exact EvC.callV rfl rfl (fun w hs => within_c _ _ _ _ _ _ hs); rintro ⟨⟩) | refine TC.seq ?_ | refine TC.region ?_ | refine TR.nil ?_ | refine Post.then_normal ?_ | refine TC.ret ?_ | (apply TC.cond_bt; exact rfl; assumption) | refine Post.then_ret ?_ | (apply TR.gs_f (o := ⟨_, .move _, _, _, _, _⟩); exact rfl; exact rfl; exact rfl; exact rfl; (first | exact Wd.plain rfl | exact Wd.on rfl rfl rfl); exact EvS.move rfl; (first | exact rfl | assumption)) | (apply TR.st1; exact rfl; exact rfl; exact rfl; (first | exact Wd.plain rfl | exact Wd.on rfl rfl rfl); (first | exact EvS.assign rfl | exact EvS.fieldAddr rfl | (first | (apply EvS.load1; exact rfl; (first | exact Reads.mem (by assumption) | exact Reads.own (by repeat first | exact List.Mem.head _ | assumption | apply List.Mem.tail)); (first | assumption | exact nthL_arr rfl | exact rfl)) | (apply EvS.loadW; exact rfl; (first | exact Reads.mem (by assumption) | exact Reads.own (by repeat first | exact List.Mem.head _ | assumption | apply List.Mem.tail)); first | exact rfl | assumption) | (apply EvS.loadH; exact rfl; (first | exact Reads.mem (by assumption) | exact Reads.own (by repeat first | exact List.Mem.head _ | assumption | apply List.Mem.tail)); assumption; first | exact rfl | assumption)) | exact EvS.len rfl | (first | exact EvS.not rfl | exact EvS.neg64 rfl (by first | with_reducible exact U64.var _ | exact U64.lit rfl)) | exact EvS.gtI rfl rfl | (first | exact EvS.pick_t rfl rfl | exact EvS.pick_f rfl rfl))) | (apply TR.ch1 (o := ⟨_, .box _ _, _, _, _, _⟩) ; exact rfl; exact rfl; exact rfl; (first | exact Wd.plain rfl | exact Wd.on rfl rfl rfl); exact EvC.boxA rfl; intro g))
      (refine Post.body_ret _ (ResL.one rfl (ResV.tmp rfl)) ?_; intro wR hR; exact ⟨by rw [hno hck], (by first | exact hR | exact hR.tail | exact hR.tail.tail | exact hR.tail.tail.tail | exact hR.tail.tail.tail.tail | exact hR.tail.tail.tail.tail.tail | exact hR.tail.tail.tail.tail.tail.tail)⟩)
    · rw [Bool.not_eq_true] at h2
      refine calls_of_TC (args := [_]) Tryz.func43 rfl Tryz.ntmps43 (Nat.le_of_ble_eq_true rfl) hs ?_
      repeat' (first | (apply TR.ch1 (o := ⟨_, .call _, _, _, _, _⟩); exact rfl; exact rfl; exact rfl; (first | exact Wd.plain rfl | exact Wd.on rfl rfl rfl); exact EvC.callV rfl rfl (fun w hs => within_c _ _ _ _ _ _ hs); rintro ⟨⟩) | refine TC.seq ?_ | refine TC.region ?_ | refine TR.nil ?_ | refine Post.then_normal ?_ | refine TC.block ?_ | refine TC.skip ?_ | (apply TC.cond_bf; exact rfl; assumption) | (apply TR.gs_f (o := ⟨_, .move _, _, _, _, _⟩); exact rfl; exact rfl; exact rfl; exact rfl; (first | exact Wd.plain rfl | exact Wd.on rfl rfl rfl); exact EvS.move rfl; (first | exact rfl | assumption)) | (apply TR.st1; exact rfl; exact rfl; exact rfl; (first | exact Wd.plain rfl | exact Wd.on rfl rfl rfl); (first | exact EvS.move rfl | exact EvS.assign rfl | exact EvS.fieldAddr rfl | (first | (apply EvS.load1; exact rfl; (first | exact Reads.mem (by assumption) | exact Reads.own (by repeat first | exact List.Mem.head _ | assumption | apply List.Mem.tail)); (first | assumption | exact nthL_arr rfl | exact rfl)) | (apply EvS.loadW; exact rfl; (first | exact Reads.mem (by assumption) | exact Reads.own (by repeat first | exact List.Mem.head _ | assumption | apply List.Mem.tail)); first | exact rfl | assumption) | (apply EvS.loadH; exact rfl; (first | exact Reads.mem (by assumption) | exact Reads.own (by repeat first | exact List.Mem.head _ | assumption | apply List.Mem.tail)); assumption; first | exact rfl | assumption)) | exact EvS.len rfl | (first | exact EvS.not rfl | exact EvS.neg64 rfl (by first | with_reducible exact U64.var _ | exact U64.lit rfl)) | exact EvS.gtI rfl rfl | (first | exact EvS.pick_t rfl rfl | exact EvS.pick_f rfl rfl))) | (apply TR.ch1 (o := ⟨_, .box _ _, _, _, _, _⟩) ; exact rfl; exact rfl; exact rfl; (first | exact Wd.plain rfl | exact Wd.on rfl rfl rfl); exact EvC.boxA rfl; intro g))
      refine TC.loopP (X := Nat) (fun k => k ≤ p.bounds.length ∧ ∀ j v, j < k → p.bounds[j]? = some v → bdOk v = true) (fun k => [(19, .int .i64 (k : Int)), (18, .int .i64 (p.bounds.length : Int)), (17, .slice A p.bounds.length c), (1, .pointer (some ⟨g, 0, none⟩))]) (fun _ => St m _) (fun k => p.bounds.length - k) 0 ⟨by omega, fun j y h => by omega⟩ (incl.lk (by repeat first | exact trivial | refine ⟨rfl, ?_⟩)) (fun w h => h) ?_
      rintro i ⟨hk, hno2⟩
      by_cases hlt : i < p.bounds.length
      · obtain ⟨y, hy⟩ : ∃ x, p.bounds[i]? = some x := ⟨_, List.getElem?_eq_getElem hlt⟩
        obtain ⟨g1, o, blk, T, fr, hAe, hm, hc⟩ := hA.get (k := i) (cs := bdC y) (by simp [bds, hy])
        replace hc : CellsAt blk (o + (i : Int).toNat * 2) #[.int .u64 (y.lo.toNat : Int), .int .u64 (y.can.toNat : Int)] := hc
        have hd : decide ((i : Int) < (p.bounds.length : Int)) = true := by simpa using hlt
        have hbad : bdOk y = false → checkB p = false := fun h => by
          unfold checkB
          rw [show p.bounds.all bdOk = false by rw [List.all_eq_false]; exact ⟨y, List.mem_of_getElem? hy, by simp [h]⟩]
          simp
        repeat' (first | refine TC.seq ?_ | refine TC.region ?_ | refine TR.nil ?_ | refine Post.then_normal ?_ | refine TC.block ?_ | refine TC.skip ?_ | refine TC.ret ?_ | (apply TC.cond_t; exact rfl) | (apply TC.cond_bt; exact rfl; assumption) | refine Post.then_ret ?_ | refine Post.block_normal ?_ | refine Post.block_ret ?_ | (apply TC.cond; exact rfl; all_goals (intro h)) | (apply TR.sk1 (o := ⟨_, _, _, _, _, some _⟩); exact rfl; exact rfl; (first | exact Wd.off rfl rfl rfl rfl | exact Wd.offU rfl rfl rfl)) | (apply TR.gs (o := ⟨_, .move _, _, _, _, _⟩); exact rfl; exact rfl; exact rfl; exact rfl; (first | exact Wd.plain rfl | exact Wd.on rfl rfl rfl); exact EvS.move rfl; all_goals (intro h)) | (apply TR.st1; exact rfl; exact rfl; exact rfl; (first | exact Wd.plain rfl | exact Wd.on rfl rfl rfl); (first | exact EvS.move rfl | exact EvS.assign rfl | exact EvS.fieldAddr rfl | (first | (apply EvS.load1; exact rfl; (first | exact Reads.mem (by assumption) | exact Reads.own (by repeat first | exact List.Mem.head _ | assumption | apply List.Mem.tail)); (first | assumption | exact nthL_arr rfl | exact rfl)) | (apply EvS.loadW; exact rfl; (first | exact Reads.mem (by assumption) | exact Reads.own (by repeat first | exact List.Mem.head _ | assumption | apply List.Mem.tail)); first | exact rfl | assumption) | (apply EvS.loadH; exact rfl; (first | exact Reads.mem (by assumption) | exact Reads.own (by repeat first | exact List.Mem.head _ | assumption | apply List.Mem.tail)); assumption; first | exact rfl | assumption)) | (first | exact EvS.ne64 rfl rfl (by first | with_reducible exact U64.var _ | exact U64.lit rfl) (by first | with_reducible exact U64.var _ | exact U64.lit rfl) | exact EvS.neB rfl rfl | exact EvS.neI rfl rfl) | exact EvS.andNot64 rfl rfl (by first | with_reducible exact U64.var _ | exact U64.lit rfl) (by first | with_reducible exact U64.var _ | exact U64.lit rfl) | exact EvS.ltI rfl rfl | (first | exact EvS.addI rfl rfl (by omega) | exact EvS.add64 rfl rfl (by first | with_reducible exact U64.var _ | exact U64.lit rfl) (by first | with_reducible exact U64.var _ | exact U64.lit rfl)) | (first | exact EvS.pick_t rfl rfl | exact EvS.pick_f rfl rfl) | (first | exact EvS.indexAddr rfl rfl (by first | exact rfl | assumption) (by omega) | exact EvS.indexAddrA rfl rfl (by omega)))) | (apply TR.ch1 (o := ⟨_, .alloc _, _, _, _, _⟩) ; exact rfl; exact rfl; exact rfl; (first | exact Wd.plain rfl | exact Wd.on rfl rfl rfl); exact EvC.alloc; intro g) | (apply TR.ch0 (o := ⟨_, .store _ _ _, _, _, _, _⟩) ; exact rfl; exact rfl; (first | exact Wd.plain rfl | exact Wd.on rfl rfl rfl); exact EvC.storeW rfl rfl (by first | exact rfl | assumption) (by first | exact bArr_one _ | exact rfl | (intro v hv; simp at hv; rcases hv with rfl | rfl | rfl | rfl | rfl | rfl | rfl | rfl <;> rfl)) (by repeat first | exact Upd.head | apply Upd.tail) (by first | exact rfl | assumption); rintro ⟨⟩))
        · (refine Post.body_ret _ (ResL.one rfl (ResV.tmp rfl)) ?_; intro wR hR; exact ⟨by rw [hno (hbad (by unfold bdOk; rw [show ((y.can &&& ~~~4095#64) == 0#64) = false by simpa [bne] using h]; rfl))], (by first | exact hR | exact hR.tail | exact hR.tail.tail | exact hR.tail.tail.tail | exact hR.tail.tail.tail.tail | exact hR.tail.tail.tail.tail.tail | exact hR.tail.tail.tail.tail.tail.tail)⟩)
        · (refine Post.body_ret _ (ResL.one rfl (ResV.tmp rfl)) ?_; intro wR hR; exact ⟨by rw [hno (hbad (by unfold bdOk; rw [show clashB y = true from h]; simp))], (by first | exact hR | exact hR.tail | exact hR.tail.tail | exact hR.tail.tail.tail | exact hR.tail.tail.tail.tail | exact hR.tail.tail.tail.tail.tail | exact hR.tail.tail.tail.tail.tail.tail)⟩)
        · rename_i h0
          refine Post.nextP (i + 1) ⟨by omega, fun j z hj hz => ?_⟩ (incl.lk (by repeat first | exact trivial | refine ⟨rfl, ?_⟩)) (fun w h => h.tail) (by omega)
          by_cases e : j = i
          · subst e; rw [hy] at hz; cases hz
            unfold bdOk
            rw [show clashB y = false from h, show ((y.can &&& ~~~4095#64) == 0#64) = true by simpa [bne] using h0]; rfl
          · exact hno2 j z (by omega) hz
      · have hd : decide ((i : Int) < (p.bounds.length : Int)) = false := by simpa using hlt
        have hall : p.bounds.all bdOk = true := by
          rw [List.all_eq_true]
          intro x hx
          obtain ⟨j, hj, rfl⟩ := List.mem_iff_getElem.1 hx
          exact hno2 j _ (by omega) (List.getElem?_eq_getElem hj)
        have hck : checkB p = !(p.rules.any fun r => !ruleB r p.bounds.length) := by
          unfold checkB
          rw [hall, show decide (p.rules.length ≤ 12) = true by have := of_decide_eq_false h2; rw [decide_eq_true_eq]; omega, show decide (1 ≤ p.bounds.length ∧ p.bounds.length ≤ 8) = true by have := of_decide_eq_true h1; simp; omega]
          simp
        repeat' (first | (apply TR.ch1 (o := ⟨_, .call _, _, _, _, _⟩); exact rfl; exact rfl; exact rfl; (first | exact Wd.plain rfl | exact Wd.on rfl rfl rfl); exact EvC.callV rfl rfl (fun w hs => containsRl_c 68 #[.pointer (some ⟨g, 0, none⟩)] (fun r => !ruleB r p.bounds.length) _ _ _ _ _ _ hs hB (fun x B c _ hx w hs => check1_c x B c g _ _ p.bounds.length _ _ _ _ (by omega) _ hx.1 hx.2 _ (by repeat first | exact List.Mem.head _ | apply List.Mem.tail) w hs)); rintro ⟨⟩) | refine TC.seq ?_ | refine TC.region ?_ | refine TR.nil ?_ | refine Post.then_normal ?_ | refine TC.skip ?_ | refine TC.ret ?_ | refine TC.exit ?_ | (apply TC.cond_bf; exact rfl; assumption) | refine Post.then_ret ?_ | refine Post.then_exit ?_ | refine Post.block_here ?_ | (apply TC.cond; exact rfl; all_goals (intro h)) | (apply TR.st1; exact rfl; exact rfl; exact rfl; (first | exact Wd.plain rfl | exact Wd.on rfl rfl rfl); (first | exact EvS.assign rfl | exact EvS.fieldAddr rfl | (first | (apply EvS.load1; exact rfl; (first | exact Reads.mem (by assumption) | exact Reads.own (by repeat first | exact List.Mem.head _ | assumption | apply List.Mem.tail)); (first | assumption | exact nthL_arr rfl | exact rfl)) | (apply EvS.loadW; exact rfl; (first | exact Reads.mem (by assumption) | exact Reads.own (by repeat first | exact List.Mem.head _ | assumption | apply List.Mem.tail)); first | exact rfl | assumption) | (apply EvS.loadH; exact rfl; (first | exact Reads.mem (by assumption) | exact Reads.own (by repeat first | exact List.Mem.head _ | assumption | apply List.Mem.tail)); assumption; first | exact rfl | assumption)) | exact EvS.ltI rfl rfl | exact EvS.makeFunc rfl rfl)))
        · (refine Post.body_ret _ (ResL.one rfl (ResV.tmp rfl)) ?_; intro wR hR; exact ⟨by rw [hno (by rw [hck, h]; rfl)], (by first | exact hR | exact hR.tail | exact hR.tail.tail | exact hR.tail.tail.tail | exact hR.tail.tail.tail.tail | exact hR.tail.tail.tail.tail.tail | exact hR.tail.tail.tail.tail.tail.tail)⟩)
        · (refine Post.body_ret _ (ResL.one rfl (ResV.tmp rfl)) ?_; intro wR hR; exact ⟨by rw [hck, h]; rfl, (by first | exact hR | exact hR.tail | exact hR.tail.tail | exact hR.tail.tail.tail | exact hR.tail.tail.tail.tail | exact hR.tail.tail.tail.tail.tail | exact hR.tail.tail.tail.tail.tail.tail)⟩)
  · rw [Bool.not_eq_true] at h1
    have h1' : (!decide (1 ≤ (p.bounds.length : Int) ∧ (p.bounds.length : Int) ≤ 8)) = true := by rw [h1]; rfl
    have hck : checkB p = false := by
      unfold checkB
      rw [show decide (1 ≤ p.bounds.length ∧ p.bounds.length ≤ 8) = false by have := of_decide_eq_false h1; simp; omega]
      simp
    refine calls_of_TC (args := [_]) Tryz.func43 rfl Tryz.ntmps43 (Nat.le_of_ble_eq_true rfl) hs ?_
    repeat' (first | (apply TR.ch1 (o := ⟨_, .call _, _, _, _, _⟩); exact rfl; exact rfl; exact rfl; (first | exact Wd.plain rfl | exact Wd.on rfl rfl rfl); exact EvC.callV rfl rfl (fun w hs => within_c _ _ _ _ _ _ hs); rintro ⟨⟩) | refine TC.seq ?_ | refine TC.region ?_ | refine TR.nil ?_ | refine Post.then_normal ?_ | refine TC.ret ?_ | (apply TC.cond_t; exact rfl) | refine Post.then_ret ?_ | (apply TR.sk1 (o := ⟨_, _, _, _, _, some _⟩); exact rfl; exact rfl; (first | exact Wd.off rfl rfl rfl rfl | exact Wd.offU rfl rfl rfl)) | (apply TR.gs_t (o := ⟨_, .move _, _, _, _, _⟩); exact rfl; exact rfl; exact rfl; exact rfl; (first | exact Wd.plain rfl | exact Wd.on rfl rfl rfl); exact EvS.move rfl; (first | exact rfl | assumption)) | (apply TR.st1; exact rfl; exact rfl; exact rfl; (first | exact Wd.plain rfl | exact Wd.on rfl rfl rfl); (first | exact EvS.assign rfl | exact EvS.fieldAddr rfl | (first | (apply EvS.load1; exact rfl; (first | exact Reads.mem (by assumption) | exact Reads.own (by repeat first | exact List.Mem.head _ | assumption | apply List.Mem.tail)); (first | assumption | exact nthL_arr rfl | exact rfl)) | (apply EvS.loadW; exact rfl; (first | exact Reads.mem (by assumption) | exact Reads.own (by repeat first | exact List.Mem.head _ | assumption | apply List.Mem.tail)); first | exact rfl | assumption) | (apply EvS.loadH; exact rfl; (first | exact Reads.mem (by assumption) | exact Reads.own (by repeat first | exact List.Mem.head _ | assumption | apply List.Mem.tail)); assumption; first | exact rfl | assumption)) | exact EvS.len rfl | (first | exact EvS.not rfl | exact EvS.neg64 rfl (by first | with_reducible exact U64.var _ | exact U64.lit rfl)) | (first | exact EvS.pick_t rfl rfl | exact EvS.pick_f rfl rfl))) | (apply TR.ch1 (o := ⟨_, .box _ _, _, _, _, _⟩) ; exact rfl; exact rfl; exact rfl; (first | exact Wd.plain rfl | exact Wd.on rfl rfl rfl); exact EvC.boxA rfl; intro g))
    (refine Post.body_ret _ (ResL.one rfl (ResV.tmp rfl)) ?_; intro wR hR; exact ⟨by rw [hno hck], (by first | exact hR | exact hR.tail | exact hR.tail.tail | exact hR.tail.tail.tail | exact hR.tail.tail.tail.tail | exact hR.tail.tail.tail.tail.tail | exact hR.tail.tail.tail.tail.tail.tail)⟩)
end Go.Proofs.YtgpgjpcebajofaaGreatDoor
set_option maxHeartbeats 4000000
set_option linter.unusedVariables false
set_option linter.unusedSimpArgs false
set_option maxRecDepth 100000
namespace Go.Proofs.YtgpgjpcebajofaaGreatDoor
open Go Go.XC Go.RowKit Go.SetsP
attribute [local irreducible] Post TC TR D WL EvS EvC Wd ResL Code.wpIn Exit.then Exit.inBlock Exit.noGoto LoopK LoopP bodyPostM Reads Calls

theorem small_of {s : BV} (h : ((s &&& ~~~4095#64) != 0#64) = false) : small s := by
  have h0 : s &&& ~~~4095#64 = 0#64 := by simpa using h
  unfold small
  refine Nat.lt_pow_two_of_testBit (n := 12) _ fun i hi => ?_
  show s.getLsbD i = false
  by_cases h64 : i < 64
  · have h1 : (s &&& ~~~4095#64).getLsbD i = false := by rw [h0]; simp
    rw [BitVec.getLsbD_and, BitVec.getLsbD_not] at h1
    have h2 : (4095#64).getLsbD i = false := by
      have : ∀ j, j < 64 → 12 ≤ j → (4095#64).getLsbD j = false := by decide
      exact this i h64 hi
    rw [h2] at h1
    simpa [h64] using h1
  · exact BitVec.getLsbD_of_ge s i (by omega)
theorem small_lo {x : Bd} (h : bdOk x = true) : small x.lo ∧ small x.can := by
  unfold bdOk at h
  rw [Bool.and_eq_true] at h
  obtain ⟨h1, h2⟩ := h
  have hc : small x.can := small_of (by simpa using h1)
  refine ⟨?_, hc⟩
  have h3 : x.lo &&& ~~~x.can = 0#64 := by simpa [clashB] using h2
  unfold small at *
  refine Nat.lt_pow_two_of_testBit (n := 12) _ fun i hi => ?_
  show x.lo.getLsbD i = false
  have hcan : x.can.getLsbD i = false := Nat.testBit_lt_two_pow (Nat.lt_of_lt_of_le hc (Nat.pow_le_pow_right (n := 2) (by omega) hi))
  by_cases h64 : i < 64
  · have h1 : (x.lo &&& ~~~x.can).getLsbD i = false := by rw [h3]; simp
    rw [BitVec.getLsbD_and, BitVec.getLsbD_not, hcan] at h1
    simpa [h64] using h1
  · exact BitVec.getLsbD_of_ge _ i (by omega)

theorem holds1_c (s : BV) (m : Mem) (L : Own) (w : World) (hs : St m L w) :
    Calls Tryz.prog 56 #[u64v s] w fun e w' => e = .returned (.bool ((s &&& ~~~4095#64) != 0#64)) ∧ St m L w' := by
  unfold u64v
  refine calls_of_TC (args := [_]) Tryz.func56 rfl Tryz.ntmps56 (Nat.le_of_ble_eq_true rfl) hs ?_
  repeat' (first | refine TC.seq ?_ | refine TC.region ?_ | refine TR.nil ?_ | refine Post.then_normal ?_ | refine TC.ret ?_ | (apply a_move; exact a_moves) | (apply a_assign; exact a_assigns) | (apply a_bneq; exact a_bneqs) | (apply a_bandNot; exact a_bandNots))
  (refine Post.body_ret _ (ResL.one rfl (ResV.tmp rfl)) ?_; intro wR hR; exact ⟨rfl, (by repeat first | exact hR | replace hR := hR.tail)⟩)

theorem holds2_c (b : List Bd) (r : Rl) (B : Option Addr) (c : Nat) (g : Nat) (T : TypeId) (hb : okB b) (hr : okR r) (m : Mem) (hT : TabM m) (hB : Sl m 1 B (ints r.vars)) (L : Own) (hg : some (g, .cells (bArr b) T (0, 0)) ∈ L) (w : World) (hs : St m L w) :
    Calls Tryz.prog 58 #[rlV r B c, .pointer (some ⟨g, 0, none⟩)] w fun e w' => e = .returned (.bool (!possB b r)) ∧ St m L w' := by
  have hsz : (bArr b).size = 16 := by rw [bArr_size, hb.1]
  unfold rlV
  refine calls_of_TC (args := [_, _]) Tryz.func58 rfl Tryz.ntmps58 (Nat.le_of_ble_eq_true rfl) hs ?_
  repeat' (first | (apply a_call; exact EvC.callV rfl rfl (fun w hs => possible_c b r B c hb hr _ hT hB _ _ hs); exact rfl; exact wd; rintro ⟨⟩) | refine TC.seq ?_ | refine TC.region ?_ | refine TR.nil ?_ | refine Post.then_normal ?_ | refine TC.ret ?_ | (apply a_assign; exact a_assigns) | (apply a_load; exact a_loads) | (apply a_unOp; exact a_unOps) | (apply c_boxA; exact c_boxAs; exact rfl; intro g))
  (refine Post.body_ret _ (ResL.one rfl (ResV.tmp rfl)) ?_; intro wR hR; exact ⟨rfl, (by repeat first | exact hR | replace hR := hR.tail)⟩)

theorem searched11_c (x : Bd) (m : Mem) (L : Own) (w : World) (hs : St m L w) :
    Calls Tryz.prog 72 #[bdV x] w fun e w' => e = .returned (.bool (x.lo != x.can)) ∧ St m L w' := by
  unfold bdV
  refine calls_of_TC (args := [_]) Tryz.func72 rfl Tryz.ntmps72 (Nat.le_of_ble_eq_true rfl) hs ?_
  repeat' (first | refine TC.seq ?_ | refine TC.region ?_ | refine TR.nil ?_ | refine Post.then_normal ?_ | refine TC.ret ?_ | (apply a_assign; exact a_assigns) | (apply a_fieldAddr; exact a_fieldAddrs) | (apply a_load; exact a_loads) | (apply a_bneq; exact a_bneqs) | (apply c_boxA; exact c_boxAs; exact rfl; intro g))
  (refine Post.body_ret _ (ResL.one rfl (ResV.tmp rfl)) ?_; intro wR hR; exact ⟨rfl, (by repeat first | exact hR | replace hR := hR.tail)⟩)

theorem spl_bArr {b : List Bd} {k : Nat} {x : Bd} (h : b[k]? = some x) (y : Bd) : spl (bArr b) (k * 2) #[.int .u64 (y.lo.toNat : Int), .int .u64 (y.can.toNat : Int)] = bArr (b.set k y) := by
  have hk : k < b.length := (List.getElem?_eq_some_iff.1 h).1
  have h0 : (bArr b).size = b.length * 2 := bArr_size b
  rw [show b.set k y = (b.set k ⟨y.lo, x.can⟩).set k ⟨y.lo, y.can⟩ by rw [List.set_set]]
  rw [← bArr_set_can (b := b.set k ⟨y.lo, x.can⟩) (k := k) (x := ⟨y.lo, x.can⟩) (by rw [List.getElem?_set_self hk]) y.can, ← bArr_set_lo h y.lo]
  apply Array.ext'
  unfold spl
  rw [List.toList_toArray]
  apply List.ext_getElem?
  intro i
  simp only [Array.toList_setIfInBounds, List.getElem?_set, List.length_set, Array.length_toList, h0]
  by_cases h1 : i < k * 2
  · rw [List.append_assoc, List.getElem?_append_left (by simp [h0]; omega), List.getElem?_take_of_lt h1, if_neg (by omega), if_neg (by omega)]
  · have hlen : (List.take (k * 2) (bArr b).toList).length = k * 2 := by simp [h0]; omega
    rw [List.append_assoc, List.getElem?_append_right (by rw [hlen]; omega), hlen]
    by_cases h2 : i = k * 2
    · subst h2
      rw [if_neg (by omega), if_pos rfl, if_pos (by omega), Nat.sub_self]; rfl
    · by_cases h3 : i = k * 2 + 1
      · subst h3
        rw [if_pos rfl, if_pos (by omega), show k * 2 + 1 - k * 2 = 1 by omega]; rfl
      · rw [if_neg (by omega), if_neg (by omega), List.getElem?_append_right (by simp; omega), List.getElem?_drop]
        congr 1
        simp; omega

def dupB (l : List BV) : List Bd := l.map fun s => ⟨s, s⟩
def pad8 (l : List Bd) : List Bd := l ++ List.replicate (8 - l.length) ⟨0, 0⟩
theorem pad8_len {l : List Bd} (h : l.length ≤ 8) : (pad8 l).length = 8 := by simp [pad8]; omega
theorem pad8_ok {l : List Bd} (h : l.length ≤ 8) (hs : ∀ x, x ∈ l → small x.lo ∧ small x.can) : okB (pad8 l) :=
  ⟨pad8_len h, fun x hx => by
    rcases List.mem_append.1 hx with h1 | h1
    · exact hs x h1
    · have := List.eq_of_mem_replicate h1
      subst this
      exact ⟨by unfold small; decide, by unfold small; decide⟩⟩
theorem pad8_snoc {l : List Bd} (h : l.length < 8) (y : Bd) : (pad8 l).set l.length y = pad8 (l ++ [y]) := by
  unfold pad8
  rw [List.set_append_right _ _ (Nat.le_refl _), Nat.sub_self, List.append_assoc]
  congr 1
  obtain ⟨k, hk⟩ : ∃ k, 8 - l.length = k + 1 := ⟨7 - l.length, by omega⟩
  rw [hk, List.replicate_succ, List.set_cons_zero, List.length_append, List.length_singleton, show 8 - (l.length + 1) = k by omega]
  rfl
theorem pad8_get {l : List Bd} (h : l.length < 8) : (pad8 l)[l.length]? = some ⟨0, 0⟩ := by
  unfold pad8
  rw [List.getElem?_append_right (Nat.le_refl _), Nat.sub_self, List.getElem?_replicate, if_pos (by omega)]
theorem okR_of {r : Rl} {n : Nat} (h : ruleB r n = true) (hn : n ≤ 8) : okR r := by
  unfold ruleB at h
  split at h
  · cases h
  · rename_i h1
    split at h
    · cases h
    · rename_i h2
      rw [Bool.or_eq_true] at h1
      have hz : varsZ r.kind ≠ 0 := fun e => h1 (.inl (by simp [e]))
      have hl : (r.vars.length : Int) = varsZ r.kind := by
        by_cases e : (r.vars.length : Int) = varsZ r.kind
        · exact e
        · exact absurd (.inr (by simpa [bne] using e)) h1
      refine ⟨fun v hv => ?_, ?_, ?_, hl⟩
      · have h3 : (r.vars.zipIdx.all fun x => okV r n x.1 x.2) = true := by simpa using h2
        rw [List.all_eq_true] at h3
        obtain ⟨j, hj, rfl⟩ := List.mem_iff_getElem.1 hv
        have h4 := h3 (r.vars[j], j) (List.mk_mem_zipIdx_iff_getElem?.2 (List.getElem?_eq_getElem hj))
        unfold okV at h4
        rw [Bool.and_eq_true] at h4
        have := of_decide_eq_true h4.1
        simp only at this
        omega
      · unfold varsZ at hz
        (repeat' split at hz) <;> omega
      · unfold varsZ at hz
        (repeat' split at hz) <;> omega
theorem checkB_ok {p : Pb} (h : checkB p = true) : (1 ≤ p.bounds.length ∧ p.bounds.length ≤ 8) ∧ p.rules.length ≤ 12 ∧ (∀ x, x ∈ p.bounds → bdOk x = true) ∧ ∀ r, r ∈ p.rules → ruleB r p.bounds.length = true := by
  unfold checkB at h
  simp only [Bool.and_eq_true, decide_eq_true_eq, List.all_eq_true, Bool.not_eq_true', List.any_eq_false] at h
  exact ⟨h.1.1.1, h.1.1.2, h.1.2, fun r hr => by simpa using h.2 r hr⟩

def badL (p : Pb) (l : List BV) : Bool := !checkB p || (l.length : Int) != p.bounds.length || l.any fun s => (s &&& ~~~4095#64) != 0#64
def firstI (i : Int) (n : Nat) : Int := if i < 0 then n else i
def holdsB (p : Pb) (l : List BV) : Int × Int := if badL p l then (0, 2) else (firstI (idx (fun r => !possB (pad8 (dupB l)) r) p.rules) p.rules.length, 0)
theorem holds_c (p : Pb) (cs : Array Value) (U : Option Addr) (cu : Nat) (l : List BV) (h9 : p.bounds.length ≤ 1000) (h13 : p.rules.length ≤ 1000) (m : Mem) (hT : TabM m) (hp : PbC m p cs) (hU : Sl m 1 U (u64s l)) (L : Own) (w : World) (hs : St m L w) :
    Calls Tryz.prog 18 #[.agg cs, .slice U l.length cu] w fun x w' => x = .returned (.tuple #[.int .i64 (holdsB p l).1, .int .i64 (holdsB p l).2]) ∧ St m L w' := by
  have hpc := hp
  obtain ⟨A, c, B, kc, rfl, hA, hB⟩ := hp
  have bad (h : badL p l = true) : holdsB p l = (0, 2) := by unfold holdsB; rw [if_pos h]
  refine calls_of_TC (args := [_, _]) Tryz.func18 rfl Tryz.ntmps18 (Nat.le_of_ble_eq_true rfl) hs ?_
  repeat' (first | (apply a_call; exact EvC.callV rfl rfl (fun w hs => check_c p _ h9 h13 _ hpc _ _ hs); exact rfl; exact wd; rintro ⟨⟩) | (apply a_call; exact EvC.callV rfl rfl (fun w hs => containsU_c 56 #[] (fun s => (s &&& ~~~4095#64) != 0#64) _ _ _ _ _ _ hs hU (fun x _ w hs => holds1_c x _ _ w hs)); exact rfl; exact wd; rintro ⟨⟩) | refine TC.seq ?_ | refine TC.region ?_ | refine TR.nil ?_ | refine Post.then_normal ?_ | refine TC.block ?_ | refine TC.skip ?_ | refine TC.ret ?_ | (apply TC.cond_t; exact rfl) | refine Post.then_ret ?_ | (apply TC.cond; exact rfl; all_goals (intro h)) | (apply a_sk; exact a_sks) | (apply a_gt; exact a_gss; (first | exact rfl | assumption)) | (apply a_gs; exact a_gss; all_goals (intro h)) | (apply a_move; exact a_moves) | (apply a_assign; exact a_assigns) | (apply a_fieldAddr; exact a_fieldAddrs) | (apply a_load; exact a_loads) | (apply a_len; exact a_lens) | (apply a_bneq; exact a_bneqs) | (apply a_pick; exact a_picks) | (apply c_boxA; exact c_boxAs; exact rfl; intro g) | (apply c_alloc; exact c_allocs; exact rfl; intro g))
  · (refine Post.body_ret _ (ResL.two rfl (ResV.tmp rfl) (ResV.tmp rfl)) ?_; intro wR hR; exact ⟨by rw [bad (by unfold badL; rw [show (!checkB p) = true by cases hc : checkB p <;> simp_all [errI]]; rfl)], (by repeat first | exact hR | replace hR := hR.tail)⟩)
  · rename_i h1
    (refine Post.body_ret _ (ResL.two rfl (ResV.tmp rfl) (ResV.tmp rfl)) ?_; intro wR hR; exact ⟨by rw [bad (by unfold badL; rw [h, Bool.or_true]; rfl)], (by repeat first | exact hR | replace hR := hR.tail)⟩)
  · (refine Post.body_ret _ (ResL.two rfl (ResV.tmp rfl) (ResV.tmp rfl)) ?_; intro wR hR; exact ⟨by rw [bad (by unfold badL; rw [h, Bool.or_true])], (by repeat first | exact hR | replace hR := hR.tail)⟩)
  rename_i gp h1 h2
  have h3 := h
  obtain ⟨gb, hgb⟩ : ∃ x, x = g := ⟨_, rfl⟩
  subst hgb
  have hck : checkB p = true := by
    cases hc : checkB p
    · rw [hc] at h1; simp [errI] at h1
    · rfl
  obtain ⟨⟨hb1, hb8⟩, hr12, hbd, hrl⟩ := checkB_ok hck
  have hln : l.length = p.bounds.length := by have : (l.length : Int) = p.bounds.length := by simpa [bne] using h2
                                              omega
  have hsm : ∀ x, x ∈ dupB l → small x.lo ∧ small x.can := fun x hx => by
    obtain ⟨s, hs, rfl⟩ := List.mem_map.1 hx
    have := List.any_eq_false.1 h3 s hs
    have := small_of (s := s) (by simpa using this)
    exact ⟨this, this⟩
  have hdl : (dupB l).length = l.length := by simp [dupB]
  have hok : okB (pad8 (dupB l)) := pad8_ok (by omega) hsm
  have good : holdsB p l = (firstI (idx (fun r => !possB (pad8 (dupB l)) r) p.rules) p.rules.length, 0) := by
    unfold holdsB
    rw [if_neg]
    unfold badL
    rw [hck, h2, h3]; simp
  refine TC.loopP (X := Nat) (fun k => k ≤ l.length) (fun k => [(27, .int .i64 (k : Int)), (26, .int .i64 (l.length : Int)), (25, .slice U l.length cu), (6, .pointer (some ⟨gb, 0, none⟩)), (2, .pointer (some ⟨gp, 0, none⟩))])
    (fun k => St m (some (gb, .cells (bArr (pad8 (dupB (l.take k)))) 89 (0, 0)) :: some (gp, .cells #[.slice A p.bounds.length c, .slice B p.rules.length kc] 25 (0, 0)) :: L)) (fun k => l.length - k) 0 (by omega) inc (fun w h => h) ?_
  intro i hk
  by_cases hlt : i < l.length
  · obtain ⟨x, hx⟩ : ∃ x, l[i]? = some x := ⟨_, List.getElem?_eq_getElem hlt⟩
    obtain ⟨g1, o, blk, T, fr, hAe, hmb, hc⟩ := hU.get1 (k := i) (v := u64v x) (by simp [u64s, hx])
    unfold u64v at hc
    have hd : decide ((i : Int) < (l.length : Int)) = true := by simpa using hlt
    have htl : (dupB (l.take i)).length = i := by simp [dupB]; omega
    have hsz : (bArr (pad8 (dupB (l.take i)))).size = 16 := by rw [bArr_size, pad8_len (by omega)]
    have hst : spl (bArr (pad8 (dupB (l.take i)))) (0 + (i : Int).toNat * 2) #[.int .u64 (x.toNat : Int), .int .u64 (x.toNat : Int)] = bArr (pad8 (dupB (l.take (i + 1)))) := by
      have h1 := spl_bArr (b := pad8 (dupB (l.take i))) (k := i) (x := ⟨0, 0⟩) (by have := pad8_get (l := dupB (l.take i)) (by omega); rwa [htl] at this) ⟨x, x⟩
      rw [Nat.zero_add, Int.toNat_natCast, h1]
      congr 1
      have h2 := pad8_snoc (l := dupB (l.take i)) (by omega) ⟨x, x⟩
      rw [htl] at h2
      rw [h2, List.take_add_one, hx]
      simp [dupB]
    repeat' (first | (apply TR.ch0 (o := ⟨_, .store 53 _ _, _, _, _, _⟩); exact rfl; exact rfl; exact Wd.plain rfl; exact EvC.storeN rfl rfl rfl (by first | exact bArr_one _ | exact rfl | (intro v hv; simp at hv; rcases hv with rfl | rfl | rfl | rfl | rfl | rfl | rfl | rfl <;> rfl)) (Upd.castC hst (by repeat first | exact Upd.head | apply Upd.tail)) (by rw [hsz]; show 0 + (i : Int).toNat * 2 + 2 ≤ 16; omega); rintro ⟨⟩) | refine TC.seq ?_ | refine TC.region ?_ | refine TR.nil ?_ | refine Post.then_normal ?_ | refine TC.block ?_ | refine TC.skip ?_ | (apply TC.cond_bt; exact rfl; assumption) | refine Post.block_normal ?_ | (apply TR.st1 (o := ⟨_, .build _ _, _, _, _, _⟩); exact rfl; exact rfl; exact rfl; (first | exact Wd.plain rfl | exact Wd.on rfl rfl rfl); exact EvS.buildV rfl (by kernel_rfl)) | (apply a_move; exact a_moves) | (apply a_assign; exact a_assigns) | (apply a_load; exact a_loads) | (apply a_blss; exact a_blsss) | (apply a_badd; exact a_badds) | (apply a_indexAddr; exact a_indexAddrs))
    exact Post.nextP (i + 1) (by omega) inc (fun w h => h) (by omega)
  · have hd : decide ((i : Int) < (l.length : Int)) = false := by simpa using hlt
    have hil : i = l.length := by omega
    subst hil
    rw [List.take_length]
    repeat' (first | (apply a_call; exact EvC.callV rfl rfl (fun w hs => indexRl_c 58 #[.pointer (some ⟨gb, 0, none⟩)] (fun r => !possB (pad8 (dupB l)) r) _ _ _ _ _ _ hs hB (fun x B c hx hxx w hs => holds2_c _ x B c gb _ hok (okR_of (hrl x hx) hb8) _ hT hxx.1 _ (List.Mem.head _) w hs)); exact rfl; exact wd; rintro ⟨⟩) | refine TC.seq ?_ | refine TC.region ?_ | refine TR.nil ?_ | refine Post.then_normal ?_ | refine TC.skip ?_ | refine TC.ret ?_ | refine TC.exit ?_ | (apply TC.cond_bf; exact rfl; assumption) | refine Post.then_exit ?_ | refine Post.block_here ?_ | (apply TC.cond; exact rfl; all_goals (intro h)) | (apply a_move; exact a_moves) | (apply a_assign; exact a_assigns) | (apply a_fieldAddr; exact a_fieldAddrs) | (apply a_load; exact a_loads) | (apply a_len; exact a_lens) | (apply a_blss; exact a_blsss) | (apply a_makeFunc; exact a_makeFuncs))
    · (refine Post.body_ret _ (ResL.two rfl (ResV.tmp rfl) (ResV.tmp rfl)) ?_; intro wR hR; exact ⟨by rw [good]; unfold firstI; rw [if_pos (of_decide_eq_true h)], (by repeat first | exact hR | replace hR := hR.tail)⟩)
    · (refine Post.body_ret _ (ResL.two rfl (ResV.tmp rfl) (ResV.tmp rfl)) ?_; intro wR hR; exact ⟨by rw [good]; unfold firstI; rw [if_neg (of_decide_eq_false h)], (by repeat first | exact hR | replace hR := hR.tail)⟩)
end Go.Proofs.YtgpgjpcebajofaaGreatDoor
set_option maxHeartbeats 4000000
set_option linter.unusedVariables false
set_option linter.unusedSimpArgs false
set_option maxRecDepth 100000
namespace Go.Proofs.YtgpgjpcebajofaaGreatDoor
open Go Go.XC Go.RowKit Go.SetsP
attribute [local irreducible] Post TC TR D WL EvS EvC Wd ResL Code.wpIn Exit.then Exit.inBlock Exit.noGoto LoopK LoopP bodyPostM Reads Calls

def vals (l : List Int) : List Value := l.map (.int .i64)
theorem vals_ints (l : List Int) : (ints l).flatten = vals l := ints_flatten l
theorem vals_one (l : List Int) : ∀ v, v ∈ vals l → v.oneCell' = true := by
  intro v hv
  obtain ⟨x, _, rfl⟩ := List.mem_map.1 hv
  rfl
theorem ints_none {m : Mem} {l : List Int} (h : Sl m 1 none (ints l)) : l = [] := by
  cases l with
  | nil => rfl
  | cons x l =>
    obtain ⟨g, o, _, _, _, h1, _⟩ := h.at_ (by simp [ints])
    cases h1
theorem bds_none {m : Mem} {l : List Bd} (h : Sl m 2 none (bds l)) : l = [] := by
  cases l with
  | nil => rfl
  | cons x l =>
    obtain ⟨g, o, _, _, _, h1, _⟩ := h.at_ (by simp [bds])
    cases h1

theorem clone_c (A : Option Addr) (c : Nat) (l : List Int) (hl : l.length ≤ 100000) (m : Mem) (L : Own) (w : World) (hs : St m L w) (hA : Sl m 1 A (ints l)) :
    Calls Tryz.prog 51 #[.slice A l.length c] w fun r w' => ∃ p : { p : Value × Option (Nat × Obj) // OwnRow p.1 3 1 l.length (vals l) p.2 }, r = .returned p.1.1 ∧ St m (p.1.2 :: L) w' := by
  have hnews : (vals l).length = l.length * 1 := by simp [vals]
  have hrd : RdC (St m L) A (vals l) := by rw [← vals_ints]; exact hA.rdc
  cases A with
  | none =>
    have := ints_none hA
    subst this
    refine calls_of_TC (args := [_]) Tryz.func51 rfl Tryz.ntmps51 (Nat.le_of_ble_eq_true rfl) hs ?_
    repeat' (first | refine TC.seq ?_ | refine TC.region ?_ | refine TR.nil ?_ | refine Post.then_normal ?_ | refine TC.ret ?_ | (apply TC.cond_t; exact rfl) | refine Post.then_ret ?_ | (apply TR.st1; exact rfl; exact rfl; exact rfl; (first | exact Wd.plain rfl | exact Wd.on rfl rfl rfl); (first | exact EvS.move rfl | exact EvS.assign rfl | (first | exact EvS.eqNilS rfl rfl | exact EvS.nilCheck rfl))))
    refine Post.body_ret _ (ResL.one rfl (ResV.tmp rfl)) ?_
    exact fun w h => ⟨⟨(_, none), .inl ⟨rfl, rfl, rfl, rfl⟩⟩, rfl, h.addNone⟩
  | some ad =>
    refine calls_of_TC (args := [_]) Tryz.func51 rfl Tryz.ntmps51 (Nat.le_of_ble_eq_true rfl) hs ?_
    repeat' (first | (apply TR.ch1 (o := ⟨_, .buildSlice _ 0 _, _, _, _, _⟩); exact rfl; exact rfl; exact rfl; exact Wd.plain rfl; exact EvC.buildS0; intro g) | refine TC.seq ?_ | refine TC.region ?_ | refine TR.nil ?_ | refine Post.then_normal ?_ | refine TC.skip ?_ | (apply TC.cond_f; exact rfl) | (apply TR.st1; exact rfl; exact rfl; exact rfl; (first | exact Wd.plain rfl | exact Wd.on rfl rfl rfl); (first | exact EvS.move rfl | exact EvS.assign rfl | (first | exact EvS.eqNilS rfl rfl | exact EvS.nilCheck rfl))))
    refine TR.ch1 rfl rfl rfl (by first | exact Wd.plain rfl | exact Wd.on rfl rfl rfl) (EvC.append (xs := []) (news := vals l) rfl rfl (OwnRow.lit (n := 0) (cs := #[]) rfl (by decide)) Rep1.head (by first | exact hA.rdc | (rw [← vals_ints]; exact hA.rdc)) hnews (vals_one l) rfl (by decide) (by omega) _ (fun e2 => Rep1.head)) ?_
    rintro ⟨⟨v, e⟩, hp⟩
    simp only at hp ⊢
    rw [Nat.zero_add, List.nil_append] at hp
    repeat' (first | refine TR.nil ?_ | refine Post.then_normal ?_ | refine TC.ret ?_ | (apply TR.st1 (o := ⟨_, .assign _, _, _, _, _⟩); exact rfl; exact rfl; exact rfl; (first | exact Wd.plain rfl | exact Wd.on rfl rfl rfl); exact EvS.assign rfl))
    refine Post.body_ret _ (ResL.one rfl (ResV.tmp rfl)) ?_
    exact fun w h => ⟨⟨(v, e), hp⟩, rfl, h⟩

theorem cloneB_c (A : Option Addr) (c : Nat) (l : List Bd) (hl : l.length ≤ 100000) (m : Mem) (L : Own) (w : World) (hs : St m L w) (hA : Sl m 2 A (bds l)) :
    Calls Tryz.prog 63 #[.slice A l.length c] w fun r w' => ∃ p : { p : Value × Option (Nat × Obj) // OwnRow p.1 53 2 l.length (bds l).flatten p.2 }, r = .returned p.1.1 ∧ St m (p.1.2 :: L) w' := by
  have hnews : (bds l).flatten.length = l.length * 2 := by rw [flatten_length (bds_len l), bds_length]
  have hone : ∀ v, v ∈ (bds l).flatten → v.oneCell' = true := by rw [bds_flatten]; exact bdC_oneCell l
  cases A with
  | none =>
    have := bds_none hA
    subst this
    refine calls_of_TC (args := [_]) Tryz.func63 rfl Tryz.ntmps63 (Nat.le_of_ble_eq_true rfl) hs ?_
    repeat' (first | refine TC.seq ?_ | refine TC.region ?_ | refine TR.nil ?_ | refine Post.then_normal ?_ | refine TC.ret ?_ | (apply TC.cond_t; exact rfl) | refine Post.then_ret ?_ | (apply TR.st1; exact rfl; exact rfl; exact rfl; (first | exact Wd.plain rfl | exact Wd.on rfl rfl rfl); (first | exact EvS.move rfl | exact EvS.assign rfl | (first | exact EvS.eqNilS rfl rfl | exact EvS.nilCheck rfl))))
    refine Post.body_ret _ (ResL.one rfl (ResV.tmp rfl)) ?_
    exact fun w h => ⟨⟨(_, none), .inl ⟨rfl, rfl, rfl, rfl⟩⟩, rfl, h.addNone⟩
  | some ad =>
    refine calls_of_TC (args := [_]) Tryz.func63 rfl Tryz.ntmps63 (Nat.le_of_ble_eq_true rfl) hs ?_
    repeat' (first | (apply TR.ch1 (o := ⟨_, .buildSlice _ 0 _, _, _, _, _⟩); exact rfl; exact rfl; exact rfl; exact Wd.plain rfl; exact EvC.buildS0; intro g) | refine TC.seq ?_ | refine TC.region ?_ | refine TR.nil ?_ | refine Post.then_normal ?_ | refine TC.skip ?_ | (apply TC.cond_f; exact rfl) | (apply TR.st1; exact rfl; exact rfl; exact rfl; (first | exact Wd.plain rfl | exact Wd.on rfl rfl rfl); (first | exact EvS.move rfl | exact EvS.assign rfl | (first | exact EvS.eqNilS rfl rfl | exact EvS.nilCheck rfl))))
    refine TR.ch1 rfl rfl rfl (by first | exact Wd.plain rfl | exact Wd.on rfl rfl rfl) (EvC.append (xs := []) (news := (bds l).flatten) rfl rfl (OwnRow.lit (n := 0) (cs := #[]) rfl (by decide)) Rep1.head hA.rdc hnews hone rfl (by decide) (by omega) _ (fun e2 => Rep1.head)) ?_
    rintro ⟨⟨v, e⟩, hp⟩
    simp only at hp ⊢
    rw [Nat.zero_add, List.nil_append] at hp
    repeat' (first | refine TR.nil ?_ | refine Post.then_normal ?_ | refine TC.ret ?_ | (apply TR.st1 (o := ⟨_, .assign _, _, _, _, _⟩); exact rfl; exact rfl; exact rfl; (first | exact Wd.plain rfl | exact Wd.on rfl rfl rfl); exact EvS.assign rfl))
    refine Post.body_ret _ (ResL.one rfl (ResV.tmp rfl)) ?_
    exact fun w h => ⟨⟨(v, e), hp⟩, rfl, h⟩

theorem vals_erase (l : List Int) (i : Nat) : vals (l.eraseIdx i) = (vals l).take i ++ (vals l).drop (i + 1) := by
  unfold vals
  rw [List.eraseIdx_eq_take_drop_succ, List.map_append, List.map_take, List.map_drop]

theorem delete_c (v : Value) (e : Option (Nat × Obj)) (l : List Int) (i : Nat) (hi : i < l.length) (hv : OwnRow v 3 1 l.length (vals l) e) (m : Mem) (L : Own) (w : World) (hs : St m (e :: L) w) :
    Calls Tryz.prog 50 #[v, .int .i64 (i : Int), .int .i64 ((i + 1 : Nat) : Int)] w fun r w' => ∃ p : { p : Value × Option (Nat × Obj) // OwnRow p.1 3 1 (l.length - 1) (vals (l.eraseIdx i)) p.2 }, r = .returned p.1.1 ∧ St m (p.1.2 :: L) w' := by
  rcases hv with ⟨rfl, h0, _, _⟩ | ⟨g, cap, junk, rfl, hc1, hc2, hlen, hjl, rfl⟩
  · omega
  have hne : (((i : Nat) : Int) == ((i + 1 : Nat) : Int)) = false := by simp; omega
  have hvl : (vals l).length = l.length := by simp [vals]
  have hbl : (vals l ++ junk).length = cap := by omega
  obtain ⟨cs, hcs⟩ : ∃ cs, cs = (vals l ++ junk).toArray := ⟨_, rfl⟩
  have hsz : cs.size = cap := by rw [hcs]; simpa using hbl
  obtain ⟨cs2, hcs2⟩ : ∃ cs2, cs2 = spl cs (i * 1) ((vals l).drop (i + 1)).toArray := ⟨_, rfl⟩
  obtain ⟨cs3, hcs3⟩ : ∃ cs3, cs3 = spl cs2 (0 + (l.length - 1) * 1) (List.replicate 1 (Value.int .i64 0)).toArray := ⟨_, rfl⟩
  have hsz2 : cs2.size = cap := by rw [hcs2]; unfold spl; simp [hsz, hvl]; omega
  have hnl : ((vals l).drop (i + 1)).length = (l.length - (i + 1)) * 1 := by simp [hvl]
  have hon : ∀ u, u ∈ (vals l).drop (i + 1) → u.oneCell' = true := fun u hu => vals_one l u (List.mem_of_mem_drop hu)
  have hrd : RdC (St m (some (g, .cells cs 3) :: L)) (some ⟨g, if cap = i + 1 then 0 else 0 + (i + 1) * 1, none⟩) ((vals l).drop (i + 1)) := by
    by_cases hq : cap = i + 1
    · left
      apply List.drop_eq_nil_of_le
      omega
    · right
      refine ⟨g, _, cs, _, _, rfl, Reads.own (List.Mem.head _), fun j u hj => ?_⟩
      rw [if_neg hq, hcs]
      rw [List.getElem?_drop] at hj
      have hlt := (List.getElem?_eq_some_iff.1 hj).1
      simp only [List.getElem?_toArray]
      rw [List.getElem?_append_left (by omega), ← hj]
      congr 1; omega
  have hcap : ¬ (cap = i + (l.length - (i + 1))) := by omega
  have hroom : i + (l.length - (i + 1)) ≤ cap := by omega
  rw [← hcs] at hs
  refine calls_of_TC (args := [_, _, _]) Tryz.func50 rfl Tryz.ntmps50 (Nat.le_of_ble_eq_true rfl) hs ?_
  repeat' (first | refine TC.seq ?_ | refine TC.region ?_ | refine TR.nil ?_ | refine Post.then_normal ?_ | refine TC.skip ?_ | (apply TC.cond_bf; exact rfl; assumption) | (apply TR.st1; exact rfl; exact rfl; exact rfl; (first | exact Wd.plain rfl | exact Wd.on rfl rfl rfl); (first | (first | exact EvS.slice3 rfl rfl rfl rfl (by omega) (by omega) (by omega) | exact EvS.sliceA rfl) | exact EvS.move rfl | exact EvS.assign rfl | exact EvS.len rfl | (first | exact EvS.eq64 rfl rfl (by first | with_reducible exact U64.var _ | exact U64.lit rfl) (by first | with_reducible exact U64.var _ | exact U64.lit rfl) | exact EvS.eqI rfl rfl | exact EvS.eqB rfl rfl))))
  refine TC.draw' (L1 := [some (g, .cells cs 3)]) (Lb := L) [.st, .st, .st, .st, .st, .st, .ch] mixed rfl (by kernel_rfl) ?_
  repeat' (first | (apply D.chx (o := ⟨_, .call _, _, _, _, _⟩); exact rfl; exact Wd.plain rfl; exact EvC.appendIn rfl rfl hrd hnl (by decide) hon hroom (by rw [hsz]; omega) (Upd.castC hcs2.symm Upd.head); exact inferInstance; exact fun _ _ h => StX.of1 h; rintro ⟨⟩) | (apply D.st1; exact rfl; (first | exact Wd.plain rfl | exact Wd.on rfl rfl rfl); (first | (first | exact EvS.sliceHi rfl rfl rfl (by omega) | exact EvS.sliceLo rfl rfl (by omega) | exact EvS.sliceA rfl) | exact EvS.move rfl)) | refine D.tail_ ?_)
  have hn1 : i + (l.length - (i + 1)) = l.length - 1 := by omega
  have hn2 : l.length - (l.length - 1) = 1 := by omega
  have hcap2 : ¬ (cap = l.length - 1) := by omega
  rw [hn1]
  repeat' (first | refine TC.seq ?_ | refine TC.region ?_ | refine TR.nil ?_ | refine Post.then_normal ?_ | (apply TR.st1; exact rfl; exact rfl; exact rfl; (first | exact Wd.plain rfl | exact Wd.on rfl rfl rfl); (first | (first | exact EvS.slice2 rfl rfl rfl (by omega) (by omega) | exact EvS.sliceA rfl) | exact EvS.move rfl | exact EvS.assign rfl | exact EvS.len rfl)))
  rw [hn2, if_neg hcap2]
  refine TR.ch0 rfl rfl (Wd.plain rfl) (EvC.clear1 rfl rfl rfl (by decide) (by rw [hsz2]; omega) (Upd.castC hcs3.symm Upd.head)) ?_
  rintro ⟨⟩
  repeat' (first | refine TC.seq ?_ | refine TC.region ?_ | refine TR.nil ?_ | refine Post.then_normal ?_ | refine TC.ret ?_ | (apply TR.st1; exact rfl; exact rfl; exact rfl; (first | exact Wd.plain rfl | exact Wd.on rfl rfl rfl); (first | exact EvS.move rfl | exact EvS.assign rfl)))
  refine Post.body_ret _ (ResL.one rfl (ResV.tmp rfl)) ?_
  have hco : cs3 = (vals (l.eraseIdx i) ++ (Value.int .i64 0 :: junk)).toArray := by
    rw [hcs3, hcs2, hcs, vals_erase]
    unfold spl
    apply Array.ext'
    simp only [List.toList_toArray, Nat.mul_one, Nat.zero_add, List.replicate_one, List.length_cons, List.length_nil, List.length_drop, hvl]
    have e1 : List.take i (vals l ++ junk) = (vals l).take i := by rw [List.take_append_of_le_length (by omega)]
    have e2 : List.drop (i + (l.length - (i + 1))) (vals l ++ junk) = (vals l).drop (l.length - 1) ++ junk := by rw [hn1, List.drop_append_of_le_length (by omega)]
    rw [e1, e2]
    have e3 : ((vals l).take i ++ (vals l).drop (i + 1)).length = l.length - 1 := by simp [hvl]; omega
    rw [List.take_append_of_le_length (by rw [e3]; omega), List.take_of_length_le (by rw [e3]; omega)]
    have e4 : ((vals l).drop (l.length - 1)).length = 1 := by simp [hvl]; omega
    rw [List.append_assoc, List.append_assoc]
    rw [List.append_assoc, show List.drop (l.length - 1 + 1) ((vals l).take i ++ ((vals l).drop (i + 1) ++ ((vals l).drop (l.length - 1) ++ junk))) = junk by
      rw [← List.append_assoc, ← List.append_assoc]
      exact List.drop_left' (by simp [hvl]; omega)]
    simp
  refine fun w h => ⟨⟨(.slice (some ⟨g, 0, none⟩) (l.length - 1) cap, some (g, .cells cs3 3)), .inr ⟨g, cap, Value.int .i64 0 :: junk, rfl, by omega, hc2, ?_, ?_, by rw [hco]⟩⟩, rfl, h⟩
  · rw [vals_erase]; simp [hvl]; omega
  · rw [vals_erase]; simp [hvl]; simp at hbl; omega
end Go.Proofs.YtgpgjpcebajofaaGreatDoor
set_option maxHeartbeats 4000000
set_option linter.unusedVariables false
set_option linter.unusedSimpArgs false
set_option maxRecDepth 100000
namespace Go.Proofs.YtgpgjpcebajofaaGreatDoor
open Go Go.XC Go.RowKit Go.SetsP
attribute [local irreducible] Post TC TR D WL EvS EvC Wd ResL Code.wpIn Exit.then Exit.inBlock Exit.noGoto LoopK LoopP bodyPostM Reads Calls

/-! ### A block of the call's own, lent to a call that leaves it -/
def memO (m : Mem) : Option (Nat × Obj) → Mem
  | some (g, o) => m.put g o
  | none => m
theorem lend {m : Mem} {e : Option (Nat × Obj)} {L : Own} {w : World} (h : St m (e :: L) w) : m.Le (memO m e) ∧ St (memO m e) L w := by
  cases e with
  | none => exact ⟨Mem.Le.refl m, h.tail⟩
  | some p =>
    obtain ⟨g, o⟩ := p
    obtain ⟨h1, h2⟩ := h.freeze Rep1.head
    exact ⟨h1, h2.tail⟩
theorem thaw {m : Mem} {e : Option (Nat × Obj)} {K : Own} {w : World} (hm : ∀ g o, e = some (g, o) → m.blk g = none) (h : St (memO m e) K w) : St m (e :: K) w := by
  cases e with
  | none => exact h.addNone
  | some p =>
    obtain ⟨g, o⟩ := p
    have h0 := hm g o rfl
    have hle := Mem.le_put (m := m) o h0
    have hw := St.weaken h hle
    refine ⟨hw.os, hw.tape, hw.output, hw.size, hw.blk, fun k u hx => ?_, ?_⟩
    · rcases List.mem_cons.1 hx with hx | hx
      · cases hx
        exact ⟨h.blk g o (Mem.put_same m g o), h0⟩
      · exact hw.own k u hx
    · refine List.nodup_cons.2 ⟨fun hk => ?_, h.nodup⟩
      obtain ⟨u, hu⟩ := mem_keys.1 hk
      have := (h.own g u hu).2
      rw [show (memO m (some (g, o))).blk g = some o from Mem.put_same m g o] at this
      cases this
theorem memO_le {m : Mem} {e : Option (Nat × Obj)} (h : ∀ g o, e = some (g, o) → m.blk g = none) : m.Le (memO m e) := by
  cases e with
  | none => exact Mem.Le.refl m
  | some p => exact Mem.le_put _ (h p.1 p.2 rfl)
theorem ownRow_ex {T : TypeId} {sz n : Nat} {xs : List Value} (h : xs.length = n * sz) (hn : n ≤ maxLen) : Nonempty { p : Value × Option (Nat × Obj) // OwnRow p.1 T sz n xs p.2 } :=
  ⟨⟨(.slice (some ⟨0, 0, none⟩) n n, some (0, .cells xs.toArray T)), by have := OwnRow.lit (g := 0) (T := T) (cs := xs.toArray) (by simpa using h) hn; simpa using this⟩⟩
theorem stOut {m : Mem} {e : Option (Nat × Obj)} {L : Own} {w : World} (h : St m (e :: L) w) : ∀ g o, e = some (g, o) → m.blk g = none := by
  rintro g o rfl
  exact (h.own g o List.mem_cons_self).2
theorem borrowV {P : Program} {f : FuncId} {args : Array Value} {m : Mem} {e : Option (Nat × Obj)} {L : Own} {w : World} {v : Value} (hs : St m (e :: L) w)
    (h : St (memO m e) L w → Calls P f args w fun r w' => r = .returned v ∧ St (memO m e) L w') : Calls P f args w fun r w' => r = .returned v ∧ St m (e :: L) w' :=
  (h (lend hs).2).mono fun r w' ⟨h1, h2⟩ => ⟨h1, thaw (stOut hs) h2⟩
theorem borrowX {P : Program} {f : FuncId} {args : Array Value} {m : Mem} {e : Option (Nat × Obj)} {L : Own} {w : World} {X : Type} {val : X → Value} {K : X → Own} (hs : St m (e :: L) w)
    (h : St (memO m e) L w → Calls P f args w fun r w' => ∃ x, r = .returned (val x) ∧ St (memO m e) (K x) w') : Calls P f args w fun r w' => ∃ x, r = .returned (val x) ∧ St m (e :: K x) w' :=
  (h (lend hs).2).mono fun r w' ⟨x, h1, h2⟩ => ⟨x, h1, thaw (stOut hs) h2⟩
theorem thawAt {m : Mem} {e : Option (Nat × Obj)} {L L' : Own} {w : World} (hr : Rep1 L e none L') (hm : ∀ g o, e = some (g, o) → m.blk g = none) (K : Own) (h : St (memO m e) (K ++ L') w) : St m (K ++ L) w := by
  obtain ⟨R, h1, h2⟩ := hr.perm
  have h3 : St (memO m e) (K ++ R) w := (h.perm ((List.Perm.append_left K h2).trans List.perm_middle)).tail
  exact (thaw hm h3).perm ((List.perm_middle (l₁ := K)).symm.trans (List.Perm.append_left K h1.symm))
theorem lendAt {m : Mem} {e : Option (Nat × Obj)} {L L' : Own} {w : World} (hr : Rep1 L e none L') (h : St m L w) : (∀ g o, e = some (g, o) → m.blk g = none) ∧ St (memO m e) L' w := by
  obtain ⟨R, h1, h2⟩ := hr.perm
  have h3 := h.perm h1
  exact ⟨stOut h3, ((lend h3).2.addNone).perm h2.symm⟩
theorem borrowAtV {P : Program} {f : FuncId} {args : Array Value} {m : Mem} {e : Option (Nat × Obj)} {L L' : Own} {w : World} {v : Value} (hr : Rep1 L e none L') (hs : St m L w)
    (h : St (memO m e) L' w → Calls P f args w fun r w' => r = .returned v ∧ St (memO m e) L' w') : Calls P f args w fun r w' => r = .returned v ∧ St m L w' :=
  (h (lendAt hr hs).2).mono fun r w' ⟨h1, h2⟩ => ⟨h1, thawAt hr (lendAt hr hs).1 [] h2⟩
theorem borrowAt1 {P : Program} {f : FuncId} {args : Array Value} {m : Mem} {e : Option (Nat × Obj)} {L L' : Own} {w : World} {X : Type} {val : X → Value} {K : X → Option (Nat × Obj)} (hr : Rep1 L e none L') (hs : St m L w)
    (h : St (memO m e) L' w → Calls P f args w fun r w' => ∃ x, r = .returned (val x) ∧ St (memO m e) (K x :: L') w') : Calls P f args w fun r w' => ∃ x, r = .returned (val x) ∧ St m (K x :: L) w' :=
  (h (lendAt hr hs).2).mono fun r w' ⟨x, h1, h2⟩ => ⟨x, h1, thawAt hr (lendAt hr hs).1 [K x] h2⟩
/-- An own row, lent, is a slice. -/
theorem OwnRow.lent {m : Mem} {v : Value} {T : TypeId} {sz n : Nat} {css : List (List Value)} {e : Option (Nat × Obj)} (h : OwnRow v T sz n css.flatten e) (hl : ∀ cs, cs ∈ css → cs.length = sz) (hn : css.length = n)
    (hbig : n ≤ 140737488355328) : ∃ A c, v = .slice A n c ∧ n ≤ c ∧ Sl (memO m e) sz A css := by
  rcases h with ⟨rfl, h1, h2, rfl⟩ | ⟨g, cap, junk, rfl, h2, h3, h4, h5, rfl⟩
  · subst h1
    have hc : css = [] := List.eq_nil_of_length_eq_zero hn
    subst hc
    exact ⟨none, 0, rfl, Nat.le_refl _, Sl.nil⟩
  · refine ⟨some ⟨g, 0, none⟩, cap, rfl, h2, hl, by omega, fun _ => ⟨g, 0, _, T, (0, 0), rfl, Mem.put_same _ _ _, fun i cs hi j u hj => ?_⟩⟩
    have := flatten_at css i cs hl hi j u hj
    have hlt := (List.getElem?_eq_some_iff.1 this).1
    rw [Nat.zero_add]
    simp only [List.getElem?_toArray]
    rw [List.getElem?_append_left hlt]; exact this

/-! ### Facts -/
structure Fc where
  v : Int
  e : Nat
  i : Bool
  n : Nat
  why : List Nat
  deriving DecidableEq, Inhabited
def zs (l : List Nat) : List Int := l.map fun (k : Nat) => (k : Int)
theorem zs_length (l : List Nat) : (zs l).length = l.length := by simp [zs]
def FcC (m : Mem) (f : Fc) (cs : List Value) : Prop := ∃ W c, cs = [.int .i64 f.v, .int .i64 (f.e : Int), .bool f.i, .int .i64 (f.n : Int), .slice W f.why.length c] ∧ Sl m 1 W (ints (zs f.why))
theorem FcC.mono {m m' : Mem} {f : Fc} {cs : List Value} (h : FcC m f cs) (hm : m.Le m') : FcC m' f cs := let ⟨W, c, h1, h2⟩ := h; ⟨W, c, h1, h2.mono hm⟩
def FcL (m : Mem) (fs : List Fc) (css : List (List Value)) : Prop := css.length = fs.length ∧ ∀ (k : Nat) (f : Fc) (cs : List Value), fs[k]? = some f → css[k]? = some cs → FcC m f cs
theorem FcL.mono {m m' : Mem} {fs : List Fc} {css : List (List Value)} (h : FcL m fs css) (hm : m.Le m') : FcL m' fs css := ⟨h.1, fun k f cs a b => (h.2 k f cs a b).mono hm⟩
theorem FcL.len {m : Mem} {fs : List Fc} {css : List (List Value)} (h : FcL m fs css) : ∀ cs, cs ∈ css → cs.length = 5 := by
  intro cs hc
  obtain ⟨k, hk, rfl⟩ := List.mem_iff_getElem.1 hc
  obtain ⟨W, c, e, _⟩ := h.2 k _ _ (List.getElem?_eq_getElem (by rw [← h.1]; exact hk)) (List.getElem?_eq_getElem hk)
  rw [e]; rfl
def FcS (m : Mem) (A : Option Addr) (fs : List Fc) : Prop := ∃ css, Sl m 5 A css ∧ FcL m fs css
theorem FcS.mono {m m' : Mem} {A : Option Addr} {fs : List Fc} (h : FcS m A fs) (hm : m.Le m') : FcS m' A fs := let ⟨css, h1, h2⟩ := h; ⟨css, h1.mono hm, h2.mono hm⟩
theorem FcS.get {m : Mem} {A : Option Addr} {fs : List Fc} (h : FcS m A fs) {k : Nat} {f : Fc} (hk : fs[k]? = some f) :
    ∃ g o blk T fr W c, A = some ⟨g, o, none⟩ ∧ m.blk g = some (.cells blk T fr) ∧ CellsAt blk (o + (k : Int).toNat * 5) #[.int .i64 f.v, .int .i64 (f.e : Int), .bool f.i, .int .i64 (f.n : Int), .slice W f.why.length c] ∧ Sl m 1 W (ints (zs f.why)) := by
  obtain ⟨css, h1, h2, h3⟩ := h
  have hlt : k < fs.length := (List.getElem?_eq_some_iff.1 hk).1
  have hcs : css[k]? = some css[k] := List.getElem?_eq_getElem (by omega)
  obtain ⟨B, c, e, hB⟩ := h3 k f _ hk hcs
  obtain ⟨g, o, blk, T, fr, g1, g2, g3⟩ := h1.get hcs
  rw [e] at g3
  exact ⟨g, o, blk, T, fr, B, c, g1, g2, g3, hB⟩
theorem FcS.big {m : Mem} {A : Option Addr} {fs : List Fc} (h : FcS m A fs) : fs.length ≤ 140737488355328 := by
  obtain ⟨css, h1, h2, _⟩ := h
  rw [← h2]; exact h1.big
def okF (f : Fc) : Prop := (0 ≤ f.v ∧ f.v < 8) ∧ f.e < 12
/-- Bounds with facts. -/
def addF (b : List Bd) (f : Fc) : List Bd := withB b f.v f.e f.i
def addFs (fs : List Fc) (b : List Bd) (why : List Nat) : List Bd := why.foldl (fun b k => addF b (fs.getD k default)) b
def explB (p : Pb) (fs : List Fc) (f : Fc) : Bool := let b := addFs fs (pad8 p.bounds) f.why; b.any clashB || folB b (p.rules.getD f.n default) f.v f.e f.i
theorem addF_ok {b : List Bd} (h : okB b) {f : Fc} (hf : okF f) : okB (addF b f) := okB_with h hf.1 hf.2 f.i
structure okP (p : Pb) : Prop where
  b1 : 1 ≤ p.bounds.length
  b8 : p.bounds.length ≤ 8
  r12 : p.rules.length ≤ 12
  bd : ∀ x, x ∈ p.bounds → small x.lo ∧ small x.can
  rl : ∀ r, r ∈ p.rules → okR r
theorem okP.b {p : Pb} (h : okP p) : okB (pad8 p.bounds) := pad8_ok h.b8 h.bd
theorem okP_of {p : Pb} (h : checkB p = true) : okP p := by
  obtain ⟨h1, h2, h3, h4⟩ := checkB_ok h
  exact ⟨h1.1, h1.2, h2, fun x hx => small_lo (h3 x hx), fun r hr => okR_of (h4 r hr) h1.2⟩

theorem explained_c (p : Pb) (pcs : Array Value) (hp : okP p) (fs : List Fc) (A : Option Addr) (c : Nat) (f : Fc) (W : Option Addr) (kw : Nat) (hfs : ∀ x, x ∈ fs → okF x) (hf : okF f) (hn : f.n < p.rules.length) (hw : ∀ k, k ∈ f.why → k < fs.length)
    (m : Mem) (hT : TabM m) (hpc : PbC m p pcs) (hA : FcS m A fs) (hW : Sl m 1 W (ints (zs f.why))) (L : Own) (w : World) (hs : St m L w) :
    Calls Tryz.prog 116 #[.agg pcs, .slice A fs.length c, .agg (fcC f.v (f.e : Int) f.i (f.n : Int) W f.why.length kw)] w fun x w' => x = .returned (.bool (explB p fs f)) ∧ St m L w' := by
  have hpc0 := hpc
  obtain ⟨BA, bc, RA, rc, rfl, hBA, hRA⟩ := hpc
  have hb0 := hp.b
  have hwl : f.why.length ≤ 140737488355328 := by have := hW.big; simpa [ints, zs] using this
  have hfl := hA.big
  unfold fcC
  refine calls_of_TC (args := [_, _, _]) Tryz.func116 rfl Tryz.ntmps116 (Nat.le_of_ble_eq_true rfl) hs ?_
  have hsz : (bArr (p.bounds ++ List.replicate (8 - p.bounds.length) ⟨0, 0⟩)).size = 16 := by rw [bArr_size]; exact congrArg (· * 2) hb0.1
  repeat' (first | (apply TR.ch1 (o := ⟨_, .call _, _, _, _, _⟩); exact rfl; exact rfl; exact rfl; (first | exact Wd.plain rfl | exact Wd.on rfl rfl rfl); exact EvC.callV rfl rfl (fun w hs => boundsOf_c p _ hp.b8 _ hpc0 _ _ hs); rintro ⟨⟩) | refine TC.seq ?_ | refine TC.region ?_ | refine TR.nil ?_ | refine Post.then_normal ?_ | refine TC.block ?_ | (apply TR.st1; exact rfl; exact rfl; exact rfl; (first | exact Wd.plain rfl | exact Wd.on rfl rfl rfl); (first | exact EvS.move rfl | exact EvS.assign rfl | exact EvS.fieldAddr rfl | (first | (apply EvS.load1; exact rfl; (first | exact Reads.mem (by assumption) | exact Reads.own (by repeat first | exact List.Mem.head _ | assumption | apply List.Mem.tail)); (first | assumption | exact nthL_arr rfl | exact rfl)) | (apply EvS.loadW; exact rfl; (first | exact Reads.mem (by assumption) | exact Reads.own (by repeat first | exact List.Mem.head _ | assumption | apply List.Mem.tail)); first | exact rfl | assumption) | (apply EvS.loadH; exact rfl; (first | exact Reads.mem (by assumption) | exact Reads.own (by repeat first | exact List.Mem.head _ | assumption | apply List.Mem.tail)); assumption; first | exact rfl | assumption)) | exact EvS.len rfl)) | (apply TR.ch1 (o := ⟨_, .box _ _, _, _, _, _⟩) ; exact rfl; exact rfl; exact rfl; (first | exact Wd.plain rfl | exact Wd.on rfl rfl rfl); exact EvC.boxA rfl; intro g) | (apply TR.ch1 (o := ⟨_, .alloc _, _, _, _, _⟩) ; exact rfl; exact rfl; exact rfl; (first | exact Wd.plain rfl | exact Wd.on rfl rfl rfl); exact EvC.alloc; intro g) | (apply TR.ch0 (o := ⟨_, .store _ _ _, _, _, _, _⟩) ; exact rfl; exact rfl; (first | exact Wd.plain rfl | exact Wd.on rfl rfl rfl); exact EvC.storeW rfl rfl (by first | exact rfl | assumption) (by first | exact bArr_one _ | exact rfl | (intro v hv; simp at hv; rcases hv with rfl | rfl | rfl | rfl | rfl | rfl | rfl | rfl <;> rfl)) (by repeat first | exact Upd.head | apply Upd.tail) (by first | exact rfl | assumption); rintro ⟨⟩))
  rename_i gp gf
  obtain ⟨gb, hgb⟩ : ∃ x, x = g := ⟨_, rfl⟩
  subst hgb
  have hok : ∀ k, okB (addFs fs (pad8 p.bounds) (f.why.take k)) := by
    have : ∀ (l : List Nat) b, okB b → (∀ k, k ∈ l → k < fs.length) → okB (addFs fs b l) := by
      intro l
      induction l with
      | nil => intro b hb _; exact hb
      | cons x l ih =>
        intro b hb hl
        have hx : x < fs.length := hl x List.mem_cons_self
        refine ih _ (addF_ok hb (hfs _ ?_)) (fun k hk => hl k (List.mem_cons_of_mem _ hk))
        rw [List.getD_eq_getElem?_getD, List.getElem?_eq_getElem hx]
        exact List.getElem_mem hx
    exact fun k => this _ _ hb0 fun x hx => hw x (List.mem_of_mem_take hx)
  refine TC.loopP (X := Nat) (fun k => k ≤ f.why.length) (fun k => [(15, .int .i64 (k : Int)), (14, .int .i64 (f.why.length : Int)), (13, .slice W f.why.length kw), (7, .pointer (some ⟨gb, 0, none⟩)), (5, .pointer (some ⟨gf, 0, none⟩)), (3, .pointer (some ⟨gp, 0, none⟩)), (1, .slice A fs.length c)])
    (fun k => St m (some (gb, .cells (bArr (addFs fs (pad8 p.bounds) (f.why.take k))) 89 (0, 0)) :: some (gf, .cells #[.int .i64 f.v, .int .i64 (f.e : Int), .bool f.i, .int .i64 (f.n : Int), .slice W f.why.length kw] 55 (0, 0)) :: some (gp, .cells #[.slice BA p.bounds.length bc, .slice RA p.rules.length rc] 25 (0, 0)) :: L))
    (fun k => f.why.length - k) 0 (by omega) (incl.lk (by repeat first | exact trivial | refine ⟨rfl, ?_⟩)) (fun w h => h) ?_
  intro i hi
  have hszi : (bArr (addFs fs (pad8 p.bounds) (f.why.take i))).size = 16 := by rw [bArr_size, (hok i).1]
  by_cases hlt : i < f.why.length
  · have hd : decide ((i : Int) < (f.why.length : Int)) = true := by simpa using hlt
    obtain ⟨k, hk⟩ : ∃ k, f.why[i]? = some k := ⟨_, List.getElem?_eq_getElem hlt⟩
    have hkl : k < fs.length := hw k (List.mem_of_getElem? hk)
    obtain ⟨x, hx⟩ : ∃ x, fs[k]? = some x := ⟨_, List.getElem?_eq_getElem hkl⟩
    have hxo : okF x := hfs x (List.mem_of_getElem? hx)
    obtain ⟨g1, o1, blk1, T1, fr1, hW1, hm1, hc1⟩ := hW.get1 (k := i) (v := .int .i64 (k : Int)) (by simp [ints, zs, hk])
    obtain ⟨g2, o2, blk2, T2, fr2, W2, c2, hA2, hm2, hc2, _⟩ := hA.get hx
    have hv0 : blk2[o2 + (k : Int).toNat * 5 + 0]? = some (.int .i64 x.v) := hc2 0 _ rfl
    have hv1 : blk2[o2 + (k : Int).toNat * 5 + 1]? = some (.int .i64 (x.e : Int)) := hc2 1 _ rfl
    have hv2 : blk2[o2 + (k : Int).toNat * 5 + 2]? = some (.bool x.i) := hc2 2 _ rfl
    have hnx : addFs fs (pad8 p.bounds) (f.why.take (i + 1)) = withB (addFs fs (pad8 p.bounds) (f.why.take i)) x.v ((x.e : Int)).toNat x.i := by
      rw [List.take_add_one, hk]
      unfold addFs
      rw [Option.toList_some, List.foldl_append]
      simp only [List.foldl_cons, List.foldl_nil, List.getD_eq_getElem?_getD, hx, Option.getD_some]
      rfl
    have hsz2 : (bArr (withB (addFs fs (pad8 p.bounds) (f.why.take i)) x.v ((x.e : Int)).toNat x.i)).size = 16 := by rw [← hnx, bArr_size, (hok _).1]
    have he := hxo.2
    repeat' (first | refine TC.seq ?_ | refine TC.region ?_ | refine TR.nil ?_ | refine Post.then_normal ?_ | refine TC.block ?_ | refine TC.skip ?_ | (apply TC.cond_bt; exact rfl; assumption) | (apply TR.st1; exact rfl; exact rfl; exact rfl; (first | exact Wd.plain rfl | exact Wd.on rfl rfl rfl); (first | exact EvS.assign rfl | (first | (apply EvS.load1; exact rfl; (first | exact Reads.mem (by assumption) | exact Reads.own (by repeat first | exact List.Mem.head _ | assumption | apply List.Mem.tail)); (first | assumption | exact nthL_arr rfl | exact rfl)) | (apply EvS.loadW; exact rfl; (first | exact Reads.mem (by assumption) | exact Reads.own (by repeat first | exact List.Mem.head _ | assumption | apply List.Mem.tail)); first | exact rfl | assumption) | (apply EvS.loadH; exact rfl; (first | exact Reads.mem (by assumption) | exact Reads.own (by repeat first | exact List.Mem.head _ | assumption | apply List.Mem.tail)); assumption; first | exact rfl | assumption)) | exact EvS.ltI rfl rfl | (first | exact EvS.indexAddr rfl rfl (by first | exact rfl | assumption) (by omega) | exact EvS.indexAddrA rfl rfl (by omega)))))
    refine TC.draw_ [.st, .st, .st, .st, .st, .st, .st, .st, .st, .st, .st, .st, .st, .st, .st, .st, .ch] mixed rfl (by kernel_rfl) ?_
    repeat' (first | (apply D.chx (o := ⟨_, .call _, _, _, _, _⟩); exact rfl; (first | exact Wd.plain rfl | exact Wd.on rfl rfl rfl); exact EvC.callV rfl rfl (fun w hs => with_c _ x.v (x.e : Int) x.i (hok i).1 hxo.1 (by omega) _ _ w hs); exact inferInstance; exact (by first | exact fun _ _ h => StX.of0 h | exact fun _ _ h => StX.of1 h | exact fun _ _ h => StX.of2 h | exact fun _ _ h => StX.of3 h | exact fun _ _ h => StX.of h); rintro ⟨⟩) | (apply D.st1; exact rfl; (first | exact Wd.plain rfl | exact Wd.on rfl rfl rfl); (first | exact EvS.move rfl | exact EvS.fieldAddr rfl | (first | (apply EvS.load1; exact rfl; (first | exact Reads.memX (by assumption) | exact Reads.ownX (by repeat first | exact List.Mem.head _ | assumption | apply List.Mem.tail)); (first | assumption | exact nthL_arr rfl | exact rfl)) | (apply EvS.loadW; exact rfl; (first | exact Reads.memX (by assumption) | exact Reads.ownX (by repeat first | exact List.Mem.head _ | assumption | apply List.Mem.tail)); first | exact rfl | assumption) | (apply EvS.loadH; exact rfl; (first | exact Reads.memX (by assumption) | exact Reads.ownX (by repeat first | exact List.Mem.head _ | assumption | apply List.Mem.tail)); assumption; first | exact rfl | assumption)) | (first | exact EvS.indexAddr rfl rfl (by first | exact rfl | assumption) (by omega) | exact EvS.indexAddrA rfl rfl (by omega)))) | refine D.tail_ ?_)
    repeat' (first | refine TC.region ?_ | refine TR.nil ?_ | refine Post.then_normal ?_ | refine Post.block_normal ?_ | (apply TR.st1; exact rfl; exact rfl; exact rfl; (first | exact Wd.plain rfl | exact Wd.on rfl rfl rfl); (first | exact EvS.move rfl | (first | exact EvS.addI rfl rfl (by omega) | exact EvS.add64 rfl rfl (by first | with_reducible exact U64.var _ | exact U64.lit rfl) (by first | with_reducible exact U64.var _ | exact U64.lit rfl)))) | (apply TR.ch0 (o := ⟨_, .store _ _ _, _, _, _, _⟩) ; exact rfl; exact rfl; (first | exact Wd.plain rfl | exact Wd.on rfl rfl rfl); exact EvC.storeW rfl rfl (by first | exact rfl | assumption) (by first | exact bArr_one _ | exact rfl | (intro v hv; simp at hv; rcases hv with rfl | rfl | rfl | rfl | rfl | rfl | rfl | rfl <;> rfl)) (by repeat first | exact Upd.head | apply Upd.tail) (by first | exact rfl | assumption); rintro ⟨⟩))
    rw [← hnx]
    skip
    exact Post.nextP (i + 1) (by omega) (incl.lk (by repeat first | exact trivial | refine ⟨rfl, ?_⟩)) (fun w h => h) (by omega)
  · have hd : decide ((i : Int) < (f.why.length : Int)) = false := by simpa using hlt
    have hil : i = f.why.length := by omega
    subst hil
    rw [List.take_length]
    repeat' (first | refine TC.seq ?_ | refine TC.region ?_ | refine TR.nil ?_ | refine Post.then_normal ?_ | refine TC.exit ?_ | (apply TC.cond_bf; exact rfl; assumption) | refine Post.then_exit ?_ | refine Post.block_here ?_ | (apply TR.st1 (o := ⟨_, .binOp .lss _ _ _ _, _, _, _, _⟩); exact rfl; exact rfl; exact rfl; (first | exact Wd.plain rfl | exact Wd.on rfl rfl rfl); exact EvS.ltI rfl rfl))
    have hokw : okB (addFs fs (pad8 p.bounds) f.why) := by have := hok f.why.length; rwa [List.take_length] at this
    have hszw : (bArr (addFs fs (pad8 p.bounds) f.why)).size = 16 := by rw [bArr_size, hokw.1]
    obtain ⟨b, hb⟩ : ∃ b, b = addFs fs (pad8 p.bounds) f.why := ⟨_, rfl⟩
    rw [← hb] at hokw hszw ⊢
    have hSl : Sl (memO m (some (gb, .cells (bArr b) 89))) 2 (some ⟨gb, 0, none⟩) (bds b) :=
      ⟨bds_len b, by rw [bds_length, hokw.1]; decide, fun _ => ⟨gb, 0, _, _, (0, 0), rfl, Mem.put_same _ _ _, fun i cs hi j u hj => by
        have := flatten_at (bds b) i cs (bds_len b) hi j u hj
        rw [bds_flatten] at this
        rw [Nat.zero_add]
        simpa [bArr] using this⟩⟩
    obtain ⟨r, hr⟩ : ∃ r, p.rules[f.n]? = some r := ⟨_, List.getElem?_eq_getElem hn⟩
    obtain ⟨g3, o3, blk3, T3, fr3, B3, c3, hR1, hR2, hR3, hR4, hR5⟩ := hRA.get hr
    have hex : explB p fs f = (b.any clashB || folB b r f.v f.e f.i) := by
      unfold explB
      simp only [← hb, List.getD_eq_getElem?_getD, hr, Option.getD_some]
    have hcl : ∀ w, St m (some (gb, .cells (bArr b) 89) :: some (gf, .cells #[.int .i64 f.v, .int .i64 (f.e : Int), .bool f.i, .int .i64 (f.n : Int), .slice W f.why.length kw] 55 (0, 0)) :: some (gp, .cells #[.slice BA p.bounds.length bc, .slice RA p.rules.length rc] 25 (0, 0)) :: L) w →
        Calls Tryz.prog 89 #[.slice (some ⟨gb, 0, none⟩) 8 8] w fun r w' => r = .returned (.bool (b.any clashB)) ∧ St m (some (gb, .cells (bArr b) 89) :: some (gf, .cells #[.int .i64 f.v, .int .i64 (f.e : Int), .bool f.i, .int .i64 (f.n : Int), .slice W f.why.length kw] 55 (0, 0)) :: some (gp, .cells #[.slice BA p.bounds.length bc, .slice RA p.rules.length rc] 25 (0, 0)) :: L) w' :=
      fun w hs => borrowV hs fun hs => by have := clash_c (some ⟨gb, 0, none⟩) 8 b _ _ w hs hSl; rwa [hokw.1] at this
    by_cases hq : b.any clashB = true
    · refine TC.draw_ [.st, .ch, .st, .sk, .sk, .sk, .sk, .sk, .sk, .sk, .sk, .sk, .st] mixed rfl (by kernel_rfl) ?_
      repeat' (first | rw [hq] | (apply D.chx (o := ⟨_, .call _, _, _, _, _⟩); exact rfl; (first | exact Wd.plain rfl | exact Wd.on rfl rfl rfl); exact EvC.callV rfl rfl (fun w hs => hcl w hs); exact inferInstance; exact (by first | exact fun _ _ h => StX.of0 h | exact fun _ _ h => StX.of1 h | exact fun _ _ h => StX.of2 h | exact fun _ _ h => StX.of3 h | exact fun _ _ h => StX.of h); rintro ⟨⟩) | (apply D.sk1; exact rfl; (first | exact Wd.off rfl rfl rfl rfl | exact Wd.offU rfl rfl rfl)) | (apply D.st1; exact rfl; (first | exact Wd.plain rfl | exact Wd.on rfl rfl rfl); (first | exact EvS.move rfl | (first | exact EvS.pick_t rfl rfl | exact EvS.pick_f rfl rfl) | exact EvS.sliceA rfl)) | refine D.tail_ ?_)
      repeat' (first | refine TR.nil ?_ | refine Post.then_normal ?_ | refine TC.ret ?_ | (apply TR.st1 (o := ⟨_, .assign _, _, _, _, _⟩); exact rfl; exact rfl; exact rfl; (first | exact Wd.plain rfl | exact Wd.on rfl rfl rfl); exact EvS.assign rfl))
      (refine Post.body_ret _ (ResL.one rfl (ResV.tmp rfl)) ?_; intro wR hR; exact ⟨by rw [hex, hq]; rfl, (by first | exact hR | exact hR.tail | exact hR.tail.tail | exact hR.tail.tail.tail | exact hR.tail.tail.tail.tail | exact hR.tail.tail.tail.tail.tail | exact hR.tail.tail.tail.tail.tail.tail)⟩)
    · rw [Bool.not_eq_true] at hq
      have hfo := fun (w : World) (m : Mem) (hT : TabM m) (hB : Sl m 1 B3 (ints r.vars)) (L : Own) (hs : St m L w) => follows_c b r B3 c3 f.v f.e f.i (f.n : Int) W f.why.length kw hokw (hp.rl r (List.mem_of_getElem? hr)) hf.1 hf.2 m hT hB L w hs
      unfold rlV fcC at hfo
      refine TC.draw_ [.st, .ch, .st, .st, .st, .st, .st, .st, .st, .st, .st, .ch, .st] mixed rfl (by kernel_rfl) ?_
      repeat' (first | rw [hq] | (apply D.chx (o := ⟨_, .call _, _, _, _, _⟩); exact rfl; (first | exact Wd.plain rfl | exact Wd.on rfl rfl rfl); exact EvC.callV rfl rfl (fun w hs => hcl w hs); exact inferInstance; exact (by first | exact fun _ _ h => StX.of0 h | exact fun _ _ h => StX.of1 h | exact fun _ _ h => StX.of2 h | exact fun _ _ h => StX.of3 h | exact fun _ _ h => StX.of h); rintro ⟨⟩) | (apply D.chx (o := ⟨_, .call _, _, _, _, _⟩); exact rfl; (first | exact Wd.plain rfl | exact Wd.on rfl rfl rfl); exact EvC.callV rfl rfl (fun w hs => hfo _ _ hT hR4 _ hs); exact inferInstance; exact (by first | exact fun _ _ h => StX.of0 h | exact fun _ _ h => StX.of1 h | exact fun _ _ h => StX.of2 h | exact fun _ _ h => StX.of3 h | exact fun _ _ h => StX.of h); rintro ⟨⟩) | (apply D.st1; exact rfl; (first | exact Wd.plain rfl | exact Wd.on rfl rfl rfl); (first | exact EvS.move rfl | exact EvS.fieldAddr rfl | (first | (apply EvS.load1; exact rfl; (first | exact Reads.memX (by assumption) | exact Reads.ownX (by repeat first | exact List.Mem.head _ | assumption | apply List.Mem.tail)); (first | assumption | exact nthL_arr rfl | exact rfl)) | (apply EvS.loadW; exact rfl; (first | exact Reads.memX (by assumption) | exact Reads.ownX (by repeat first | exact List.Mem.head _ | assumption | apply List.Mem.tail)); first | exact rfl | assumption) | (apply EvS.loadH; exact rfl; (first | exact Reads.memX (by assumption) | exact Reads.ownX (by repeat first | exact List.Mem.head _ | assumption | apply List.Mem.tail)); assumption; first | exact rfl | assumption)) | (first | exact EvS.pick_t rfl rfl | exact EvS.pick_f rfl rfl) | (first | exact EvS.indexAddr rfl rfl (by first | exact rfl | assumption) (by omega) | exact EvS.indexAddrA rfl rfl (by omega)) | exact EvS.sliceA rfl)) | refine D.tail_ ?_)
      repeat' (first | refine TR.nil ?_ | refine Post.then_normal ?_ | refine TC.ret ?_ | (apply TR.st1 (o := ⟨_, .assign _, _, _, _, _⟩); exact rfl; exact rfl; exact rfl; (first | exact Wd.plain rfl | exact Wd.on rfl rfl rfl); exact EvS.assign rfl))
      (refine Post.body_ret _ (ResL.one rfl (ResV.tmp rfl)) ?_; intro wR hR; exact ⟨by rw [hex, hq]; rfl, (by first | exact hR | exact hR.tail | exact hR.tail.tail | exact hR.tail.tail.tail | exact hR.tail.tail.tail.tail | exact hR.tail.tail.tail.tail.tail | exact hR.tail.tail.tail.tail.tail.tail)⟩)
end Go.Proofs.YtgpgjpcebajofaaGreatDoor
set_option maxHeartbeats 4000000
set_option linter.unusedVariables false
set_option linter.unusedSimpArgs false
set_option maxRecDepth 100000
namespace Go.Proofs.YtgpgjpcebajofaaGreatDoor
open Go Go.XC Go.RowKit Go.SetsP
attribute [local irreducible] Post TC TR D WL EvS EvC Wd ResL Code.wpIn Exit.then Exit.inBlock Exit.noGoto LoopK LoopP bodyPostM Reads Calls

def relB (p : Pb) (fs : List Fc) (f : Fc) (k : Nat) : List Nat := (List.range k).filter fun k => (p.rules.getD f.n default).vars.contains (fs.getD k default).v
def trimB (p : Pb) (fs : List Fc) (f : Fc) (w : List Nat) (i : Nat) : List Nat := if explB p fs { f with why := w.eraseIdx i } then w.eraseIdx i else w
def whyB (p : Pb) (fs : List Fc) (f : Fc) : List Nat := (List.range (relB p fs f fs.length).length).reverse.foldl (trimB p fs f) (relB p fs f fs.length)
theorem vals_zs_len (l : List Nat) : (vals (zs l)).length = l.length := by simp [vals, zs]
theorem vals_zs_append (l k : List Nat) : vals (zs (l ++ k)) = vals (zs l) ++ vals (zs k) := by simp [vals, zs]
theorem zs_erase (l : List Nat) (i : Nat) : zs (l.eraseIdx i) = (zs l).eraseIdx i := by
  unfold zs
  rw [List.eraseIdx_eq_take_drop_succ, List.eraseIdx_eq_take_drop_succ, List.map_append, List.map_take, List.map_drop]
theorem ownRow_one {v : Value} {T : TypeId} {sz n : Nat} {xs : List Value} {e : Option (Nat × Obj)} (h : OwnRow v T sz n xs e) : v.oneCell' = true := by
  rcases h with ⟨rfl, _⟩ | ⟨g, cap, junk, rfl, _⟩ <;> rfl

theorem ownRow_slice {v : Value} {T : TypeId} {sz n : Nat} {xs : List Value} {e : Option (Nat × Obj)} (h : OwnRow v T sz n xs e) : ∃ A c, v = .slice A n c ∧ n ≤ c := by
  rcases h with ⟨rfl, rfl, _⟩ | ⟨g, cap, junk, rfl, h, _⟩
  · exact ⟨none, 0, rfl, Nat.le_refl _⟩
  · exact ⟨_, _, rfl, h⟩
theorem vals_flat (l : List Nat) : vals (zs l) = (ints (zs l)).flatten := (vals_ints _).symm

structure Wy where
  k : Nat
  l : List Nat
  v : Value
  e : Option (Nat × Obj)

theorem why_c (p : Pb) (pcs : Array Value) (hp : okP p) (fs : List Fc) (A : Option Addr) (c : Nat) (f : Fc) (gx : Nat) (xcs : Array Value) (TX : TypeId) (hfs : ∀ x, x ∈ fs → okF x) (hf : okF f) (hn : f.n < p.rules.length) (hfl : fs.length ≤ 1000)
    (m : Mem) (hT : TabM m) (hpc : PbC m p pcs) (hA : FcS m A fs) (hx0 : CellsAt xcs (0 + 0) pcs) (hx18 : xcs[0 + 18]? = some (.slice A fs.length c)) (L : Own) (hg : some (gx, .cells xcs TX (0, 0)) ∈ L) (w : World) (hs : St m L w) :
    Calls Tryz.prog 113 #[.pointer (some ⟨gx, 0, none⟩), .agg (fcC f.v (f.e : Int) f.i (f.n : Int) none 0 0)] w fun r w' =>
      ∃ q : { q : Value × Option (Nat × Obj) // OwnRow q.1 3 1 (whyB p fs f).length (vals (zs (whyB p fs f))) q.2 }, r = .returned q.1.1 ∧ St m (q.1.2 :: L) w' := by
  have hpc0 := hpc
  obtain ⟨BA, bc, RA, rc, rfl, hBA, hRA⟩ := hpc
  obtain ⟨r, hr⟩ : ∃ r, p.rules[f.n]? = some r := ⟨_, List.getElem?_eq_getElem hn⟩
  have hrD : p.rules.getD f.n default = r := by rw [List.getD_eq_getElem?_getD, hr]; rfl
  obtain ⟨g3, o3, blk3, T3, fr3, B3, c3, hR1, hR2, hR3, hR4, hR5⟩ := hRA.get hr
  have hrv : blk3[o3 + (f.n : Int).toNat * 4 + 1]? = some (.slice B3 r.vars.length c3) := hR3 1 _ rfl
  have hxr : xcs[0 + 0 + 1]? = some (.slice RA p.rules.length rc) := hx0 1 _ rfl
  unfold fcC
  refine calls_of_TC (args := [_, _]) Tryz.func113 rfl Tryz.ntmps113 (Nat.le_of_ble_eq_true rfl) hs ?_
  repeat' (first | refine TC.seq ?_ | refine TC.region ?_ | refine TR.nil ?_ | refine Post.then_normal ?_ | refine TC.block ?_ | (apply TR.st1; exact rfl; exact rfl; exact rfl; (first | exact Wd.plain rfl | exact Wd.on rfl rfl rfl); (first | exact EvS.move rfl | exact EvS.assign rfl | exact EvS.fieldAddr rfl | (first | (apply EvS.load1; exact rfl; (first | exact Reads.mem (by assumption) | exact Reads.own (by repeat first | exact List.Mem.head _ | assumption | apply List.Mem.tail)); (first | assumption | exact nthL_arr rfl | exact rfl)) | (apply EvS.loadW; exact rfl; (first | exact Reads.mem (by assumption) | exact Reads.own (by repeat first | exact List.Mem.head _ | assumption | apply List.Mem.tail)); first | exact rfl | assumption) | (apply EvS.loadH; exact rfl; (first | exact Reads.mem (by assumption) | exact Reads.own (by repeat first | exact List.Mem.head _ | assumption | apply List.Mem.tail)); assumption; first | exact rfl | assumption)) | exact EvS.len rfl | exact EvS.nilCheck rfl)) | (apply TR.ch1 (o := ⟨_, .box _ _, _, _, _, _⟩) ; exact rfl; exact rfl; exact rfl; (first | exact Wd.plain rfl | exact Wd.on rfl rfl rfl); exact EvC.boxA rfl; intro g))
  obtain ⟨gf, hgf⟩ : ∃ x, x = g := ⟨_, rfl⟩
  subst hgf
  refine TC.turn (fun w h => h.addNone) ?_
  refine TC.loopP (X := Wy) (fun x => x.k ≤ fs.length ∧ x.l = relB p fs f x.k ∧ OwnRow x.v 3 1 x.l.length (vals (zs x.l)) x.e)
    (fun x => [(14, .int .i64 (x.k : Int)), (13, .int .i64 (fs.length : Int)), (12, .slice A fs.length c), (3, .pointer (some ⟨gf, 0, none⟩)), (0, .pointer (some ⟨gx, 0, none⟩))])
    (fun x => St m (x.e :: some (gf, .cells #[.int .i64 f.v, .int .i64 (f.e : Int), .bool f.i, .int .i64 (f.n : Int), x.v] 55 (0, 0)) :: L)) (fun x => fs.length - x.k) ⟨0, [], .slice none 0 0, none⟩ ⟨Nat.zero_le _, rfl, OwnRow.nil⟩ (incl.lk (by repeat first | exact trivial | refine ⟨rfl, ?_⟩)) (fun w h => h) ?_
  rintro ⟨k, l, v, e⟩ ⟨hk, hl, hrow⟩
  simp only at hk hl hrow ⊢
  have hll : l.length ≤ k := by rw [hl]; unfold relB; exact Nat.le_trans (List.length_filter_le _ _) (by simp)
  by_cases hlt : k < fs.length
  · obtain ⟨x, hx⟩ : ∃ x, fs[k]? = some x := ⟨_, List.getElem?_eq_getElem hlt⟩
    obtain ⟨g2, o2, blk2, T2, fr2, W2, c2, hA2, hm2, hc2, _⟩ := hA.get hx
    have hd : decide ((k : Int) < (fs.length : Int)) = true := by simpa using hlt
    have hnext : relB p fs f (k + 1) = if r.vars.contains x.v then relB p fs f k ++ [k] else relB p fs f k := by
      unfold relB
      rw [List.range_succ, List.filter_append, hrD]
      congr 1
      rw [List.filter_cons, List.filter_nil, List.getD_eq_getElem?_getD, hx, Option.getD_some]
      cases hcx : r.vars.contains x.v <;> simp
    repeat' (first | refine TC.seq ?_ | refine TC.region ?_ | refine TR.nil ?_ | refine Post.then_normal ?_ | refine TC.block ?_ | refine TC.skip ?_ | (apply TC.cond_bt; exact rfl; assumption) | (apply TR.st1; exact rfl; exact rfl; exact rfl; (first | exact Wd.plain rfl | exact Wd.on rfl rfl rfl); (first | exact EvS.move rfl | exact EvS.assign rfl | (first | (apply EvS.load1; exact rfl; (first | exact Reads.mem (by assumption) | exact Reads.own (by repeat first | exact List.Mem.head _ | assumption | apply List.Mem.tail)); (first | assumption | exact nthL_arr rfl | exact rfl)) | (apply EvS.loadW; exact rfl; (first | exact Reads.mem (by assumption) | exact Reads.own (by repeat first | exact List.Mem.head _ | assumption | apply List.Mem.tail)); first | exact rfl | assumption) | (apply EvS.loadH; exact rfl; (first | exact Reads.mem (by assumption) | exact Reads.own (by repeat first | exact List.Mem.head _ | assumption | apply List.Mem.tail)); assumption; first | exact rfl | assumption)) | exact EvS.ltI rfl rfl | (first | exact EvS.indexAddr rfl rfl (by first | exact rfl | assumption) (by omega) | exact EvS.indexAddrA rfl rfl (by omega)))) | (apply TR.ch1 (o := ⟨_, .alloc _, _, _, _, _⟩) ; exact rfl; exact rfl; exact rfl; (first | exact Wd.plain rfl | exact Wd.on rfl rfl rfl); exact EvC.alloc; intro g) | (apply TR.ch0 (o := ⟨_, .store _ _ _, _, _, _, _⟩) ; exact rfl; exact rfl; (first | exact Wd.plain rfl | exact Wd.on rfl rfl rfl); exact EvC.storeW rfl rfl (by first | exact rfl | assumption) (by first | exact bArr_one _ | exact rfl | (intro v hv; simp at hv; rcases hv with rfl | rfl | rfl | rfl | rfl | rfl | rfl | rfl <;> rfl)) (by repeat first | exact Upd.head | apply Upd.tail) (by first | exact rfl | assumption); rintro ⟨⟩))
    refine TC.draw_ [.st, .st, .st, .st, .st, .st, .st, .st, .st, .st, .st, .st, .ch] mixed rfl (by kernel_rfl) ?_
    repeat' (first | (apply D.chx (o := ⟨_, .call _, _, _, _, _⟩); exact rfl; (first | exact Wd.plain rfl | exact Wd.on rfl rfl rfl); exact EvC.callV rfl rfl (fun w hs => contains_c B3 c3 r.vars x.v _ _ w hs hR4); exact inferInstance; exact (by first | exact fun _ _ h => StX.of0 h | exact fun _ _ h => StX.of1 h | exact fun _ _ h => StX.of2 h | exact fun _ _ h => StX.of3 h | exact fun _ _ h => StX.of h); rintro ⟨⟩) | (apply D.st1; exact rfl; (first | exact Wd.plain rfl | exact Wd.on rfl rfl rfl); (first | exact EvS.move rfl | exact EvS.fieldAddr rfl | (first | (apply EvS.load1; exact rfl; (first | exact Reads.memX (by assumption) | exact Reads.ownX (by repeat first | exact List.Mem.head _ | assumption | apply List.Mem.tail)); (first | assumption | exact nthL_arr rfl | exact rfl)) | (apply EvS.loadW; exact rfl; (first | exact Reads.memX (by assumption) | exact Reads.ownX (by repeat first | exact List.Mem.head _ | assumption | apply List.Mem.tail)); first | exact rfl | assumption) | (apply EvS.loadH; exact rfl; (first | exact Reads.memX (by assumption) | exact Reads.ownX (by repeat first | exact List.Mem.head _ | assumption | apply List.Mem.tail)); assumption; first | exact rfl | assumption)) | (first | exact EvS.indexAddr rfl rfl (by first | exact rfl | assumption) (by omega) | exact EvS.indexAddrA rfl rfl (by omega)) | exact EvS.nilCheck rfl)) | refine D.tail_ ?_)
    repeat' (first | refine TC.region ?_ | refine TR.nil ?_ | refine Post.then_normal ?_ | refine TC.skip ?_ | refine Post.block_normal ?_ | (apply TC.cond; exact rfl; all_goals (intro h)) | (apply TR.st1; exact rfl; exact rfl; exact rfl; (first | exact Wd.plain rfl | exact Wd.on rfl rfl rfl); (first | exact EvS.move rfl | exact EvS.fieldAddr rfl | (first | (apply EvS.load1; exact rfl; (first | exact Reads.mem (by assumption) | exact Reads.own (by repeat first | exact List.Mem.head _ | assumption | apply List.Mem.tail)); (first | assumption | exact nthL_arr rfl | exact rfl)) | (apply EvS.loadW; exact rfl; (first | exact Reads.mem (by assumption) | exact Reads.own (by repeat first | exact List.Mem.head _ | assumption | apply List.Mem.tail)); first | exact rfl | assumption) | (apply EvS.loadH; exact rfl; (first | exact Reads.mem (by assumption) | exact Reads.own (by repeat first | exact List.Mem.head _ | assumption | apply List.Mem.tail)); assumption; first | exact rfl | assumption)) | (first | exact EvS.addI rfl rfl (by omega) | exact EvS.add64 rfl rfl (by first | with_reducible exact U64.var _ | exact U64.lit rfl) (by first | with_reducible exact U64.var _ | exact U64.lit rfl)))) | (apply TR.ch1 (o := ⟨_, .buildSlice _ _ _, _, _, _, _⟩) ; exact rfl; exact rfl; exact rfl; (first | exact Wd.plain rfl | exact Wd.on rfl rfl rfl); exact EvC.build1 rfl (by exact rfl) (by exact rfl); intro g))
    · rw [h, if_pos rfl] at hnext
      have hzk : vals (zs [k]) = [.int .i64 (k : Int)] := rfl
      (apply TR.ch1 (o := ⟨_, .call _, _, _, _, _⟩); exact rfl; exact rfl; exact rfl; (first | exact Wd.plain rfl | exact Wd.on rfl rfl rfl); (apply EvC.append; exact rfl; exact rfl; exact hrow; exact Rep1.tail (Rep1.tail (Rep1.head)); (apply RdC.whole; (first | exact Reads.mem (by assumption) | exact Reads.own (by repeat first | exact List.Mem.head _ | assumption | apply List.Mem.tail))); exact rfl; exact (by first | exact (fun v hv => by simp at hv; rcases hv with rfl | rfl | rfl | rfl | rfl | rfl | rfl | rfl <;> rfl) | exact (fun v hv => by simp at hv; rcases hv with rfl | rfl | rfl | rfl | rfl | rfl | rfl <;> rfl) | exact (fun v hv => by simp at hv; rcases hv with rfl | rfl | rfl | rfl <;> rfl) | exact (fun v hv => by simp at hv; rcases hv with rfl | rfl <;> rfl) | exact (fun v hv => by simp at hv; subst hv; rfl)); exact rfl; decide; omega; (intro e2; exact Rep1.tail (Rep1.tail (Rep1.head)))); intro p)
      obtain ⟨⟨v2, e2⟩, hrow2⟩ := p
      simp only at hrow2 ⊢
      have h1v := ownRow_one hrow2
      repeat' (first | (apply TR.ch0 (o := ⟨_, .store _ _ _, _, _, _, _⟩); exact rfl; exact rfl; exact Wd.plain rfl; exact EvC.store1 rfl rfl h1v (by repeat first | exact Upd.head | apply Upd.tail) (by simp); rintro ⟨⟩) | refine TC.region ?_ | refine TR.nil ?_ | refine Post.then_normal ?_ | refine Post.block_normal ?_ | (apply TR.st1; exact rfl; exact rfl; exact rfl; (first | exact Wd.plain rfl | exact Wd.on rfl rfl rfl); (first | exact EvS.move rfl | exact EvS.fieldAddr rfl | (first | exact EvS.addI rfl rfl (by omega) | exact EvS.add64 rfl rfl (by first | with_reducible exact U64.var _ | exact U64.lit rfl) (by first | with_reducible exact U64.var _ | exact U64.lit rfl)))))
      refine Post.nextP ⟨k + 1, l ++ [k], v2, e2⟩ ⟨by simp only; omega, by simp only; rw [hnext, hl], ?_⟩ (incl.lk (by repeat first | exact trivial | refine ⟨rfl, ?_⟩)) (fun w h => ?_) (by simp only; omega)
      · simp only
        rw [vals_zs_append, hzk, List.length_append]
        exact hrow2
      · exact h.tail.tail
    · rw [h, if_neg (by simp)] at hnext
      refine Post.nextP ⟨k + 1, l, v, e⟩ ⟨by simp only; omega, by simp only; rw [hnext, hl], hrow⟩ (incl.lk (by repeat first | exact trivial | refine ⟨rfl, ?_⟩)) (fun w h => ?_) (by simp only; omega)
      exact h.tail
  · have hd : decide ((k : Int) < (fs.length : Int)) = false := by simpa using hlt
    obtain rfl : k = fs.length := by omega
    obtain ⟨Av, cv, rfl, hcv⟩ := ownRow_slice hrow
    repeat' (first | refine TC.seq ?_ | refine TC.region ?_ | refine TR.nil ?_ | refine Post.then_normal ?_ | refine TC.block ?_ | refine TC.exit ?_ | (apply TC.cond_bf; exact rfl; assumption) | refine Post.then_exit ?_ | refine Post.block_here ?_ | (apply TR.st1; exact rfl; exact rfl; exact rfl; (first | exact Wd.plain rfl | exact Wd.on rfl rfl rfl); (first | exact EvS.assign rfl | exact EvS.fieldAddr rfl | (first | (apply EvS.load1; exact rfl; (first | exact Reads.mem (by assumption) | exact Reads.own (by repeat first | exact List.Mem.head _ | assumption | apply List.Mem.tail)); (first | assumption | exact nthL_arr rfl | exact rfl)) | (apply EvS.loadW; exact rfl; (first | exact Reads.mem (by assumption) | exact Reads.own (by repeat first | exact List.Mem.head _ | assumption | apply List.Mem.tail)); first | exact rfl | assumption) | (apply EvS.loadH; exact rfl; (first | exact Reads.mem (by assumption) | exact Reads.own (by repeat first | exact List.Mem.head _ | assumption | apply List.Mem.tail)); assumption; first | exact rfl | assumption)) | exact EvS.len rfl | exact EvS.ltI rfl rfl | (first | exact EvS.subI rfl rfl (by omega) | exact EvS.sub64 rfl rfl (by first | with_reducible exact U64.var _ | exact U64.lit rfl) (by first | with_reducible exact U64.var _ | exact U64.lit rfl)))))
    refine TC.loopP (X := Wy) (fun x => OwnRow x.v 3 1 x.l.length (vals (zs x.l)) x.e ∧ x.k ≤ x.l.length ∧ x.l.length ≤ fs.length ∧ (∀ k, k ∈ x.l → k < fs.length) ∧ (List.range x.k).reverse.foldl (trimB p fs f) x.l = whyB p fs f)
      (fun x => [(7, .int .i64 ((x.k : Int) - 1)), (3, .pointer (some ⟨gf, 0, none⟩)), (0, .pointer (some ⟨gx, 0, none⟩))])
      (fun x => St m (x.e :: some (gf, .cells #[.int .i64 f.v, .int .i64 (f.e : Int), .bool f.i, .int .i64 (f.n : Int), x.v] 55 (0, 0)) :: L)) (fun x => x.k) ⟨l.length, l, _, e⟩ ⟨hrow, Nat.le_refl _, hll, ?_, by rw [hl]; rfl⟩ (incl.lk (by repeat first | exact trivial | refine ⟨rfl, ?_⟩)) (fun w h => h) ?_
    · intro k hk
      rw [hl] at hk
      unfold relB at hk
      simpa using (List.mem_filter.1 hk).1
    clear hrow hcv hl hll
    rintro ⟨k, l, v, e⟩ ⟨hrow, hkl, hll, hmem, hfold⟩
    simp only at hrow hkl hll hmem hfold ⊢
    obtain ⟨Av, cv, rfl, hcv⟩ := ownRow_slice hrow
    cases k with
    | zero =>
      have hd : decide (((0 : Nat) : Int) - 1 ≥ 0) = false := by decide
      repeat' (first | refine TC.seq ?_ | refine TC.region ?_ | refine TR.nil ?_ | refine Post.then_normal ?_ | refine TC.ret ?_ | refine TC.exit ?_ | (apply TC.cond_f; exact rfl) | refine Post.then_exit ?_ | refine Post.block_here ?_ | (apply TR.st1; exact rfl; exact rfl; exact rfl; (first | exact Wd.plain rfl | exact Wd.on rfl rfl rfl); (first | exact EvS.move rfl | exact EvS.assign rfl | exact EvS.fieldAddr rfl | (first | (apply EvS.load1; exact rfl; (first | exact Reads.mem (by assumption) | exact Reads.own (by repeat first | exact List.Mem.head _ | assumption | apply List.Mem.tail)); (first | assumption | exact nthL_arr rfl | exact rfl)) | (apply EvS.loadW; exact rfl; (first | exact Reads.mem (by assumption) | exact Reads.own (by repeat first | exact List.Mem.head _ | assumption | apply List.Mem.tail)); first | exact rfl | assumption) | (apply EvS.loadH; exact rfl; (first | exact Reads.mem (by assumption) | exact Reads.own (by repeat first | exact List.Mem.head _ | assumption | apply List.Mem.tail)); assumption; first | exact rfl | assumption)) | exact EvS.geI rfl rfl)))
      simp only [List.range_zero, List.reverse_nil, List.foldl_nil] at hfold
      subst hfold
      refine Post.body_ret _ (ResL.one rfl (ResV.tmp rfl)) ?_
      exact fun w h => ⟨⟨(_, e), hrow⟩, rfl, (h.perm (List.Perm.swap _ _ _)).tail⟩
    | succ i =>
      have hd : decide (((i + 1 : Nat) : Int) - 1 ≥ 0) = true := by simp
      have hi1 : ((i + 1 : Nat) : Int) - 1 = (i : Int) := by omega
      rw [List.range_succ, List.reverse_append] at hfold
      simp only [List.reverse_cons, List.reverse_nil, List.nil_append, List.singleton_append, List.foldl_cons] at hfold
      have hmem2 : ∀ k, k ∈ l.eraseIdx i → k < fs.length := fun k hk => hmem k (List.mem_of_mem_eraseIdx hk)
      rw [hi1] at *
      repeat' (first | refine TC.seq ?_ | refine TC.region ?_ | refine TR.nil ?_ | refine Post.then_normal ?_ | refine TC.block ?_ | refine TC.skip ?_ | (apply TC.cond_t; exact rfl) | (apply TR.st1; exact rfl; exact rfl; exact rfl; (first | exact Wd.plain rfl | exact Wd.on rfl rfl rfl); (first | exact EvS.move rfl | exact EvS.fieldAddr rfl | (first | (apply EvS.load1; exact rfl; (first | exact Reads.mem (by assumption) | exact Reads.own (by repeat first | exact List.Mem.head _ | assumption | apply List.Mem.tail)); (first | assumption | exact nthL_arr rfl | exact rfl)) | (apply EvS.loadW; exact rfl; (first | exact Reads.mem (by assumption) | exact Reads.own (by repeat first | exact List.Mem.head _ | assumption | apply List.Mem.tail)); first | exact rfl | assumption) | (apply EvS.loadH; exact rfl; (first | exact Reads.mem (by assumption) | exact Reads.own (by repeat first | exact List.Mem.head _ | assumption | apply List.Mem.tail)); assumption; first | exact rfl | assumption)) | exact EvS.geI rfl rfl)) | (apply TR.ch1 (o := ⟨_, .alloc _, _, _, _, _⟩) ; exact rfl; exact rfl; exact rfl; (first | exact Wd.plain rfl | exact Wd.on rfl rfl rfl); exact EvC.alloc; intro g) | (apply TR.ch0 (o := ⟨_, .store _ _ _, _, _, _, _⟩) ; exact rfl; exact rfl; (first | exact Wd.plain rfl | exact Wd.on rfl rfl rfl); exact EvC.storeW rfl rfl (by first | exact rfl | assumption) (by first | exact bArr_one _ | exact rfl | (intro v hv; simp at hv; rcases hv with rfl | rfl | rfl | rfl | rfl | rfl | rfl | rfl <;> rfl)) (by repeat first | exact Upd.head | apply Upd.tail) (by first | exact rfl | assumption); rintro ⟨⟩))
      rename_i g8
      have hzl : (zs l).length = l.length := zs_length l
      obtain ⟨A', c', he, hc', hSl⟩ := OwnRow.lent (m := m) (css := ints (zs l)) (by rw [← vals_flat]; exact hrow) (ints_len _) (by simp [ints, zs]) (by omega)
      injection he with he1 _ he3
      subst he1 he3
      (apply TR.ch1 (o := ⟨_, .call _, _, _, _, _⟩); exact rfl; exact rfl; exact rfl; (first | exact Wd.plain rfl | exact Wd.on rfl rfl rfl); exact EvC.callX rfl rfl (fun w hs => borrowAt1 (Rep1.tail Rep1.head) hs (fun hs => by have := clone_c Av cv (zs l) (by rw [hzl]; omega) _ _ w hs hSl; rw [hzl] at this; exact this)); rintro ⟨⟨v1, e1⟩, hrow1⟩)
      simp only at hrow1 ⊢
      have hi2 : (i : Int) + 1 = ((i + 1 : Nat) : Int) := rfl
      repeat' (first | (apply TR.st1; exact rfl; exact rfl; exact rfl; (first | exact Wd.plain rfl | exact Wd.on rfl rfl rfl); (first | exact EvS.move rfl | (first | exact EvS.addI rfl rfl (by omega) | exact EvS.add64 rfl rfl (by first | with_reducible exact U64.var _ | exact U64.lit rfl) (by first | with_reducible exact U64.var _ | exact U64.lit rfl)))))
      rw [hi2]
      rw [← hzl] at hrow1
      have hil : i < (zs l).length := by omega
      (apply TR.ch1 (o := ⟨_, .call _, _, _, _, _⟩); exact rfl; exact rfl; exact rfl; (first | exact Wd.plain rfl | exact Wd.on rfl rfl rfl); exact EvC.callX rfl rfl (fun w hs => delete_c v1 e1 (zs l) i hil hrow1 _ _ w hs); rintro ⟨⟨v2, e2⟩, hrow2⟩)
      simp only at hrow2 ⊢
      rw [← zs_erase, hzl] at hrow2
      have hel : (l.eraseIdx i).length = l.length - 1 := by rw [List.length_eraseIdx, if_pos (by omega)]
      rw [← hel] at hrow2
      have h1v := ownRow_one hrow2
      repeat' (first | (apply TR.ch0 (o := ⟨_, .store _ _ _, _, _, _, _⟩); exact rfl; exact rfl; exact Wd.plain rfl; exact EvC.store1 rfl rfl h1v (by repeat first | exact Upd.head | apply Upd.tail) (by simp); rintro ⟨⟩) | refine TC.seq ?_ | refine TR.nil ?_ | refine Post.then_normal ?_ | (apply TR.st1 (o := ⟨_, .fieldAddr _ _ _, _, _, _, _⟩); exact rfl; exact rfl; exact rfl; (first | exact Wd.plain rfl | exact Wd.on rfl rfl rfl); exact EvS.fieldAddr rfl))
      obtain ⟨A2, c2, rfl, hc2⟩ := ownRow_slice hrow2
      obtain ⟨A2', c2', he2, hc2', hSl2⟩ := OwnRow.lent (m := m) (css := ints (zs (l.eraseIdx i))) (by rw [← vals_flat]; exact hrow2) (ints_len _) (by simp [ints, zs]) (by omega)
      injection he2 with he1 _ he3
      subst he1 he3
      rw [show (#[Value.int .i64 f.v, .int .i64 (f.e : Int), .bool f.i, .int .i64 (f.n : Int), .slice Av l.length cv].setIfInBounds (0 + 4) (.slice A2 (l.eraseIdx i).length c2)) = #[.int .i64 f.v, .int .i64 (f.e : Int), .bool f.i, .int .i64 (f.n : Int), .slice A2 (l.eraseIdx i).length c2] from rfl]
      refine TC.draw_ [.st, .st, .st, .st, .st, .st, .st, .st, .st, .ch] mixed rfl (by kernel_rfl) ?_
      repeat' (first | (apply D.chx (o := ⟨_, .call _, _, _, _, _⟩); exact rfl; (first | exact Wd.plain rfl | exact Wd.on rfl rfl rfl); exact EvC.callV rfl rfl (fun w hs => borrowV hs (fun hs2 => explained_c p _ hp fs A c { f with why := l.eraseIdx i } A2 c2 hfs hf hn hmem2 _ (hT.mono (lend hs).1) (hpc0.mono (lend hs).1) (hA.mono (lend hs).1) hSl2 _ w hs2)); exact inferInstance; exact (by first | exact fun _ _ h => StX.of0 h | exact fun _ _ h => StX.of1 h | exact fun _ _ h => StX.of2 h | exact fun _ _ h => StX.of3 h | exact fun _ _ h => StX.of h); rintro ⟨⟩) | (apply D.st1; exact rfl; (first | exact Wd.plain rfl | exact Wd.on rfl rfl rfl); (first | exact EvS.move rfl | exact EvS.fieldAddr rfl | (first | (apply EvS.load1; exact rfl; (first | exact Reads.memX (by assumption) | exact Reads.ownX (by repeat first | exact List.Mem.head _ | assumption | apply List.Mem.tail)); (first | assumption | exact nthL_arr rfl | exact rfl)) | (apply EvS.loadW; exact rfl; (first | exact Reads.memX (by assumption) | exact Reads.ownX (by repeat first | exact List.Mem.head _ | assumption | apply List.Mem.tail)); first | exact rfl | assumption) | (apply EvS.loadH; exact rfl; (first | exact Reads.memX (by assumption) | exact Reads.ownX (by repeat first | exact List.Mem.head _ | assumption | apply List.Mem.tail)); assumption; first | exact rfl | assumption)) | exact EvS.nilCheck rfl)) | refine D.tail_ ?_)
      repeat' (first | refine TC.region ?_ | refine TR.nil ?_ | refine Post.then_normal ?_ | refine TC.skip ?_ | refine Post.block_normal ?_ | (apply TC.cond; exact rfl; all_goals (intro h)) | (apply TR.st1; exact rfl; exact rfl; exact rfl; (first | exact Wd.plain rfl | exact Wd.on rfl rfl rfl); (first | exact EvS.move rfl | exact EvS.assign rfl | (first | (apply EvS.load1; exact rfl; (first | exact Reads.mem (by assumption) | exact Reads.own (by repeat first | exact List.Mem.head _ | assumption | apply List.Mem.tail)); (first | assumption | exact nthL_arr rfl | exact rfl)) | (apply EvS.loadW; exact rfl; (first | exact Reads.mem (by assumption) | exact Reads.own (by repeat first | exact List.Mem.head _ | assumption | apply List.Mem.tail)); first | exact rfl | assumption) | (apply EvS.loadH; exact rfl; (first | exact Reads.mem (by assumption) | exact Reads.own (by repeat first | exact List.Mem.head _ | assumption | apply List.Mem.tail)); assumption; first | exact rfl | assumption)) | (first | exact EvS.subI rfl rfl (by omega) | exact EvS.sub64 rfl rfl (by first | with_reducible exact U64.var _ | exact U64.lit rfl) (by first | with_reducible exact U64.var _ | exact U64.lit rfl)))) | (apply TR.ch0 (o := ⟨_, .store _ _ _, _, _, _, _⟩) ; exact rfl; exact rfl; (first | exact Wd.plain rfl | exact Wd.on rfl rfl rfl); exact EvC.storeW rfl rfl (by first | exact rfl | assumption) (by first | exact bArr_one _ | exact rfl | (intro v hv; simp at hv; rcases hv with rfl | rfl | rfl | rfl | rfl | rfl | rfl | rfl <;> rfl)) (by repeat first | exact Upd.head | apply Upd.tail) (by first | exact rfl | assumption); rintro ⟨⟩))
      · rw [show trimB p fs f l i = l.eraseIdx i by unfold trimB; rw [if_pos h]] at hfold
        refine Post.nextP ⟨i, l.eraseIdx i, _, e2⟩ ⟨hrow2, by simp only; omega, by simp only; omega, hmem2, hfold⟩ (incl.lk (by repeat first | exact trivial | refine ⟨rfl, ?_⟩)) (fun w h => ?_) (by simp only; omega)
        exact (h.sublist (List.Sublist.cons_cons _ (List.Sublist.cons _ (List.Sublist.cons _ (List.Sublist.refl _)))))
      · rw [show trimB p fs f l i = l by unfold trimB; rw [if_neg (by rw [h]; simp)]] at hfold
        refine Post.nextP ⟨i, l, _, e⟩ ⟨hrow, by simp only; omega, hll, hmem, hfold⟩ (incl.lk (by repeat first | exact trivial | refine ⟨rfl, ?_⟩)) (fun w h => ?_) (by simp only; omega)
        exact h.tail.tail
end Go.Proofs.YtgpgjpcebajofaaGreatDoor
set_option maxHeartbeats 4000000
set_option linter.unusedVariables false
set_option linter.unusedSimpArgs false
set_option maxRecDepth 100000
namespace Go.Proofs.YtgpgjpcebajofaaGreatDoor
open Go Go.XC Go.RowKit Go.SetsP
attribute [local irreducible] Post TC TR D WL EvS EvC Wd ResL Code.wpIn Exit.then Exit.inBlock Exit.noGoto LoopK LoopP bodyPostM Reads Calls

/-! ### The propagator's block; its states -/
def xC (pcs : Array Value) (b : List Bd) (fv : Value) (re : Bool) : Array Value := (pcs.toList ++ (bArr b).toList ++ [fv, .bool re]).toArray
section
variable {pcs : Array Value} {b : List Bd} {fv : Value} {re : Bool}
theorem xC_size (hp : pcs.size = 2) (hb : b.length = 8) : (xC pcs b fv re).size = 20 := by
  have : (bArr b).size = 16 := by rw [bArr_size, hb]
  simp [xC, hp, this]
theorem xC_p (hp : pcs.size = 2) : CellsAt (xC pcs b fv re) (0 + 0) pcs := fun j u hj => by
  have hlt := (Array.getElem?_eq_some_iff.1 hj).1
  unfold xC
  rw [List.getElem?_toArray, List.append_assoc, List.getElem?_append_left (by simpa using hlt)]
  simpa using hj
theorem xC_b (hp : pcs.size = 2) : CellsAt (xC pcs b fv re) (0 + 2) (bArr b) := fun j u hj => by
  have hlt := (Array.getElem?_eq_some_iff.1 hj).1
  unfold xC
  rw [List.getElem?_toArray, List.append_assoc, List.getElem?_append_right (by simp [hp]), List.getElem?_append_left (by simp [hp]; exact hlt)]
  simp [hp]
  simpa using hj
theorem xC_f (hp : pcs.size = 2) (hb : b.length = 8) : (xC pcs b fv re)[0 + 18]? = some fv := by
  have : (bArr b).size = 16 := by rw [bArr_size, hb]
  unfold xC
  rw [List.getElem?_toArray, List.getElem?_append_right (by simp [hp, this])]
  simp [hp, this]
theorem xC_r (hp : pcs.size = 2) (hb : b.length = 8) : (xC pcs b fv re)[0 + 19]? = some (.bool re) := by
  have : (bArr b).size = 16 := by rw [bArr_size, hb]
  unfold xC
  rw [List.getElem?_toArray, List.getElem?_append_right (by simp [hp, this])]
  simp [hp, this]
theorem xC_lo (hp : pcs.size = 2) {k : Nat} {x : Bd} (h : b[k]? = some x) : (xC pcs b fv re)[0 + 2 + k * 2 + 0]? = some (.int .u64 (x.lo.toNat : Int)) := by
  have := xC_b (b := b) (fv := fv) (re := re) hp (k * 2) _ (bArr_lo h)
  rw [← this]; congr 1
theorem xC_can (hp : pcs.size = 2) {k : Nat} {x : Bd} (h : b[k]? = some x) : (xC pcs b fv re)[0 + 2 + k * 2 + 1]? = some (.int .u64 (x.can.toNat : Int)) := by
  have := xC_b (b := b) (fv := fv) (re := re) hp (k * 2 + 1) _ (bArr_can h)
  rw [← this]; congr 1
theorem xC_setB (hp : pcs.size = 2) (hb : b.length = 8) {b' : List Bd} (hb' : b'.length = 8) : spl (xC pcs b fv re) (0 + 2) (bArr b') = xC pcs b' fv re := by
  have h1 : (bArr b).size = 16 := by rw [bArr_size, hb]
  have h2 : (bArr b').size = 16 := by rw [bArr_size, hb']
  unfold spl xC
  congr 1
  simp only [List.toList_toArray, Nat.zero_add, Array.length_toList, h2]
  have e1 : List.take 2 (pcs.toList ++ (bArr b).toList ++ [fv, Value.bool re]) = pcs.toList := by rw [List.append_assoc]; exact List.take_left' (by simp [hp])
  have e2 : List.drop (2 + 16) (pcs.toList ++ (bArr b).toList ++ [fv, Value.bool re]) = [fv, Value.bool re] := List.drop_left' (by simp [hp, h1])
  rw [e1, e2]
theorem xC_setF (hp : pcs.size = 2) (hb : b.length = 8) (fv' : Value) : (xC pcs b fv re).setIfInBounds (0 + 18) fv' = xC pcs b fv' re := by
  have h1 : (bArr b).size = 16 := by rw [bArr_size, hb]
  unfold xC
  apply Array.ext'
  rw [Array.toList_setIfInBounds, List.toList_toArray, List.set_append_right _ _ (by simp [hp, h1])]
  simp [hp, h1]
end

structure Ps where
  b : List Bd
  fs : List Fc
  deriving DecidableEq, Inhabited
def dirB (b : List Bd) (r : Rl) (v : Int) (e : Nat) : Option Bool := if folB b r v e true then some true else if folB b r v e false then some false else none
def addP (p : Pb) (re : Bool) (n : Nat) (v : Int) (e : Nat) (i : Bool) (s : Ps) : Ps := ⟨withB s.b v e i, if re then s.fs ++ [⟨v, e, i, n, whyB p s.fs ⟨v, e, i, n, []⟩⟩] else s.fs⟩
def stepE (p : Pb) (re : Bool) (n : Nat) (v : Int) (s : Ps) (e : Nat) : Ps := match dirB s.b (p.rules.getD n default) v e with
  | none => s
  | some i => addP p re n v e i s
def openB (x : Bd) : BV := x.can &&& ~~~x.lo
def stepV (p : Pb) (re : Bool) (n : Nat) (s : Ps) (v : Int) : Ps := (elems (openB (nth s.b v))).foldl (stepE p re n v) s
def ruleS (p : Pb) (re : Bool) (n : Nat) (s : Ps) : Ps := (p.rules.getD n default).vars.foldl (stepV p re n) s
/-- How many elements are open. -/
def openN (b : List Bd) : Nat := (b.map fun x => pop (openB x)).sum
structure Iv (s : Ps) : Prop where
  b : okB s.b
  f : ∀ x, x ∈ s.fs → okF x
  n : s.fs.length + openN s.b ≤ 96

theorem has_openB (x : Bd) (k : Nat) : has (openB x) k = (has x.can k && !has x.lo k) := by
  unfold openB has
  rw [BitVec.getLsbD_and, BitVec.getLsbD_not]
  by_cases h : k < 64
  · simp [h]
  · have : x.can.getLsbD k = false := BitVec.getLsbD_of_ge _ _ (by omega)
    simp [this]
theorem has_openB_set (x : Bd) (e k : Nat) (he : e < 64) (hk : k < 64) (i : Bool) : has (openB (setB x e i)) k = (has (openB x) k && !(k == e)) := by
  rw [has_openB, has_openB]
  cases i
  · rw [has_setB_can x e k he hk]
    have : has (setB x e false).lo k = has x.lo k := rfl
    rw [this]
    cases has x.can k <;> cases has x.lo k <;> cases (k == e) <;> rfl
  · rw [has_setB_lo x e k he hk]
    have : has (setB x e true).can k = has x.can k := rfl
    rw [this]
    cases has x.can k <;> cases has x.lo k <;> cases (k == e) <;> rfl
theorem countP_rm {p : Nat → Bool} {e : Nat} (hp : p e = true) : ∀ (l : List Nat), l.Nodup → e ∈ l → l.countP p = l.countP (fun k => p k && !(k == e)) + 1 := by
  intro l
  induction l with
  | nil => intro _ h; cases h
  | cons a l ih =>
    intro hn he
    have hn' := List.nodup_cons.1 hn
    rcases List.mem_cons.1 he with rfl | h
    · rw [List.countP_cons, List.countP_cons]
      have : l.countP (fun k => p k && !(k == e)) = l.countP p := by
        apply List.countP_congr
        intro x hx
        have : x ≠ e := fun h => hn'.1 (h ▸ hx)
        simp [this]
      rw [this]
      simp [hp]
    · have hne : a ≠ e := fun h' => hn'.1 (h' ▸ h)
      rw [List.countP_cons, List.countP_cons, ih hn'.2 h]
      simp [hne]
      omega
theorem pop_set (x : Bd) (e : Nat) (he : e < 12) (i : Bool) (ho : has (openB x) e = true) : pop (openB x) = pop (openB (setB x e i)) + 1 := by
  unfold pop
  rw [countP_rm ho _ List.nodup_range (by simpa using he)]
  congr 1
  apply List.countP_congr
  intro k hk
  have hk12 : k < 12 := by simpa using hk
  rw [has_openB_set x e k (by omega) (by omega)]
theorem sum_set : ∀ (l : List Bd) (k : Nat) (x y : Bd), l[k]? = some x → pop (openB x) = pop (openB y) + 1 → openN l = openN (l.set k y) + 1 := by
  intro l
  induction l with
  | nil => intro k x y h; simp at h
  | cons a l ih =>
    intro k x y h hp
    cases k with
    | zero =>
      simp at h
      subst h
      simp [openN, hp]; omega
    | succ k =>
      have := ih k x y (by simpa using h) hp
      simp only [openN, List.set_cons_succ, List.map_cons, List.sum_cons] at this ⊢
      omega
theorem nth_get {b : List Bd} (hb : b.length = 8) {v : Int} (hv : 0 ≤ v ∧ v < 8) : b[v.toNat]? = some (nth b v) := by
  unfold nth
  rw [List.getD_eq_getElem?_getD, List.getElem?_eq_getElem (by omega)]
  rfl
theorem openN_with {b : List Bd} (hb : b.length = 8) {v : Int} (hv : 0 ≤ v ∧ v < 8) {e : Nat} (he : e < 12) (i : Bool) (ho : has (openB (nth b v)) e = true) : openN b = openN (withB b v e i) + 1 :=
  sum_set b v.toNat (nth b v) _ (nth_get hb hv) (pop_set _ e he i ho)
theorem openN_le {b : List Bd} (hb : b.length = 8) : openN b ≤ 96 := by
  have : ∀ (l : List Bd), (l.map fun x => pop (openB x)).sum ≤ l.length * 12 := by
    intro l
    induction l with
    | nil => simp
    | cons a l ih =>
      have h1 : pop (openB a) ≤ 12 := by
        have := List.countP_le_length (p := has (openB a)) (l := List.range 12)
        simpa [pop] using this
      simp only [List.map_cons, List.sum_cons, List.length_cons]
      omega
  have := this b
  rw [hb] at this
  exact this
theorem nth_with {b : List Bd} (hb : b.length = 8) {v : Int} (hv : 0 ≤ v ∧ v < 8) (e : Nat) (i : Bool) : nth (withB b v e i) v = setB (nth b v) e i := by
  unfold withB
  unfold nth
  rw [List.getD_eq_getElem?_getD, List.getElem?_set_self (by omega)]
  rfl
theorem Iv.add {p : Pb} {re : Bool} {n : Nat} {v : Int} {e : Nat} {i : Bool} {s : Ps} (h : Iv s) (hv : 0 ≤ v ∧ v < 8) (he : e < 12) (ho : has (openB (nth s.b v)) e = true) : Iv (addP p re n v e i s) := by
  refine ⟨okB_with h.b hv he i, ?_, ?_⟩
  · unfold addP
    cases re
    · exact h.f
    · intro x hx
      rcases List.mem_append.1 hx with h1 | h1
      · exact h.f x h1
      · have := List.mem_singleton.1 h1
        subst this
        exact ⟨hv, he⟩
  · have h1 := openN_with h.b.1 hv he i ho
    have h2 := h.n
    unfold addP
    cases re
    · show s.fs.length + openN (withB s.b v e i) ≤ 96
      omega
    · show (s.fs ++ [_]).length + openN (withB s.b v e i) ≤ 96
      rw [List.length_append, List.length_singleton]
      omega
theorem Iv.stepE {p : Pb} {re : Bool} {n : Nat} {v : Int} {e : Nat} {s : Ps} (h : Iv s) (hv : 0 ≤ v ∧ v < 8) (he : e < 12) (ho : has (openB (nth s.b v)) e = true) : Iv (stepE p re n v s e) := by
  unfold Go.Proofs.YtgpgjpcebajofaaGreatDoor.stepE
  split
  · exact h
  · exact h.add hv he ho
theorem stepE_nth {p : Pb} {re : Bool} {n : Nat} {v : Int} {e : Nat} {s : Ps} (h : s.b.length = 8) (hv : 0 ≤ v ∧ v < 8) (he : e < 64) {k : Nat} (hk : k < 64) (hne : k ≠ e) : has (openB (nth (stepE p re n v s e).b v)) k = has (openB (nth s.b v)) k := by
  unfold stepE
  split
  · rfl
  · rename_i i hi
    unfold addP
    simp only
    rw [nth_with h hv, has_openB_set _ _ _ he hk]
    simp [hne]
theorem stepE_len {p : Pb} {re : Bool} {n : Nat} {v : Int} {e : Nat} {s : Ps} (h : s.b.length = 8) : (stepE p re n v s e).b.length = 8 := by
  unfold stepE
  split
  · exact h
  · simp [addP, withB, h]
theorem small_openB {x : Bd} (h : small x.can) : small (openB x) := by
  unfold openB
  exact small_and h
theorem elems_lt {s : BV} (h : small s) {e : Nat} (he : e ∈ elems s) : e < 12 ∧ has s e = true := by
  unfold elems at he
  obtain ⟨h1, h2⟩ := List.mem_filter.1 he
  refine ⟨?_, h2⟩
  rcases Nat.lt_or_ge e 12 with h3 | h3
  · exact h3
  · unfold has at h2
    have : s.getLsbD e = false := Nat.testBit_lt_two_pow (Nat.lt_of_lt_of_le (show s.toNat < 2 ^ 12 from h) (Nat.pow_le_pow_right (n := 2) (by omega) h3))
    rw [this] at h2; cases h2
theorem elems_nodup (s : BV) : (elems s).Nodup := List.Pairwise.filter _ List.nodup_range
/-- The invariant along the elements of a variable. -/
theorem Iv.fold {p : Pb} {re : Bool} {n : Nat} {v : Int} (hv : 0 ≤ v ∧ v < 8) : ∀ (l : List Nat) (s : Ps), Iv s → l.Nodup → (∀ e, e ∈ l → e < 12 ∧ has (openB (nth s.b v)) e = true) →
    Iv (l.foldl (Go.Proofs.YtgpgjpcebajofaaGreatDoor.stepE p re n v) s) ∧ ∀ k, k < 64 → k ∉ l → has (openB (nth (l.foldl (Go.Proofs.YtgpgjpcebajofaaGreatDoor.stepE p re n v) s).b v)) k = has (openB (nth s.b v)) k := by
  intro l
  induction l with
  | nil => intro s h _ _; exact ⟨h, fun k _ _ => rfl⟩
  | cons a l ih =>
    intro s h hn hl
    have hn' := List.nodup_cons.1 hn
    have ha := hl a List.mem_cons_self
    have h1 := h.stepE (p := p) (re := re) (n := n) hv ha.1 ha.2
    obtain ⟨h2, h3⟩ := ih _ h1 hn'.2 fun e he => by
      have := hl e (List.mem_cons_of_mem _ he)
      refine ⟨this.1, ?_⟩
      rw [stepE_nth h.b.1 hv (by omega) (by omega) (fun (hx : e = a) => hn'.1 (hx ▸ he))]
      exact this.2
    refine ⟨h2, fun k hk hkl => ?_⟩
    rw [List.foldl_cons, h3 k hk (fun hx => hkl (List.mem_cons_of_mem _ hx)), stepE_nth h.b.1 hv (by omega) hk (fun hx => hkl (hx ▸ List.mem_cons_self))]
theorem Iv.stepV {p : Pb} {re : Bool} {n : Nat} {v : Int} {s : Ps} (h : Iv s) (hv : 0 ≤ v ∧ v < 8) : Iv (stepV p re n s v) :=
  (Iv.fold hv _ s h (elems_nodup _) fun e he => elems_lt (small_openB (nth_ok h.b hv).2) he).1
theorem Iv.folds {p : Pb} {re : Bool} {n : Nat} : ∀ (l : List Int) (s : Ps), Iv s → (∀ v, v ∈ l → 0 ≤ v ∧ v < 8) → Iv (l.foldl (Go.Proofs.YtgpgjpcebajofaaGreatDoor.stepV p re n) s) := by
  intro l
  induction l with
  | nil => intro s h _; exact h
  | cons a l ih => exact fun s h hl => ih _ (h.stepV (hl a List.mem_cons_self)) fun v hv => hl v (List.mem_cons_of_mem _ hv)

/-- The facts' row: grows in memory m. -/
def FRow (m : Mem) (v : Value) (fs : List Fc) (e : Option (Nat × Obj)) : Prop := ∃ css, OwnRow v 55 5 fs.length css.flatten e ∧ FcL m fs css
theorem FRow.mono {m m' : Mem} {v : Value} {fs : List Fc} {e : Option (Nat × Obj)} (h : FRow m v fs e) (hm : m.Le m') : FRow m' v fs e := let ⟨css, h1, h2⟩ := h; ⟨css, h1, h2.mono hm⟩
theorem FRow.nil {m : Mem} : FRow m (.slice none 0 0) [] none := ⟨[], OwnRow.nil, rfl, fun k f cs h => by simp at h⟩
theorem FRow.one {m : Mem} {v : Value} {fs : List Fc} {e : Option (Nat × Obj)} (h : FRow m v fs e) : v.oneCell' = true := let ⟨css, h1, _⟩ := h; ownRow_one h1
theorem FRow.lent {m : Mem} {v : Value} {fs : List Fc} {e : Option (Nat × Obj)} (h : FRow m v fs e) (hm : m.Le (memO m e)) (hbig : fs.length ≤ 140737488355328) : ∃ A c, v = .slice A fs.length c ∧ FcS (memO m e) A fs := by
  obtain ⟨css, h1, h2⟩ := h
  obtain ⟨A, c, h3, _, h4⟩ := OwnRow.lent (m := m) h1 h2.len h2.1 hbig
  exact ⟨A, c, h3, css, h4, h2.mono hm⟩
end Go.Proofs.YtgpgjpcebajofaaGreatDoor
set_option maxHeartbeats 4000000
set_option linter.unusedVariables false
set_option linter.unusedSimpArgs false
set_option maxRecDepth 100000
namespace Go.Proofs.YtgpgjpcebajofaaGreatDoor
open Go Go.XC Go.RowKit Go.SetsP
attribute [local irreducible] Post TC TR D WL EvS EvC Wd ResL Code.wpIn Exit.then Exit.inBlock Exit.noGoto LoopK LoopP bodyPostM Reads Calls

def xO (g : Nat) (pcs : Array Value) (b : List Bd) (fv : Value) (re : Bool) : Option (Nat × Obj) := some (g, .cells (xC pcs b fv re) 95 (0, 0))
def contra (n : Nat) : List PanicEntry := [{ v := .iface 130 (.agg #[.int .i64 (n : Int)]), recovered := false }]

theorem rule_no (p : Pb) (pcs : Array Value) (hp : okP p) (s : Ps) (re : Bool) (n : Nat) (r : Rl) (hr : p.rules[n]? = some r) (fv : Value) (e : Option (Nat × Obj)) (gx : Nat) (hI : Iv s) (hps : possB s.b r = false)
    (m : Mem) (hT : TabM m) (hpc : PbC m p pcs) (L : Own) (w : World) (hs : St m (xO gx pcs s.b fv re :: e :: L) w) :
    Calls Tryz.prog 95 #[.pointer (some ⟨gx, 0, none⟩), .int .i64 (n : Int)] w fun x w' => x = .panicked (contra n) ∧ St m (xO gx pcs s.b fv re :: e :: L) w' := by
  have hpc0 := hpc
  obtain ⟨BA, bc, RA, rc, rfl, hBA, hRA⟩ := hpc
  have hn : n < p.rules.length := (List.getElem?_eq_some_iff.1 hr).1
  obtain ⟨g3, o3, blk3, T3, fr3, B3, c3, hR1, hR2, hR3, hR4, hR5⟩ := hRA.get hr
  have hx0 := xC_p (pcs := #[Value.slice BA p.bounds.length bc, .slice RA p.rules.length rc]) (b := s.b) (fv := fv) (re := re) rfl
  have hxr : (xC #[Value.slice BA p.bounds.length bc, .slice RA p.rules.length rc] s.b fv re)[0 + 0 + 1]? = some (.slice RA p.rules.length rc) := hx0 1 _ rfl
  have hxb := xC_b (pcs := #[Value.slice BA p.bounds.length bc, .slice RA p.rules.length rc]) (b := s.b) (fv := fv) (re := re) rfl
  have hbs : (bArr s.b).size = 16 := by rw [bArr_size, hI.b.1]
  have hrok := hp.rl r (List.mem_of_getElem? hr)
  have hpo := fun (w : World) (m : Mem) (hT : TabM m) (hB : Sl m 1 B3 (ints r.vars)) (L : Own) (hs : St m L w) => possible_c s.b r B3 c3 hI.b hrok m hT hB L w hs
  unfold rlV at hpo
  have hps2 : (!possB s.b r) = true := by rw [hps]; rfl
  unfold xO at hs ⊢
  refine calls_of_TC (args := [_, _]) Tryz.func95 rfl Tryz.ntmps95 (Nat.le_of_ble_eq_true rfl) hs ?_
  repeat' (first | refine TC.seq ?_ | refine TC.region ?_ | refine TR.nil ?_ | refine Post.then_normal ?_ | (apply TR.ch1 (o := ⟨_, .box _ _, _, _, _, _⟩) ; exact rfl; exact rfl; exact rfl; (first | exact Wd.plain rfl | exact Wd.on rfl rfl rfl); exact EvC.box1 rfl rfl; intro g))
  refine TC.draw_ [.st, .st, .st, .st, .st, .st, .st, .st, .ch] mixed rfl (by kernel_rfl) ?_
  repeat' (first | (apply D.st1; exact rfl; (first | exact Wd.plain rfl | exact Wd.on rfl rfl rfl); (first | exact EvS.fieldAddr rfl | (first | (apply EvS.load1; exact rfl; (first | exact Reads.memX (by assumption) | exact Reads.ownX (by repeat first | exact List.Mem.head _ | assumption | apply List.Mem.tail)); (first | assumption | exact nthL_arr rfl | exact rfl)) | (apply EvS.loadW; exact rfl; (first | exact Reads.memX (by assumption) | exact Reads.ownX (by repeat first | exact List.Mem.head _ | assumption | apply List.Mem.tail)); first | exact rfl | assumption) | (apply EvS.loadH; exact rfl; (first | exact Reads.memX (by assumption) | exact Reads.ownX (by repeat first | exact List.Mem.head _ | assumption | apply List.Mem.tail)); assumption; first | exact rfl | assumption)) | (first | exact EvS.indexAddr rfl rfl (by first | exact rfl | assumption) (by omega) | exact EvS.indexAddrA rfl rfl (by omega)) | exact EvS.nilCheck rfl)) | (apply D.chx (o := ⟨_, .alloc _, _, _, _, _⟩) ; exact rfl; (first | exact Wd.plain rfl | exact Wd.on rfl rfl rfl); exact EvC.alloc; exact inferInstance; exact (by first | exact fun _ _ h => StX.of0 h | exact fun _ _ h => StX.of1 h | exact fun _ _ h => StX.of2 h | exact fun _ _ h => StX.of3 h | exact fun _ _ h => StX.of h); intro g) | refine D.tail_ ?_)
  repeat' (first | refine TC.seq ?_ | refine TR.nil ?_ | refine Post.then_normal ?_ | (apply TR.ch0 (o := ⟨_, .store _ _ _, _, _, _, _⟩) ; exact rfl; exact rfl; (first | exact Wd.plain rfl | exact Wd.on rfl rfl rfl); exact EvC.storeW rfl rfl (by first | exact rfl | assumption) (by first | exact bArr_one _ | exact rfl | (intro v hv; simp at hv; rcases hv with rfl | rfl | rfl | rfl | rfl | rfl | rfl | rfl <;> rfl)) (by repeat first | exact Upd.head | apply Upd.tail) (by first | exact rfl | assumption); rintro ⟨⟩))
  refine TC.draw_ [.st, .st, .st, .st, .st, .ch, .st] mixed rfl (by kernel_rfl) ?_
  repeat' (first | (apply D.chx (o := ⟨_, .call _, _, _, _, _⟩); exact rfl; (first | exact Wd.plain rfl | exact Wd.on rfl rfl rfl); exact EvC.callV rfl rfl (fun w hs => hpo _ _ hT hR4 _ hs); exact inferInstance; exact (by first | exact fun _ _ h => StX.of0 h | exact fun _ _ h => StX.of1 h | exact fun _ _ h => StX.of2 h | exact fun _ _ h => StX.of3 h | exact fun _ _ h => StX.of h); rintro ⟨⟩) | (apply D.st1; exact rfl; (first | exact Wd.plain rfl | exact Wd.on rfl rfl rfl); (first | exact EvS.fieldAddr rfl | (first | (apply EvS.load1; exact rfl; (first | exact Reads.memX (by assumption) | exact Reads.ownX (by repeat first | exact List.Mem.head _ | assumption | apply List.Mem.tail)); (first | assumption | exact nthL_arr rfl | exact rfl)) | (apply EvS.loadW; exact rfl; (first | exact Reads.memX (by assumption) | exact Reads.ownX (by repeat first | exact List.Mem.head _ | assumption | apply List.Mem.tail)); first | exact rfl | assumption) | (apply EvS.loadH; exact rfl; (first | exact Reads.memX (by assumption) | exact Reads.ownX (by repeat first | exact List.Mem.head _ | assumption | apply List.Mem.tail)); assumption; first | exact rfl | assumption)) | (first | exact EvS.not rfl | exact EvS.neg64 rfl (by first | with_reducible exact U64.var _ | exact U64.lit rfl)) | exact EvS.nilCheck rfl)) | refine D.tail_ ?_)
  repeat' (first | (apply TR.panic; exact Wd.plain rfl; exact rfl) | refine TC.region ?_ | refine TR.nil ?_ | refine Post.then_normal ?_ | (apply TC.cond_bt; exact rfl; assumption) | refine Post.then_panic ?_ | (apply TR.st1; exact rfl; exact rfl; exact rfl; (first | exact Wd.plain rfl | exact Wd.on rfl rfl rfl); (first | exact EvS.buildV rfl (by kernel_rfl) | (first | (apply EvS.load1; exact rfl; (first | exact Reads.mem (by assumption) | exact Reads.own (by repeat first | exact List.Mem.head _ | assumption | apply List.Mem.tail)); (first | assumption | exact nthL_arr rfl | exact rfl)) | (apply EvS.loadW; exact rfl; (first | exact Reads.mem (by assumption) | exact Reads.own (by repeat first | exact List.Mem.head _ | assumption | apply List.Mem.tail)); first | exact rfl | assumption) | (apply EvS.loadH; exact rfl; (first | exact Reads.mem (by assumption) | exact Reads.own (by repeat first | exact List.Mem.head _ | assumption | apply List.Mem.tail)); assumption; first | exact rfl | assumption)) | exact EvS.makeInterface rfl)))
  refine Post.body_panic fun w h => ⟨rfl, ?_⟩
  exact h.tail.tail.tail
end Go.Proofs.YtgpgjpcebajofaaGreatDoor
