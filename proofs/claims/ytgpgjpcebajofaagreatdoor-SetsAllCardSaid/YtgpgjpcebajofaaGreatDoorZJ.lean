import Derived.Test.YtgpgjpcebajofaaGreatDoorZI
import Derived.Test.YtgpgjpcebajofaaGreatDoorZH
set_option linter.unusedVariables false
set_option linter.unusedSimpArgs false
set_option linter.all false
set_option maxHeartbeats 4000000
set_option linter.unusedVariables false
set_option linter.unusedSimpArgs false
set_option maxRecDepth 100000
namespace Go.Proofs.YtgpgjpcebajofaaGreatDoor
open Go Go.XC Go.RowKit Go.SetsP
attribute [local irreducible] Post TC TR D WL EvS EvC Wd ResL Code.wpIn Exit.then Exit.inBlock Exit.noGoto LoopK LoopP bodyPostM Reads Calls

/-! ### Rows of sets held against each other -/
def cmpU (x y : BV) : Int := if x.toNat < y.toNat then -1 else if y.toNat < x.toNat then 1 else 0
def lexC : List BV → List BV → Int
  | [], [] => 0
  | [], _ :: _ => -1
  | _ :: _, [] => 1
  | x :: l, y :: k => if cmpU x y = 0 then lexC l k else cmpU x y
theorem isNaN_c (x : BV) (w0 w : World) (hs : w = w0) :
    Calls Tryz.prog 85 #[u64v x] w fun r w' => r = .returned (.bool false) ∧ w' = w0 := by
  unfold u64v
  refine calls_of_TC (S := fun w => w = w0) (args := [_]) Tryz.func85 rfl Tryz.ntmps85 (Nat.le_of_ble_eq_true rfl) hs ?_
  repeat' (first | refine TC.seq ?_ | refine TC.region ?_ | refine TR.nil ?_ | refine Post.then_normal ?_ | refine TC.ret ?_ | (apply a_move; exact a_moves) | (apply a_assign; exact a_assigns) | (apply a_bneq; exact a_bneqs))
  refine Post.body_ret _ (ResL.one rfl (ResV.tmp rfl)) ?_
  exact fun w h => ⟨by simp, h⟩
theorem cmpU_c (x y : BV) (w0 w : World) (hs : w = w0) :
    Calls Tryz.prog 48 #[u64v x, u64v y] w fun r w' => r = .returned (.int .i64 (cmpU x y)) ∧ w' = w0 := by
  unfold u64v
  refine calls_of_TC (S := fun w => w = w0) (args := [_, _]) Tryz.func48 rfl Tryz.ntmps48 (Nat.le_of_ble_eq_true rfl) hs ?_
  repeat' (first | (apply a_call; exact EvC.callS rfl rfl (fun w hs => isNaN_c _ w0 w hs); exact rfl; exact wd; rintro ⟨⟩) | refine TC.seq ?_ | refine TC.region ?_ | refine TR.nil ?_ | refine Post.then_normal ?_ | refine TC.skip ?_ | refine TC.ret ?_ | (apply TC.cond_f; exact rfl) | refine Post.then_ret ?_ | (apply TC.cond; exact rfl; all_goals (intro h)) | (apply a_move; exact a_moves) | (apply a_assign; exact a_assigns) | (apply a_blss; exact a_blsss) | (apply a_bgtr; exact a_bgtrs))
  · refine Post.body_ret _ (ResL.one rfl (ResV.tmp rfl)) ?_
    exact fun w h1 => ⟨by have := of_decide_eq_true h; unfold cmpU; rw [if_pos (by omega)], h1⟩
  · rename_i h0
    refine Post.body_ret _ (ResL.one rfl (ResV.tmp rfl)) ?_
    exact fun w h1 => ⟨by have := of_decide_eq_true h; have := of_decide_eq_false h0; unfold cmpU; rw [if_neg (by omega), if_pos (by omega)], h1⟩
  · rename_i h0
    refine Post.body_ret _ (ResL.one rfl (ResV.tmp rfl)) ?_
    exact fun w h1 => ⟨by have := of_decide_eq_false h; have := of_decide_eq_false h0; unfold cmpU; rw [if_neg (by omega), if_neg (by omega)], h1⟩
theorem cmpU_zero {x y : BV} : cmpU x y = 0 ↔ x = y := by
  unfold cmpU
  constructor
  · intro h
    apply BitVec.eq_of_toNat_eq
    split at h
    · omega
    · split at h
      · omega
      · omega
  · rintro rfl
    simp
theorem compare_c (A C : Option Addr) (ca cc : Nat) (a b : List BV) (m : Mem) (hA : Sl m 1 A (u64s a)) (hB : Sl m 1 C (u64s b)) (w0 : World) (hm : ∀ g o, m.blk g = some o → w0.heap[g]? = some o) (w : World) (hs : w = w0) :
    Calls Tryz.prog 12 #[.slice A a.length ca, .slice C b.length cc] w fun r w' => r = .returned (.int .i64 (lexC a b)) ∧ w' = w0 := by
  have hla : a.length ≤ 140737488355328 := by simpa [u64s] using hA.big
  have hlb : b.length ≤ 140737488355328 := by simpa [u64s] using hB.big
  refine calls_of_TC (S := fun w => w = w0) (args := [_, _]) Tryz.func12 rfl Tryz.ntmps12 (Nat.le_of_ble_eq_true rfl) hs ?_
  repeat' (first | refine TC.seq ?_ | refine TC.region ?_ | refine TR.nil ?_ | refine Post.then_normal ?_ | refine TC.block ?_ | (apply a_move; exact a_moves) | (apply a_assign; exact a_assigns) | (apply a_len; exact a_lens))
  refine TC.loopP (X := Nat) (fun k => k ≤ a.length ∧ k ≤ b.length ∧ lexC a b = lexC (a.drop k) (b.drop k)) (fun k => [(11, .int .i64 (k : Int)), (10, .int .i64 (a.length : Int)), (9, .slice A a.length ca), (0, .slice A a.length ca), (1, .slice C b.length cc)]) (fun _ w => w = w0) (fun k => a.length - k) 0 ⟨by omega, by omega, rfl⟩ inc (fun w h => h) ?_
  rintro k ⟨hk, hkb, hlex⟩
  by_cases hlt : k < a.length
  · obtain ⟨x, hx⟩ : ∃ x, a[k]? = some x := ⟨_, List.getElem?_eq_getElem hlt⟩
    obtain ⟨g1, o1, blk1, T1, fr1, hA1, hm1, hc1⟩ := hA.get1 (k := k) (v := .int .u64 (x.toNat : Int)) (by simp [u64s, u64v, hx])
    have hR1 : Reads (fun w => w = w0) g1 (.cells blk1 T1 fr1) := Reads.eqW (hm _ _ hm1)
    have hd : decide ((k : Int) < (a.length : Int)) = true := by simpa using hlt
    have ea : a.drop k = x :: a.drop (k + 1) := by rw [List.drop_eq_getElem_cons hlt]; congr 1; rw [List.getElem?_eq_getElem hlt] at hx; exact Option.some.inj hx
    by_cases hltb : k < b.length
    · obtain ⟨y, hy⟩ : ∃ y, b[k]? = some y := ⟨_, List.getElem?_eq_getElem hltb⟩
      obtain ⟨g2, o2, blk2, T2, fr2, hA2, hm2, hc2⟩ := hB.get1 (k := k) (v := .int .u64 (y.toNat : Int)) (by simp [u64s, u64v, hy])
      have hR2 : Reads (fun w => w = w0) g2 (.cells blk2 T2 fr2) := Reads.eqW (hm _ _ hm2)
      have hd2 : decide ((k : Int) ≥ (b.length : Int)) = false := by simp; omega
      have eb : b.drop k = y :: b.drop (k + 1) := by rw [List.drop_eq_getElem_cons hltb]; congr 1; rw [List.getElem?_eq_getElem hltb] at hy; exact Option.some.inj hy
      rw [ea, eb] at hlex
      rw [show lexC (x :: a.drop (k + 1)) (y :: b.drop (k + 1)) = if cmpU x y = 0 then lexC (a.drop (k + 1)) (b.drop (k + 1)) else cmpU x y from rfl] at hlex
      clear hm1 hm2
      repeat' (first | (apply a_call; exact EvC.callS rfl rfl (fun w hs => cmpU_c x y w0 w hs); exact rfl; exact wd; rintro ⟨⟩) | refine TC.seq ?_ | refine TC.region ?_ | refine TR.nil ?_ | refine Post.then_normal ?_ | refine TC.block ?_ | refine TC.skip ?_ | refine TC.ret ?_ | (apply TC.cond_bt; exact rfl; assumption) | (apply TC.cond_bf; exact rfl; assumption) | refine Post.then_ret ?_ | refine Post.block_normal ?_ | refine Post.block_ret ?_ | (apply TC.cond; exact rfl; all_goals (intro h)) | (apply a_move; exact a_moves) | (apply a_assign; exact a_assigns) | (apply a_load; exact a_loads) | (apply a_len; exact a_lens) | (apply a_bneq; exact a_bneqs) | (apply a_blss; exact a_blsss) | (apply a_bgeq; exact a_bgeqs) | (apply a_badd; exact a_badds) | (apply a_indexAddr; exact a_indexAddrs))
      · have hne : cmpU x y ≠ 0 := by simpa using h
        rw [if_neg hne] at hlex
        refine Post.body_ret _ (ResL.one rfl (ResV.tmp rfl)) ?_
        exact fun w h1 => ⟨by rw [hlex], h1⟩
      · have he : cmpU x y = 0 := by simpa using h
        rw [if_pos he] at hlex
        refine Post.nextP (k + 1) ⟨?_, ?_, hlex⟩ inc (fun w h => h) ?_
        · omega
        · omega
        · omega
    · have hd2 : decide ((k : Int) ≥ (b.length : Int)) = true := by simp; omega
      rw [ea, List.drop_eq_nil_of_le (by omega : b.length ≤ k)] at hlex
      clear hm1
      repeat' (first | refine TC.seq ?_ | refine TC.region ?_ | refine TR.nil ?_ | refine Post.then_normal ?_ | refine TC.block ?_ | refine TC.skip ?_ | refine TC.ret ?_ | (apply TC.cond_bt; exact rfl; assumption) | refine Post.then_ret ?_ | refine Post.block_ret ?_ | (apply a_move; exact a_moves) | (apply a_assign; exact a_assigns) | (apply a_load; exact a_loads) | (apply a_len; exact a_lens) | (apply a_blss; exact a_blsss) | (apply a_bgeq; exact a_bgeqs) | (apply a_indexAddr; exact a_indexAddrs))
      refine Post.body_ret _ (ResL.one rfl (ResV.tmp rfl)) ?_
      exact fun w h1 => ⟨by rw [hlex]; rfl, h1⟩
  · have hd : decide ((k : Int) < (a.length : Int)) = false := by simpa using hlt
    rw [List.drop_eq_nil_of_le (by omega : a.length ≤ k)] at hlex
    by_cases hltb : k < b.length
    · have hd2 : decide ((a.length : Int) < (b.length : Int)) = true := by simp; omega
      rw [List.drop_eq_getElem_cons hltb] at hlex
      repeat' (first | refine TC.seq ?_ | refine TC.region ?_ | refine TR.nil ?_ | refine Post.then_normal ?_ | refine TC.ret ?_ | refine TC.exit ?_ | (apply TC.cond_bt; exact rfl; assumption) | (apply TC.cond_bf; exact rfl; assumption) | refine Post.then_ret ?_ | refine Post.then_exit ?_ | refine Post.block_here ?_ | (apply a_move; exact a_moves) | (apply a_assign; exact a_assigns) | (apply a_len; exact a_lens) | (apply a_blss; exact a_blsss))
      refine Post.body_ret _ (ResL.one rfl (ResV.tmp rfl)) ?_
      exact fun w h1 => ⟨by rw [hlex]; rfl, h1⟩
    · have hd2 : decide ((a.length : Int) < (b.length : Int)) = false := by simp; omega
      rw [List.drop_eq_nil_of_le (by omega : b.length ≤ k)] at hlex
      repeat' (first | refine TC.seq ?_ | refine TC.region ?_ | refine TR.nil ?_ | refine Post.then_normal ?_ | refine TC.skip ?_ | refine TC.ret ?_ | refine TC.exit ?_ | (apply TC.cond_bf; exact rfl; assumption) | refine Post.then_exit ?_ | refine Post.block_here ?_ | (apply a_move; exact a_moves) | (apply a_assign; exact a_assigns) | (apply a_len; exact a_lens) | (apply a_blss; exact a_blsss))
      refine Post.body_ret _ (ResL.one rfl (ResV.tmp rfl)) ?_
      exact fun w h1 => ⟨by rw [hlex]; rfl, h1⟩
theorem equalU_c (A C : Option Addr) (ca cc : Nat) (a b : List BV) (m : Mem) (hA : Sl m 1 A (u64s a)) (hB : Sl m 1 C (u64s b)) (L : Own) (w : World) (hs : St m L w) :
    Calls Tryz.prog 32 #[.slice A a.length ca, .slice C b.length cc] w fun x w' => x = .returned (.bool (decide (a = b))) ∧ St m L w' := by
  have hl : a.length ≤ 140737488355328 := by simpa [u64s] using hA.big
  refine calls_of_TC (args := [_, _]) Tryz.func32 rfl Tryz.ntmps32 (Nat.le_of_ble_eq_true rfl) hs ?_
  repeat' (first | refine TC.seq ?_ | refine TC.region ?_ | refine TR.nil ?_ | refine Post.then_normal ?_ | refine TC.block ?_ | refine TC.skip ?_ | refine TC.ret ?_ | refine Post.then_ret ?_ | (apply TC.cond; exact rfl; all_goals (intro h)) | (apply a_move; exact a_moves) | (apply a_assign; exact a_assigns) | (apply a_len; exact a_lens) | (apply a_bneq; exact a_bneqs))
  · (refine Post.body_ret _ (ResL.one rfl (ResV.tmp rfl)) ?_; intro wR hR; exact ⟨by congr 2; symm; rw [decide_eq_false_iff_not]; rintro rfl; simp at h, (by repeat first | exact hR | replace hR := hR.tail)⟩)
  have hab : a.length = b.length := by have : (a.length : Int) = b.length := by simpa [bne] using h
                                       omega
  refine TC.loopP (X := Nat) (fun k => k ≤ a.length ∧ ∀ j, j < k → a[j]? = b[j]?) (fun k => [(13, .int .i64 (k : Int)), (12, .int .i64 (a.length : Int)), (0, .slice A a.length ca), (1, .slice C b.length cc)]) (fun _ => St m L) (fun k => a.length - k) 0 ⟨by omega, fun j h => by omega⟩ inc (fun w h => h) ?_
  rintro k ⟨hk, hno⟩
  by_cases hlt : k < a.length
  · obtain ⟨x, hx⟩ : ∃ x, a[k]? = some x := ⟨_, List.getElem?_eq_getElem hlt⟩
    obtain ⟨y, hy⟩ : ∃ y, b[k]? = some y := ⟨_, List.getElem?_eq_getElem (by omega)⟩
    obtain ⟨g1, o1, blk1, T1, fr1, hA1, hm1, hc1⟩ := hA.get1 (k := k) (v := .int .u64 (x.toNat : Int)) (by simp [u64s, u64v, hx])
    obtain ⟨g2, o2, blk2, T2, fr2, hA2, hm2, hc2⟩ := hB.get1 (k := k) (v := .int .u64 (y.toNat : Int)) (by simp [u64s, u64v, hy])
    have hd : decide ((k : Int) < (a.length : Int)) = true := by simpa using hlt
    repeat' (first | refine TC.seq ?_ | refine TC.region ?_ | refine TR.nil ?_ | refine Post.then_normal ?_ | refine TC.block ?_ | refine TC.skip ?_ | refine TC.ret ?_ | (apply TC.cond_bt; exact rfl; assumption) | refine Post.then_ret ?_ | refine Post.block_normal ?_ | refine Post.block_ret ?_ | (apply TC.cond; exact rfl; all_goals (intro h)) | (apply a_move; exact a_moves) | (apply a_assign; exact a_assigns) | (apply a_blss; exact a_blsss) | (apply a_badd; exact a_badds) | (apply TC.drawW mixed) | (apply DW.nil; kernel_rfl) | (apply e_move; exact d_moves) | (apply e_load; exact d_loads) | (apply e_bneq; exact d_bneqs) | (apply e_indexAddr; exact d_indexAddrs))
    · have hne := h
      (refine Post.body_ret _ (ResL.one rfl (ResV.tmp rfl)) ?_; intro wR hR; exact ⟨by congr 2; symm; rw [decide_eq_false_iff_not]; rintro rfl; rw [hx] at hy; cases hy; simp at hne, (by repeat first | exact hR | replace hR := hR.tail)⟩)
    · have hne := h
      have hxy : x = y := by simpa [bne] using hne
      refine Post.nextP (k + 1) ⟨by omega, fun j hj => ?_⟩ inc (fun w h => h) (by omega)
      by_cases e : j = k
      · subst e; rw [hx, hy, hxy]
      · exact hno j (by omega)
  · have hd : decide ((k : Int) < (a.length : Int)) = false := by simpa using hlt
    obtain rfl : k = a.length := by omega
    repeat' (first | refine TC.seq ?_ | refine TC.region ?_ | refine TR.nil ?_ | refine Post.then_normal ?_ | refine TC.ret ?_ | refine TC.exit ?_ | (apply TC.cond_bf; exact rfl; assumption) | refine Post.then_exit ?_ | refine Post.block_here ?_ | (apply a_assign; exact a_assigns) | (apply a_blss; exact a_blsss))
    have hall : a = b := List.ext_getElem? fun i => by
      by_cases hi : i < a.length
      · exact hno i hi
      · rw [List.getElem?_eq_none (by omega), List.getElem?_eq_none (by omega)]
    (refine Post.body_ret _ (ResL.one rfl (ResV.tmp rfl)) ?_; intro wR hR; exact ⟨by rw [decide_eq_true hall], (by repeat first | exact hR | replace hR := hR.tail)⟩)
theorem indexL_c (f : FuncId) (cap : Array Value) [hf : EntersF Tryz.prog f] (p : List BV → Bool) (A : Option Addr) (c : Nat) (l : List (List BV)) (m : Mem) (L : Own) (w : World) (hs : St m L w) (hA : SolS m A l)
    (hp : ∀ x, x ∈ l → ∀ B cb, Sl m 1 B (u64s x) → ∀ w, St m L w → Calls Tryz.prog f (#[.slice B x.length cb] ++ cap) w fun r w' => r = .returned (.bool (p x)) ∧ St m L w') :
    Calls Tryz.prog 67 #[.slice A l.length c, .func (.func f) #[] cap] w fun r w' => r = .returned (.int .i64 (idx p l)) ∧ St m L w' := by
  have hbig : l.length ≤ 140737488355328 := hA.big
  refine calls_of_TC (args := [_, _]) Tryz.func67 rfl Tryz.ntmps67 (Nat.le_of_ble_eq_true rfl) hs ?_
  repeat' (first | refine TC.seq ?_ | refine TC.region ?_ | refine TR.nil ?_ | refine Post.then_normal ?_ | refine TC.block ?_ | (apply a_move; exact a_moves) | (apply a_assign; exact a_assigns) | (apply a_len; exact a_lens))
  refine TC.loopP (X := Nat) (fun k => k ≤ l.length ∧ ∀ j y, j < k → l[j]? = some y → p y = false) (fun k => [(8, .int .i64 (k : Int)), (7, .int .i64 (l.length : Int)), (0, .slice A l.length c), (1, .func (.func f) #[] cap)]) (fun _ => St m L) (fun k => l.length - k) 0 ⟨by omega, fun j y h => by omega⟩ inc (fun w h => h) ?_
  rintro k ⟨hk, hno⟩
  by_cases hlt : k < l.length
  · obtain ⟨x, hx⟩ : ∃ x, l[k]? = some x := ⟨_, List.getElem?_eq_getElem hlt⟩
    obtain ⟨g, o, blk, T, fr, W, cw, hAe, hm, hc, hW⟩ := hA.get hx
    have hd : decide ((k : Int) < (l.length : Int)) = true := by simpa using hlt
    repeat' (first | (apply a_call; exact EvC.callC rfl rfl (fun w hs => hp x (List.mem_of_getElem? hx) _ _ hW w hs); exact rfl; exact wd; rintro ⟨⟩) | refine TC.seq ?_ | refine TC.region ?_ | refine TR.nil ?_ | refine Post.then_normal ?_ | refine TC.block ?_ | refine TC.skip ?_ | refine TC.ret ?_ | (apply TC.cond_bt; exact rfl; assumption) | refine Post.then_ret ?_ | refine Post.block_normal ?_ | refine Post.block_ret ?_ | (apply TC.cond; exact rfl; all_goals (intro h)) | (apply a_move; exact a_moves) | (apply a_assign; exact a_assigns) | (apply a_load; exact a_loads) | (apply a_blss; exact a_blsss) | (apply a_badd; exact a_badds) | (apply a_indexAddr; exact a_indexAddrs))
    · refine Post.body_ret _ (ResL.one rfl (ResV.tmp rfl)) fun w h => ⟨?_, h⟩
      rw [idx_found hx (by assumption) hno]
    · refine Post.nextP (k + 1) ⟨by omega, fun j y hj hy => ?_⟩ inc (fun w h => h) (by omega)
      by_cases e : j = k
      · subst e; rw [hx] at hy; cases hy; assumption
      · exact hno j y (by omega) hy
  · have hd : decide ((k : Int) < (l.length : Int)) = false := by simpa using hlt
    repeat' (first | refine TC.seq ?_ | refine TC.region ?_ | refine TR.nil ?_ | refine Post.then_normal ?_ | refine TC.ret ?_ | refine TC.exit ?_ | (apply TC.cond_bf; exact rfl; assumption) | refine Post.then_exit ?_ | refine Post.block_here ?_ | (apply a_assign; exact a_assigns) | (apply a_blss; exact a_blsss))
    refine Post.body_ret _ (ResL.one rfl (ResV.tmp rfl)) fun w h => ⟨?_, h⟩
    rw [idx_none]
    intro j y hj
    exact hno j y (by omega)
theorem containsL_c (f : FuncId) (cap : Array Value) [hf : EntersF Tryz.prog f] (p : List BV → Bool) (A : Option Addr) (c : Nat) (l : List (List BV)) (m : Mem) (L : Own) (w : World) (hs : St m L w) (hA : SolS m A l)
    (hp : ∀ x, x ∈ l → ∀ B cb, Sl m 1 B (u64s x) → ∀ w, St m L w → Calls Tryz.prog f (#[.slice B x.length cb] ++ cap) w fun r w' => r = .returned (.bool (p x)) ∧ St m L w') :
    Calls Tryz.prog 30 #[.slice A l.length c, .func (.func f) #[] cap] w fun r w' => r = .returned (.bool (l.any p)) ∧ St m L w' := by
  refine calls_of_TC (args := [_, _]) Tryz.func30 rfl Tryz.ntmps30 (Nat.le_of_ble_eq_true rfl) hs ?_
  repeat' (first | (apply a_call; exact EvC.callV rfl rfl (fun w hs => indexL_c f cap p _ _ _ _ _ _ hs hA hp); exact rfl; exact wd; rintro ⟨⟩) | refine TC.seq ?_ | refine TC.region ?_ | refine TR.nil ?_ | refine Post.then_normal ?_ | refine TC.ret ?_ | (apply a_move; exact a_moves) | (apply a_assign; exact a_assigns) | (apply a_bgeq; exact a_bgeqs))
  (refine Post.body_ret _ (ResL.one rfl (ResV.tmp rfl)) ?_; intro wR hR; exact ⟨by rw [idx_nonneg], (by repeat first | exact hR | replace hR := hR.tail)⟩)
end Go.Proofs.YtgpgjpcebajofaaGreatDoor
set_option maxHeartbeats 4000000
set_option linter.unusedVariables false
set_option linter.unusedSimpArgs false
set_option maxRecDepth 100000
namespace Go.Proofs.YtgpgjpcebajofaaGreatDoor
open Go Go.XC Go.RowKit Go.SetsP
attribute [local irreducible] Post TC TR D WL EvS EvC Wd ResL Code.wpIn Exit.then Exit.inBlock Exit.noGoto LoopK LoopP bodyPostM Reads Calls

section
variable {P : Program} {N : Nat} {E : Env} {Sb : World → Prop} {d : Option Tmp} {ty t : TypeId} {pos : String} {aft : Array Edge} {gd : Option (Nat × Bool)} {x y : Operand} {k : IntKind} {yT : TypeId}
theorem EvS.remI {a b : Nat} (hx : evE E x = some (.int k (a : Int))) (hy : evE E y = some (.int k (b : Int))) (hb : 0 < b) : EvS P N ⟨d, .binOp .rem t x y yT, ty, pos, aft, gd⟩ E Sb (.int k ((a % b : Nat) : Int)) :=
  EvS.binOp hx hy rfl fun w => by
    have h0 : ¬ (b = 0) := by omega
    simp [Go.binOp, Op.intDiv, h0, Int.tmod_eq_emod_of_nonneg]
end
theorem u64s_none {m : Mem} {l : List BV} (h : Sl m 1 none (u64s l)) : l = [] := by
  cases l with
  | nil => rfl
  | cons x l =>
    obtain ⟨g, o, _, _, _, h1, _⟩ := h.at_ (by simp [u64s])
    cases h1
theorem u64s_len (l : List BV) : ∀ cs, cs ∈ u64s l → cs.length = 1 := by
  intro cs h
  obtain ⟨x, _, rfl⟩ := List.mem_map.1 h
  rfl
theorem u64s_flat (l : List BV) : (u64s l).flatten = l.map u64v := by induction l <;> simp_all [u64s]
theorem u64s_one (l : List BV) : ∀ v, v ∈ (u64s l).flatten → v.oneCell' = true := by
  intro v hv
  rw [u64s_flat] at hv
  obtain ⟨x, _, rfl⟩ := List.mem_map.1 hv
  rfl
/-- A row of sets of the call's own. -/
def URow (v : Value) (l : List BV) (e : Option (Nat × Obj)) : Prop := OwnRow v 39 1 l.length (u64s l).flatten e
theorem cloneU_c (A : Option Addr) (c : Nat) (l : List BV) (hl : l.length ≤ 100000) (m : Mem) (L : Own) (w : World) (hs : St m L w) (hA : Sl m 1 A (u64s l)) :
    Calls Tryz.prog 42 #[.slice A l.length c] w fun r w' => ∃ p : { p : Value × Option (Nat × Obj) // URow p.1 l p.2 }, r = .returned p.1.1 ∧ St m (p.1.2 :: L) w' := by
  have hnews : (u64s l).flatten.length = l.length * 1 := by rw [u64s_flat]; simp
  cases A with
  | none =>
    have := u64s_none hA
    subst this
    refine calls_of_TC (args := [_]) Tryz.func42 rfl Tryz.ntmps42 (Nat.le_of_ble_eq_true rfl) hs ?_
    repeat' (first | refine TC.seq ?_ | refine TC.region ?_ | refine TR.nil ?_ | refine Post.then_normal ?_ | refine TC.ret ?_ | (apply TC.cond_t; exact rfl) | refine Post.then_ret ?_ | (apply TR.st1 (o := ⟨_, _, _, _, _, _⟩); exact rfl; exact rfl; exact rfl; (first | exact Wd.plain rfl | exact Wd.on rfl rfl rfl); exact EvS.eqNilS rfl rfl) | (apply a_move; exact a_moves) | (apply a_assign; exact a_assigns))
    refine Post.body_ret _ (ResL.one rfl (ResV.tmp rfl)) ?_
    exact fun w h => ⟨⟨(_, none), .inl ⟨rfl, rfl, rfl, rfl⟩⟩, rfl, h.addNone⟩
  | some ad =>
    refine calls_of_TC (args := [_]) Tryz.func42 rfl Tryz.ntmps42 (Nat.le_of_ble_eq_true rfl) hs ?_
    repeat' (first | (apply TR.ch1; exact rfl; exact rfl; exact rfl; exact wd; exact EvC.buildS0; rintro g) | refine TC.seq ?_ | refine TC.region ?_ | refine TR.nil ?_ | refine Post.then_normal ?_ | refine TC.skip ?_ | (apply TC.cond_f; exact rfl) | (apply TR.st1 (o := ⟨_, _, _, _, _, _⟩); exact rfl; exact rfl; exact rfl; (first | exact Wd.plain rfl | exact Wd.on rfl rfl rfl); exact EvS.eqNilS rfl rfl) | (apply a_move; exact a_moves) | (apply a_assign; exact a_assigns))
    refine TR.ch1 rfl rfl rfl (by first | exact Wd.plain rfl | exact Wd.on rfl rfl rfl) (EvC.append (xs := []) (news := (u64s l).flatten) rfl rfl (OwnRow.lit (n := 0) (cs := #[]) rfl (by decide)) Rep1.head hA.rdc hnews (u64s_one l) rfl (by decide) (by omega) _ (fun e2 => Rep1.head)) ?_
    rintro ⟨⟨v, e⟩, hp⟩
    simp only at hp ⊢
    rw [Nat.zero_add, List.nil_append] at hp
    repeat' (first | refine TR.nil ?_ | refine Post.then_normal ?_ | refine TC.ret ?_ | (apply a_assign; exact a_assigns))
    refine Post.body_ret _ (ResL.one rfl (ResV.tmp rfl)) ?_
    exact fun w h => ⟨⟨(v, e), hp⟩, rfl, h⟩
theorem SolS.one {m : Mem} {l : List (List BV)} {css : List (List Value)} (h2 : css.length = l.length) (h3 : ∀ (k : Nat) (x : List BV) (cs : List Value), l[k]? = some x → css[k]? = some cs → SolC m x cs) : (∀ cs, cs ∈ css → cs.length = 1) ∧ ∀ v, v ∈ css.flatten → v.oneCell' = true := by
  have key : ∀ cs, cs ∈ css → ∃ W n c, cs = [.slice W n c] := fun cs hc => by
    obtain ⟨k, hk, rfl⟩ := List.mem_iff_getElem.1 hc
    obtain ⟨W, c, e, _⟩ := h3 k _ _ (List.getElem?_eq_getElem (by rw [← h2]; exact hk)) (List.getElem?_eq_getElem hk)
    exact ⟨_, _, _, e⟩
  refine ⟨fun cs hc => by obtain ⟨W, n, c, rfl⟩ := key cs hc; rfl, fun v hv => ?_⟩
  obtain ⟨cs, hc, hv⟩ := List.mem_flatten.1 hv
  obtain ⟨W, n, c, rfl⟩ := key cs hc
  rw [List.mem_singleton.1 hv]; rfl
theorem cloneL_c (A : Option Addr) (c : Nat) (l : List (List BV)) (hl : l.length ≤ 100000) (m : Mem) (L : Own) (w : World) (hs : St m L w) (hA : SolS m A l) :
    Calls Tryz.prog 10 #[.slice A l.length c] w fun r w' => ∃ p : { p : Value × Option (Nat × Obj) // SRow m p.1 l p.2 }, r = .returned p.1.1 ∧ St m (p.1.2 :: L) w' := by
  obtain ⟨css, h1, h2, h3⟩ := hA
  obtain ⟨hlen, hone⟩ := SolS.one h2 h3
  have hnews : css.flatten.length = l.length * 1 := by rw [flatten_length hlen, h2]
  cases A with
  | none =>
    have h0 : l = [] := by
      cases css with
      | nil => exact List.eq_nil_of_length_eq_zero h2.symm
      | cons x t =>
        obtain ⟨g, o, _, _, _, h1, _⟩ := h1.at_ (by simp)
        cases h1
    subst h0
    refine calls_of_TC (args := [_]) Tryz.func10 rfl Tryz.ntmps10 (Nat.le_of_ble_eq_true rfl) hs ?_
    repeat' (first | refine TC.seq ?_ | refine TC.region ?_ | refine TR.nil ?_ | refine Post.then_normal ?_ | refine TC.ret ?_ | (apply TC.cond_t; exact rfl) | refine Post.then_ret ?_ | (apply TR.st1 (o := ⟨_, _, _, _, _, _⟩); exact rfl; exact rfl; exact rfl; (first | exact Wd.plain rfl | exact Wd.on rfl rfl rfl); exact EvS.eqNilS rfl rfl) | (apply a_move; exact a_moves) | (apply a_assign; exact a_assigns))
    refine Post.body_ret _ (ResL.one rfl (ResV.tmp rfl)) ?_
    exact fun w h => ⟨⟨(_, none), [], .inl ⟨rfl, rfl, rfl, rfl⟩, rfl, fun k l cs h => by simp at h⟩, rfl, h.addNone⟩
  | some ad =>
    refine calls_of_TC (args := [_]) Tryz.func10 rfl Tryz.ntmps10 (Nat.le_of_ble_eq_true rfl) hs ?_
    repeat' (first | (apply TR.ch1; exact rfl; exact rfl; exact rfl; exact wd; exact EvC.buildS0; rintro g) | refine TC.seq ?_ | refine TC.region ?_ | refine TR.nil ?_ | refine Post.then_normal ?_ | refine TC.skip ?_ | (apply TC.cond_f; exact rfl) | (apply TR.st1 (o := ⟨_, _, _, _, _, _⟩); exact rfl; exact rfl; exact rfl; (first | exact Wd.plain rfl | exact Wd.on rfl rfl rfl); exact EvS.eqNilS rfl rfl) | (apply a_move; exact a_moves) | (apply a_assign; exact a_assigns))
    refine TR.ch1 rfl rfl rfl (by first | exact Wd.plain rfl | exact Wd.on rfl rfl rfl) (EvC.append (xs := []) (news := css.flatten) rfl rfl (OwnRow.lit (n := 0) (cs := #[]) rfl (by decide)) Rep1.head h1.rdc hnews hone rfl (by decide) (by omega) _ (fun e2 => Rep1.head)) ?_
    rintro ⟨⟨v, e⟩, hp⟩
    simp only at hp ⊢
    rw [Nat.zero_add, List.nil_append] at hp
    repeat' (first | refine TR.nil ?_ | refine Post.then_normal ?_ | refine TC.ret ?_ | (apply a_assign; exact a_assigns))
    refine Post.body_ret _ (ResL.one rfl (ResV.tmp rfl)) ?_
    exact fun w h => ⟨⟨(v, e), css, hp, h2, h3⟩, rfl, h⟩

def betweenB (b : List Bd) (l : List BV) : Bool := b.zipIdx.all fun x => ((x.1.lo &&& ~~~(l.getD x.2 0#64)) == 0#64) && ((l.getD x.2 0#64 &&& ~~~x.1.can) == 0#64)
theorem between_c (A C : Option Addr) (ca cc : Nat) (b : List Bd) (l : List BV) (hl : l.length = b.length) (m : Mem) (hA : Sl m 2 A (bds b)) (hB : Sl m 1 C (u64s l)) (L : Own) (w : World) (hs : St m L w) :
    Calls Tryz.prog 26 #[.slice A b.length ca, .slice C l.length cc] w fun x w' => x = .returned (.bool (betweenB b l)) ∧ St m L w' := by
  have hbig : b.length ≤ 140737488355328 := by simpa [bds] using hA.big
  refine calls_of_TC (args := [_, _]) Tryz.func26 rfl Tryz.ntmps26 (Nat.le_of_ble_eq_true rfl) hs ?_
  repeat' (first | refine TC.seq ?_ | refine TC.region ?_ | refine TR.nil ?_ | refine Post.then_normal ?_ | refine TC.block ?_ | (apply a_move; exact a_moves) | (apply a_assign; exact a_assigns) | (apply a_len; exact a_lens))
  refine TC.loopP (X := Nat) (fun k => k ≤ b.length ∧ ∀ j y, j < k → b[j]? = some y → ((y.lo &&& ~~~(l.getD j 0#64)) == 0#64) = true ∧ ((l.getD j 0#64 &&& ~~~y.can) == 0#64) = true) (fun k => [(9, .int .i64 (k : Int)), (8, .int .i64 (b.length : Int)), (7, .slice A b.length ca), (1, .slice C l.length cc)]) (fun _ => St m L) (fun k => b.length - k) 0 ⟨by omega, fun j y h => by omega⟩ inc (fun w h => h) ?_
  rintro k ⟨hk, hno⟩
  by_cases hlt : k < b.length
  · obtain ⟨y, hy⟩ : ∃ y, b[k]? = some y := ⟨_, List.getElem?_eq_getElem hlt⟩
    obtain ⟨s, hsx⟩ : ∃ s, l[k]? = some s := ⟨_, List.getElem?_eq_getElem (by omega)⟩
    obtain ⟨g1, o1, blk1, T1, fr1, hA1, hm1, hc1⟩ := hA.get (k := k) (cs := bdC y) (by simp [bds, hy])
    replace hc1 : CellsAt blk1 (o1 + (k : Int).toNat * 2) #[.int .u64 (y.lo.toNat : Int), .int .u64 (y.can.toNat : Int)] := hc1
    obtain ⟨g2, o2, blk2, T2, fr2, hA2, hm2, hc2⟩ := hB.get1 (k := k) (v := .int .u64 (s.toNat : Int)) (by simp [u64s, u64v, hsx])
    have hd : decide ((k : Int) < (b.length : Int)) = true := by simpa using hlt
    have hg : l.getD k 0#64 = s := by rw [List.getD_eq_getElem?_getD, hsx]; rfl
    have hbad : (((y.lo &&& ~~~s) == 0#64) && ((s &&& ~~~y.can) == 0#64)) = false → betweenB b l = false := fun h => by
      unfold betweenB
      rw [List.all_eq_false]
      exact ⟨(y, k), List.mk_mem_zipIdx_iff_getElem?.2 hy, by rw [hg, h]; simp⟩
    by_cases h1 : ((y.lo &&& ~~~s) != 0#64) = true
    · have h1' : ((y.lo &&& ~~~s) == 0#64) = false := by simpa [bne] using h1
      repeat' (first | rw [h1] | refine TC.seq ?_ | refine TC.region ?_ | refine TR.nil ?_ | refine Post.then_normal ?_ | refine TC.block ?_ | refine TC.skip ?_ | refine TC.ret ?_ | (apply TC.cond_t; exact rfl) | (apply TC.cond_bt; exact rfl; assumption) | refine Post.then_ret ?_ | refine Post.block_ret ?_ | (apply a_move; exact a_moves) | (apply a_assign; exact a_assigns) | (apply a_load; exact a_loads) | (apply a_blss; exact a_blsss) | (apply a_indexAddr; exact a_indexAddrs) | (apply c_alloc; exact c_allocs; exact rfl; intro g) | (apply c_storeW; exact c_storeWs; rintro ⟨⟩) | (apply TC.drawW mixed) | (apply DW.nil; kernel_rfl) | (apply e_sk; exact a_sks) | (apply e_move; exact d_moves) | (apply e_fieldAddr; exact d_fieldAddrs) | (apply e_load; exact d_loads) | (apply e_bneq; exact d_bneqs) | (apply e_bandNot; exact d_bandNots) | (apply e_pick; exact d_picks) | (apply e_indexAddr; exact d_indexAddrs))
      refine Post.body_ret _ (ResL.one rfl (ResV.tmp rfl)) ?_
      exact fun w h => ⟨by rw [hbad (by rw [h1']; rfl)], h.tail⟩
    · rw [Bool.not_eq_true] at h1
      have h1' : ((y.lo &&& ~~~s) == 0#64) = true := by simpa [bne] using h1
      repeat' (first | rw [h1] | refine TC.seq ?_ | refine TC.region ?_ | refine TR.nil ?_ | refine Post.then_normal ?_ | refine TC.block ?_ | refine TC.skip ?_ | refine TC.ret ?_ | (apply TC.cond_bt; exact rfl; assumption) | refine Post.then_ret ?_ | refine Post.block_normal ?_ | refine Post.block_ret ?_ | (apply TC.cond; exact rfl; all_goals (intro h)) | (apply a_move; exact a_moves) | (apply a_assign; exact a_assigns) | (apply a_load; exact a_loads) | (apply a_blss; exact a_blsss) | (apply a_badd; exact a_badds) | (apply a_indexAddr; exact a_indexAddrs) | (apply c_alloc; exact c_allocs; exact rfl; intro g) | (apply c_storeW; exact c_storeWs; rintro ⟨⟩) | (apply TC.drawW mixed) | (apply DW.nil; kernel_rfl) | (apply e_move; exact d_moves) | (apply e_fieldAddr; exact d_fieldAddrs) | (apply e_load; exact d_loads) | (apply e_bneq; exact d_bneqs) | (apply e_bandNot; exact d_bandNots) | (apply e_pick; exact d_picks) | (apply e_indexAddr; exact d_indexAddrs))
      · have h2 := h
        have h2' : ((s &&& ~~~y.can) == 0#64) = false := by simpa [bne] using h2
        refine Post.body_ret _ (ResL.one rfl (ResV.tmp rfl)) ?_
        exact fun w h => ⟨by rw [hbad (by rw [h1', h2']; rfl)], h.tail⟩
      · have h2 := h
        have h2' : ((s &&& ~~~y.can) == 0#64) = true := by simpa [bne] using h2
        refine Post.nextP (k + 1) ⟨by omega, fun j z hj hz => ?_⟩ inc (fun w h => h.tail) (by omega)
        by_cases e : j = k
        · subst e; rw [hy] at hz; cases hz; rw [hg]; exact ⟨h1', h2'⟩
        · exact hno j z (by omega) hz
  · have hd : decide ((k : Int) < (b.length : Int)) = false := by simpa using hlt
    have hall : betweenB b l = true := by
      unfold betweenB
      rw [List.all_eq_true]
      rintro ⟨y, j⟩ hx
      have hx' := List.mk_mem_zipIdx_iff_getElem?.1 hx
      have := hno j y (by have := (List.getElem?_eq_some_iff.1 hx').1; omega) hx'
      rw [Bool.and_eq_true]; exact this
    repeat' (first | refine TC.seq ?_ | refine TC.region ?_ | refine TR.nil ?_ | refine Post.then_normal ?_ | refine TC.ret ?_ | refine TC.exit ?_ | (apply TC.cond_bf; exact rfl; assumption) | refine Post.then_exit ?_ | refine Post.block_here ?_ | (apply a_assign; exact a_assigns) | (apply a_blss; exact a_blsss))
    (refine Post.body_ret _ (ResL.one rfl (ResV.tmp rfl)) ?_; intro wR hR; exact ⟨by rw [hall], (by repeat first | exact hR | replace hR := hR.tail)⟩)
theorem fine_c (p : Pb) (pcs : Array Value) (m : Mem) (hpc : PbC m p pcs) (L : Own) (w : World) (hs : St m L w) :
    Calls Tryz.prog 4 #[.agg pcs] w fun x w' => x = .returned (.bool (smallB p && checkB p)) ∧ St m L w' := by
  have hpc0 := hpc
  have h2 : pcs.size = 2 := by obtain ⟨BA, bc, RA, rc, rfl, _⟩ := hpc; rfl
  obtain ⟨BA, bc, RA, rc, rfl, hBA, hRA⟩ := hpc
  cases hb : smallB p with
  | false =>
    refine calls_of_TC (args := [_]) Tryz.func4 rfl Tryz.ntmps4 (Nat.le_of_ble_eq_true rfl) hs ?_
    repeat' (first | (apply a_call; exact EvC.callV rfl rfl (fun w hs => (by have := small_c p _ m hpc0 _ w hs; rw [hb] at this; exact this)); exact rfl; exact wd; rintro ⟨⟩) | refine TC.seq ?_ | refine TC.region ?_ | refine TR.nil ?_ | refine Post.then_normal ?_ | refine TC.ret ?_ | (apply a_sk; exact a_sks) | (apply a_gf; exact a_gss; (first | exact rfl | assumption)) | (apply a_assign; exact a_assigns) | (apply a_load; exact a_loads) | (apply a_pick; exact a_picks) | (apply c_boxA; exact c_boxAs; exact rfl; intro g))
    (refine Post.body_ret _ (ResL.one rfl (ResV.tmp rfl)) ?_; intro wR hR; exact ⟨rfl, (by repeat first | exact hR | replace hR := hR.tail)⟩)
  | true =>
    have hlen : p.bounds.length ≤ 9 ∧ p.rules.length ≤ 13 := by
      unfold smallB at hb
      rw [Bool.and_eq_true, Bool.and_eq_true, decide_eq_true_eq, decide_eq_true_eq] at hb
      exact hb.1
    refine calls_of_TC (args := [_]) Tryz.func4 rfl Tryz.ntmps4 (Nat.le_of_ble_eq_true rfl) hs ?_
    repeat' (first | (apply a_call; exact EvC.callV rfl rfl (fun w hs => (by have := small_c p _ m hpc0 _ w hs; rw [hb] at this; exact this)); exact rfl; exact wd; rintro ⟨⟩) | (apply a_call; exact EvC.callV rfl rfl (fun w hs => prob_c p _ (by omega) (by omega) m hpc0 _ w hs); exact rfl; exact wd; rintro ⟨⟩) | refine TC.seq ?_ | refine TC.region ?_ | refine TR.nil ?_ | refine Post.then_normal ?_ | refine TC.ret ?_ | (apply a_gt; exact a_gss; (first | exact rfl | assumption)) | (apply a_assign; exact a_assigns) | (apply a_load; exact a_loads) | (apply a_pick; exact a_picks) | (apply c_boxA; exact c_boxAs; exact rfl; intro g))
    (refine Post.body_ret _ (ResL.one rfl (ResV.tmp rfl)) ?_; intro wR hR; exact ⟨by rw [Bool.true_and], (by repeat first | exact hR | replace hR := hR.tail)⟩)
end Go.Proofs.YtgpgjpcebajofaaGreatDoor
set_option maxHeartbeats 4000000
set_option linter.unusedVariables false
set_option linter.unusedSimpArgs false
set_option maxRecDepth 100000
namespace Go.Proofs.YtgpgjpcebajofaaGreatDoor
open Go Go.XC Go.RowKit Go.SetsP
attribute [local irreducible] Post TC TR D WL EvS EvC Wd ResL Code.wpIn Exit.then Exit.inBlock Exit.noGoto LoopK LoopP bodyPostM Reads Calls

structure Gu where
  l : List BV
  v : Value
  e : Option (Nat × Obj)
theorem u64s_snoc (l : List BV) (s : BV) : (u64s (l ++ [s])).flatten = (u64s l).flatten ++ [u64v s] := by simp [u64s]
/-- Sets that are read: how many, and where. -/
def UsX (m : Mem) (n : Nat) : Type := { y : Mem × (Option Addr × Nat) × List BV // m.Le y.1 ∧ y.2.2.length = n ∧ Sl y.1 1 y.2.1.1 (u64s y.2.2) }
theorem drawn_c (A C : Option Addr) (ca cc : Nat) (b : List Bd) (by_ : List BV) (hb8 : b.length ≤ 1000) (m : Mem) (hA : Sl m 2 A (bds b)) (hB : Sl m 1 C (u64s by_)) (L : Own) (w : World) (hs : St m L w) :
    Calls Tryz.prog 33 #[.slice A b.length ca, .slice C by_.length cc] w fun x w' => ∃ y : UsX m b.length, x = .returned (.slice y.1.2.1.1 b.length y.1.2.1.2) ∧ St y.1.1 L w' := by
  have hbn : by_.length ≤ 140737488355328 := by simpa [u64s] using hB.big
  refine calls_of_TC (args := [_, _]) Tryz.func33 rfl Tryz.ntmps33 (Nat.le_of_ble_eq_true rfl) hs ?_
  repeat' (first | refine TC.seq ?_ | refine TC.region ?_ | refine TR.nil ?_ | refine Post.then_normal ?_ | refine TC.block ?_ | (apply a_move; exact a_moves) | (apply a_assign; exact a_assigns) | (apply a_len; exact a_lens))
  refine TC.turn (fun w h => h.addNone) ?_
  refine TC.loopP (X := Gu) (fun x => x.l.length ≤ b.length ∧ URow x.v x.l x.e) (fun x => [(11, .int .i64 (x.l.length : Int)), (10, .int .i64 (b.length : Int)), (9, .slice A b.length ca), (5, x.v), (1, .slice C by_.length cc)]) (fun x => St m (x.e :: L)) (fun x => b.length - x.l.length) ⟨[], .slice none 0 0, none⟩ ⟨Nat.zero_le _, OwnRow.nil⟩ inc (fun w h => h) ?_
  rintro ⟨l, v, e⟩ ⟨hk, hrow⟩
  simp only at hk hrow ⊢
  by_cases hlt : l.length < b.length
  · obtain ⟨y, hy⟩ : ∃ y, b[l.length]? = some y := ⟨_, List.getElem?_eq_getElem hlt⟩
    obtain ⟨g1, o1, blk1, T1, fr1, hA1, hm1, hc1⟩ := hA.get (k := l.length) (cs := bdC y) (by simp [bds, hy])
    replace hc1 : CellsAt blk1 (o1 + (l.length : Int).toNat * 2) #[.int .u64 (y.lo.toNat : Int), .int .u64 (y.can.toNat : Int)] := hc1
    have hd : decide ((l.length : Int) < (b.length : Int)) = true := by simpa using hlt
    have fin : ∀ (g : Nat) (o : Obj) (g2 : Nat) (o2 : Obj) (s : BV) (v2 : Value) (e2 : Option (Nat × Obj)), OwnRow v2 39 1 (l.length + 1) ((u64s l).flatten ++ [u64v s]) e2 → URow v2 (l ++ [s]) e2 := fun _ _ _ _ s v2 e2 h => by
      unfold URow
      rw [u64s_snoc, List.length_append]; exact h
    have hme : b.length - (l.length + 1) < b.length - l.length := by omega
    by_cases hp : 0 < by_.length
    · have hmod : l.length % by_.length < by_.length := Nat.mod_lt _ hp
      obtain ⟨s, hsx⟩ : ∃ s, by_[l.length % by_.length]? = some s := ⟨_, List.getElem?_eq_getElem hmod⟩
      obtain ⟨g2, o2, blk2, T2, fr2, hA2, hm2, hc2⟩ := hB.get1 (k := l.length % by_.length) (v := .int .u64 (s.toNat : Int)) (by simp [u64s, u64v, hsx])
      have hd2 : decide ((by_.length : Int) > 0) = true := by simpa using hp
      repeat' (first | refine TC.seq ?_ | refine TC.region ?_ | refine TR.nil ?_ | refine Post.then_normal ?_ | refine TC.block ?_ | refine TC.skip ?_ | (apply TC.cond_bt; exact rfl; assumption) | (apply TR.st1 (o := ⟨_, _, _, _, _, _⟩); exact rfl; exact rfl; exact rfl; (first | exact Wd.plain rfl | exact Wd.on rfl rfl rfl); exact EvS.remI rfl rfl hp) | (apply a_move; exact a_moves) | (apply a_assign; exact a_assigns) | (apply a_fieldAddr; exact a_fieldAddrs) | (apply a_load; exact a_loads) | (apply a_len; exact a_lens) | (apply a_band; exact a_bands) | (apply a_bor; exact a_bors) | (apply a_blss; exact a_blsss) | (apply a_bgtr; exact a_bgtrs) | (apply a_indexAddr; exact a_indexAddrs) | (apply c_alloc; exact c_allocs; exact rfl; intro g) | (apply c_storeW; exact c_storeWs; rintro ⟨⟩) | (apply c_build1; exact c_build1s; exact rfl; intro g))
      clear hmod
      (apply TR.ch1 (o := ⟨_, .call _, _, _, _, _⟩); exact rfl; exact rfl; exact rfl; (first | exact Wd.plain rfl | exact Wd.on rfl rfl rfl); (apply EvC.append; exact rfl; exact rfl; exact hrow; exact Rep1.tail (Rep1.tail (Rep1.head)); (apply RdC.whole; (first | exact Reads.mem (by assumption) | exact Reads.own (by repeat first | exact List.Mem.head _ | assumption | apply List.Mem.tail) | assumption)); exact rfl; exact (by first | exact (fun v hv => by simp at hv; rcases hv with rfl | rfl | rfl | rfl | rfl | rfl | rfl | rfl <;> rfl) | exact (fun v hv => by simp at hv; rcases hv with rfl | rfl | rfl | rfl | rfl | rfl | rfl <;> rfl) | exact (fun v hv => by simp at hv; rcases hv with rfl | rfl | rfl | rfl <;> rfl) | exact (fun v hv => by simp at hv; rcases hv with rfl | rfl <;> rfl) | exact (fun v hv => by simp at hv; subst hv; rfl)); exact rfl; decide; omega; (intro e2; exact Rep1.tail (Rep1.tail (Rep1.head)))); intro p)
      obtain ⟨⟨v2, e2⟩, hrow2⟩ := p
      repeat' (first | refine TC.region ?_ | refine TR.nil ?_ | refine Post.then_normal ?_ | refine Post.block_normal ?_ | (apply a_move; exact a_moves) | (apply a_assign; exact a_assigns) | (apply a_badd; exact a_badds))
      refine Post.nextP ⟨l ++ [_], v2, e2⟩ ⟨by simp only [List.length_append, List.length_cons, List.length_nil]; omega, fin 0 (.cells #[] 0) 0 (.cells #[] 0) _ _ _ hrow2⟩ ?_ (fun w h => ?_) (by show b.length - (l ++ [_]).length < b.length - l.length; rw [List.length_append]; exact hme)
      · simp only [List.length_append, List.length_cons, List.length_nil]; exact inc
      · exact h.tail.tail
    · have hd2 : decide ((by_.length : Int) > 0) = false := decide_eq_false (by omega)
      repeat' (first | refine TC.seq ?_ | refine TC.region ?_ | refine TR.nil ?_ | refine Post.then_normal ?_ | refine TC.block ?_ | refine TC.skip ?_ | (apply TC.cond_bt; exact rfl; assumption) | (apply TC.cond_bf; exact rfl; assumption) | (apply a_move; exact a_moves) | (apply a_assign; exact a_assigns) | (apply a_fieldAddr; exact a_fieldAddrs) | (apply a_load; exact a_loads) | (apply a_len; exact a_lens) | (apply a_band; exact a_bands) | (apply a_bor; exact a_bors) | (apply a_blss; exact a_blsss) | (apply a_bgtr; exact a_bgtrs) | (apply a_indexAddr; exact a_indexAddrs) | (apply c_alloc; exact c_allocs; exact rfl; intro g) | (apply c_storeW; exact c_storeWs; rintro ⟨⟩) | (apply c_build1; exact c_build1s; exact rfl; intro g))
      (apply TR.ch1 (o := ⟨_, .call _, _, _, _, _⟩); exact rfl; exact rfl; exact rfl; (first | exact Wd.plain rfl | exact Wd.on rfl rfl rfl); (apply EvC.append; exact rfl; exact rfl; exact hrow; exact Rep1.tail (Rep1.tail (Rep1.head)); (apply RdC.whole; (first | exact Reads.mem (by assumption) | exact Reads.own (by repeat first | exact List.Mem.head _ | assumption | apply List.Mem.tail) | assumption)); exact rfl; exact (by first | exact (fun v hv => by simp at hv; rcases hv with rfl | rfl | rfl | rfl | rfl | rfl | rfl | rfl <;> rfl) | exact (fun v hv => by simp at hv; rcases hv with rfl | rfl | rfl | rfl | rfl | rfl | rfl <;> rfl) | exact (fun v hv => by simp at hv; rcases hv with rfl | rfl | rfl | rfl <;> rfl) | exact (fun v hv => by simp at hv; rcases hv with rfl | rfl <;> rfl) | exact (fun v hv => by simp at hv; subst hv; rfl)); exact rfl; decide; omega; (intro e2; exact Rep1.tail (Rep1.tail (Rep1.head)))); intro p)
      obtain ⟨⟨v2, e2⟩, hrow2⟩ := p
      repeat' (first | refine TC.region ?_ | refine TR.nil ?_ | refine Post.then_normal ?_ | refine Post.block_normal ?_ | (apply a_move; exact a_moves) | (apply a_assign; exact a_assigns) | (apply a_badd; exact a_badds))
      refine Post.nextP ⟨l ++ [_], v2, e2⟩ ⟨by simp only [List.length_append, List.length_cons, List.length_nil]; omega, fin 0 (.cells #[] 0) 0 (.cells #[] 0) _ _ _ hrow2⟩ ?_ (fun w h => ?_) (by show b.length - (l ++ [_]).length < b.length - l.length; rw [List.length_append]; exact hme)
      · simp only [List.length_append, List.length_cons, List.length_nil]; exact inc
      · exact h.tail.tail
  · have hd : decide ((l.length : Int) < (b.length : Int)) = false := by simpa using hlt
    have he : l.length = b.length := by omega
    repeat' (first | refine TC.seq ?_ | refine TC.region ?_ | refine TR.nil ?_ | refine Post.then_normal ?_ | refine TC.ret ?_ | refine TC.exit ?_ | (apply TC.cond_bf; exact rfl; assumption) | refine Post.then_exit ?_ | refine Post.block_here ?_ | (apply a_move; exact a_moves) | (apply a_assign; exact a_assigns) | (apply a_blss; exact a_blsss))
    refine Post.body_ret _ (ResL.one rfl (ResV.tmp rfl)) fun w h => ?_
    obtain ⟨m', A', c', h1, h2, h3, h4⟩ := OwnRow.freeze hrow (u64s_len l) (by simp [u64s]) (by omega) h Rep1.head
    exact ⟨⟨(m', (A', c'), l), h1, he, h3⟩, by rw [h2]; simp only [he], h4.tail⟩
/-! ### Sets that are changed in place -/
structure Gm where
  k : Nat
  l : List BV
theorem setU {l : List BV} {junk : List Value} {i : Nat} (hi : i < l.length) (s : BV) : ((l.map u64v ++ junk).toArray).setIfInBounds i (.int .u64 (s.toNat : Int)) = ((l.set i s).map u64v ++ junk).toArray := by
  rw [List.setIfInBounds_toArray]
  congr 1
  rw [List.set_append_left _ _ (by simpa using hi), List.map_set]; rfl
theorem getU {l : List BV} {junk : List Value} {i : Nat} {s : BV} (h : l[i]? = some s) : (l.map u64v ++ junk).toArray[0 + i * 1]? = some (.int .u64 (s.toNat : Int)) := by
  have hi := (List.getElem?_eq_some_iff.1 h).1
  rw [Nat.zero_add, Nat.mul_one, List.getElem?_toArray, List.getElem?_append_left (by simpa using hi), List.getElem?_map, h]; rfl
/-- What is stored where a set lies. -/
theorem Upd.setU {L L' : Own} {g : Nat} {l : List BV} {junk : List Value} {i : Nat} {s : BV} (hi : i < l.length) (h : Upd L g (.cells (l.map u64v ++ junk).toArray 39 (0, 0)) (.cells ((l.set i s).map u64v ++ junk).toArray 39 (0, 0)) L') :
    Upd L g (.cells (l.map u64v ++ junk).toArray 39 (0, 0)) (.cells (((l.map u64v ++ junk).toArray).setIfInBounds (0 + i * 1) (.int .u64 (s.toNat : Int))) 39 (0, 0)) L' := by
  rw [Nat.zero_add, Nat.mul_one, Go.Proofs.YtgpgjpcebajofaaGreatDoor.setU hi]; exact h
end Go.Proofs.YtgpgjpcebajofaaGreatDoor
set_option maxHeartbeats 4000000
set_option linter.unusedVariables false
set_option linter.unusedSimpArgs false
set_option maxRecDepth 100000
namespace Go.Proofs.YtgpgjpcebajofaaGreatDoor
open Go Go.XC Go.RowKit Go.SetsP
attribute [local irreducible] Post TC TR D WL EvS EvC Wd ResL Code.wpIn Exit.then Exit.inBlock Exit.noGoto LoopK LoopP bodyPostM Reads Calls

theorem ints_get {m : Mem} {B : Option Addr} {l : List Int} (h : Sl m 1 B (ints l)) (hne : l ≠ []) : ∃ g o blk T fr, B = some ⟨g, o, none⟩ ∧ m.blk g = some (.cells blk T fr) ∧ ∀ (k : Nat) (v : Int), l[k]? = some v → blk[o + (k : Int).toNat * 1]? = some (.int .i64 v) := by
  obtain ⟨g, o, blk, T, fr, h1, h2, h3⟩ := h.at_ (by intro e; apply hne; simpa [ints] using e)
  exact ⟨g, o, blk, T, fr, h1, h2, fun k v hk => by simpa using h3 k [.int .i64 v] (by simp [ints, hk]) 0 _ rfl⟩
theorem mended_c (p : Pb) (pcs : Array Value) (hp : OkP p) (C : Option Addr) (cc : Nat) (l0 : List BV) (hl0 : l0.length = p.bounds.length) (m : Mem) (hpc : PbC m p pcs) (hB : Sl m 1 C (u64s l0)) (L : Own) (w : World) (hs : St m L w) :
    Calls Tryz.prog 34 #[.agg pcs, .slice C l0.length cc] w fun x w' => ∃ y : UsX m l0.length, x = .returned (.slice y.1.2.1.1 l0.length y.1.2.1.2) ∧ St y.1.1 L w' := by
  have h8 := hp.ok.b8
  have h1b := hp.ok.b1
  have h12 := hp.ok.r12
  obtain ⟨BA, bc, RA, rc, rfl, hBA, hRA⟩ := hpc
  refine calls_of_TC (args := [_, _]) Tryz.func34 rfl Tryz.ntmps34 (Nat.le_of_ble_eq_true rfl) hs ?_
  repeat' (first | (apply a_call; exact EvC.callX rfl rfl (fun w hs => cloneU_c C cc l0 (by omega) m _ w hs hB); exact rfl; exact wd; rintro ⟨⟨v, e⟩, hrow⟩) | refine TC.seq ?_ | refine TC.region ?_ | refine TR.nil ?_ | refine Post.then_normal ?_ | refine TC.block ?_ | (apply a_move; exact a_moves) | (apply a_assign; exact a_assigns) | (apply c_boxA; exact c_boxAs; exact rfl; intro g))
  simp only at hrow ⊢
  rcases hrow with ⟨rfl, hn, _, _⟩ | ⟨g, cap, junk, rfl, hc1, hc2, hlen, hjl, rfl⟩
  · omega
  rename_i gp
  have hjl' : ((u64s l0).flatten ++ junk).length = cap := by simpa using hjl
  rw [u64s_flat] at hjl' ⊢
  have hcap : ∀ l : List BV, l.length = l0.length → (l.map u64v ++ junk).length = cap := fun l h => by rw [← hjl']; simp [h]
  refine TC.loopP (X := Gm) (fun x => x.k ≤ 3 ∧ x.l.length = l0.length) (fun x => [(9, .int .i64 (x.k : Int)), (1, .slice (some ⟨g, 0, none⟩) l0.length cap), (2, .pointer (some ⟨gp, 0, none⟩))])
    (fun x => St m (some (g, .cells (x.l.map u64v ++ junk).toArray 39 (0, 0)) :: some (gp, .cells #[.slice BA p.bounds.length bc, .slice RA p.rules.length rc] 25 (0, 0)) :: L)) (fun x => 3 - x.k) ⟨0, l0⟩ ⟨Nat.zero_le _, rfl⟩ inc (fun w h => h) ?_
  rintro ⟨j, l1⟩ ⟨hj, hl1⟩
  simp only at hj hl1 ⊢
  by_cases hlt3 : j < 3
  · have hd : decide ((j : Int) < 3) = true := decide_eq_true (by omega)
    repeat' (first | refine TC.seq ?_ | refine TC.region ?_ | refine TR.nil ?_ | refine Post.then_normal ?_ | refine TC.block ?_ | refine TC.skip ?_ | (apply TC.cond_bt; exact rfl; assumption) | (apply a_move; exact a_moves) | (apply a_fieldAddr; exact a_fieldAddrs) | (apply a_load; exact a_loads) | (apply a_len; exact a_lens) | (apply a_blss; exact a_blsss))
    refine TC.loopP (X := Gm) (fun x => x.k ≤ p.rules.length ∧ x.l.length = l0.length) (fun x => [(14, .int .i64 (x.k : Int)), (13, .int .i64 (p.rules.length : Int)), (12, .slice RA p.rules.length rc), (9, .int .i64 (j : Int)), (1, .slice (some ⟨g, 0, none⟩) l0.length cap), (2, .pointer (some ⟨gp, 0, none⟩))])
      (fun x => St m (some (g, .cells (x.l.map u64v ++ junk).toArray 39 (0, 0)) :: some (gp, .cells #[.slice BA p.bounds.length bc, .slice RA p.rules.length rc] 25 (0, 0)) :: L)) (fun x => p.rules.length - x.k) ⟨0, l1⟩ ⟨Nat.zero_le _, hl1⟩ inc (fun w h => h) ?_
    rintro ⟨k, l⟩ ⟨hk, hl⟩
    simp only at hk hl ⊢
    by_cases hlt : k < p.rules.length
    · obtain ⟨r, hr⟩ : ∃ r, p.rules[k]? = some r := ⟨_, List.getElem?_eq_getElem hlt⟩
      have hrm := List.mem_of_getElem? hr
      have hro := hp.ok.rl r hrm
      have hrl := rule_len hp.rl hrm
      obtain ⟨g1, o1, blk1, T1, fr1, B, c', hAe, hm1, hc, hBS, _⟩ := hRA.get (k := k) hr
      have hd2 : decide ((k : Int) < (p.rules.length : Int)) = true := decide_eq_true (by omega)
      have hsz := hcap l hl
      have hget : ∀ v : Int, 0 ≤ v ∧ v < p.bounds.length → ∃ s, l[v.toNat]? = some s ∧ (l.map u64v ++ junk).toArray[0 + v.toNat * 1]? = some (.int .u64 (s.toNat : Int)) := fun v hv => by
        obtain ⟨s, hs⟩ : ∃ s, l[v.toNat]? = some s := ⟨_, List.getElem?_eq_getElem (by omega)⟩
        exact ⟨s, hs, getU hs⟩
      obtain ⟨cs, hcs⟩ : ∃ cs, cs = (l.map u64v ++ junk).toArray := ⟨_, rfl⟩
      have hcsz : cs.size = cap := by rw [hcs]; simpa using hsz
      have hset : ∀ (v : Int) (s : BV), 0 ≤ v ∧ v < p.bounds.length → cs.setIfInBounds (0 + v.toNat * 1) (.int .u64 (s.toNat : Int)) = ((l.set v.toNat s).map u64v ++ junk).toArray := fun v s hv => by
        rw [hcs, Nat.zero_add, Nat.mul_one, setU (by omega)]
      rw [← hcs] at hget ⊢
      have hll : (l.length : Int) ≤ cap := by have := hcap l hl; simp at this; omega
      rcases okR_cases hro with ⟨hk6, v0, e⟩ | ⟨hk12, v0, v1, e⟩ | ⟨hk345, v0, v1, v2, e⟩
      · have q1 : (r.kind == 1) = false := by simp [hk6]
        have q2 : (r.kind == 2) = false := by simp [hk6]
        have q3 : (r.kind == 3) = false := by simp [hk6]
        have q4 : (r.kind == 4) = false := by simp [hk6]
        have q5 : (r.kind == 5) = false := by simp [hk6]
        repeat' (first | refine TC.seq ?_ | refine TC.region ?_ | refine TR.nil ?_ | refine Post.then_normal ?_ | refine TC.block ?_ | refine TC.skip ?_ | (apply TC.cond_bt; exact rfl; assumption) | (apply TC.cond_bf; exact rfl; assumption) | refine Post.block_normal ?_ | (apply a_move; exact a_moves) | (apply a_assign; exact a_assigns) | (apply a_fieldAddr; exact a_fieldAddrs) | (apply a_load; exact a_loads) | (apply a_beql; exact a_beqls) | (apply a_blss; exact a_blsss) | (apply a_badd; exact a_badds) | (apply a_indexAddr; exact a_indexAddrs) | (apply c_alloc; exact c_allocs; exact rfl; intro g) | (apply c_storeW; exact c_storeWs; rintro ⟨⟩))
        refine Post.nextP ⟨k + 1, l⟩ ⟨by simp only; omega, hl⟩ inc (fun w h => by rw [← hcs]; exact h.tail) (by simp only; omega)
      · rw [e] at hrl hBS hc
        replace hc : CellsAt blk1 (o1 + (k : Int).toNat * 4) #[.int .i64 r.kind, .slice B 2 c', .int .i64 r.low, .int .i64 r.high] := hc
        have w0 := hrl v0 (by simp)
        have w1 := hrl v1 (by simp)
        obtain ⟨g2, o2, blk2, T2, fr2, hA2, hm2, hb2⟩ := ints_get hBS (by simp)
        have b0 := hb2 0 v0 rfl
        have b1 := hb2 1 v1 rfl
        obtain ⟨s0, hs0, y0⟩ := hget v0 w0
        obtain ⟨s1, hs1, y1⟩ := hget v1 w1
        clear hb2 hget
        have z1 : 0 + v1.toNat * 1 < cs.size := by rw [hcsz]; omega
        rcases hk12 with hk1 | hk1
        · have q1 : (r.kind == 1) = true := by simp [hk1]
          repeat' (first | refine TC.seq ?_ | refine TC.region ?_ | refine TR.nil ?_ | refine Post.then_normal ?_ | refine TC.block ?_ | refine TC.skip ?_ | (apply TC.cond_bt; exact rfl; assumption) | refine Post.block_normal ?_ | (apply a_move; exact a_moves) | (apply a_assign; exact a_assigns) | (apply a_fieldAddr; exact a_fieldAddrs) | (apply a_load; exact a_loads) | (apply a_beql; exact a_beqls) | (apply a_blss; exact a_blsss) | (apply a_badd; exact a_badds) | (apply a_indexAddr; exact a_indexAddrs) | (apply c_alloc; exact c_allocs; exact rfl; intro g) | (apply c_store1; exact c_store1s; rintro ⟨⟩) | (apply c_storeW; exact c_storeWs; rintro ⟨⟩) | (apply TC.drawW mixed) | (apply DW.tail; exact rfl; kernel_rfl) | (apply e_move; exact d_moves) | (apply e_fieldAddr; exact d_fieldAddrs) | (apply e_load; exact d_loads) | (apply e_bor; exact d_bors) | (apply e_indexAddr; exact d_indexAddrs))
          refine Post.nextP ⟨k + 1, l.set v1.toNat _⟩ ⟨by simp only; omega, by simp only [List.length_set]; exact hl⟩ inc (fun w h => by rw [hset v1 _ w1] at h; exact h.sublist (List.Sublist.cons _ (List.Sublist.refl _))) (by simp only; omega)
        · have q1 : (r.kind == 1) = false := by simp [hk1]
          have q2 : (r.kind == 2) = true := by simp [hk1]
          repeat' (first | refine TC.seq ?_ | refine TC.region ?_ | refine TR.nil ?_ | refine Post.then_normal ?_ | refine TC.block ?_ | refine TC.skip ?_ | (apply TC.cond_bt; exact rfl; assumption) | (apply TC.cond_bf; exact rfl; assumption) | refine Post.block_normal ?_ | (apply a_move; exact a_moves) | (apply a_assign; exact a_assigns) | (apply a_fieldAddr; exact a_fieldAddrs) | (apply a_load; exact a_loads) | (apply a_beql; exact a_beqls) | (apply a_blss; exact a_blsss) | (apply a_badd; exact a_badds) | (apply a_indexAddr; exact a_indexAddrs) | (apply c_alloc; exact c_allocs; exact rfl; intro g) | (apply c_store1; exact c_store1s; rintro ⟨⟩) | (apply c_storeW; exact c_storeWs; rintro ⟨⟩) | (apply TC.drawW mixed) | (apply DW.tail; exact rfl; kernel_rfl) | (apply e_move; exact d_moves) | (apply e_fieldAddr; exact d_fieldAddrs) | (apply e_load; exact d_loads) | (apply e_bandNot; exact d_bandNots) | (apply e_indexAddr; exact d_indexAddrs))
          refine Post.nextP ⟨k + 1, l.set v1.toNat _⟩ ⟨by simp only; omega, by simp only [List.length_set]; exact hl⟩ inc (fun w h => by rw [hset v1 _ w1] at h; exact h.sublist (List.Sublist.cons _ (List.Sublist.refl _))) (by simp only; omega)
      · rw [e] at hrl hBS hc
        replace hc : CellsAt blk1 (o1 + (k : Int).toNat * 4) #[.int .i64 r.kind, .slice B 3 c', .int .i64 r.low, .int .i64 r.high] := hc
        have w0 := hrl v0 (by simp)
        have w1 := hrl v1 (by simp)
        have w2 := hrl v2 (by simp)
        obtain ⟨g2, o2, blk2, T2, fr2, hA2, hm2, hb2⟩ := ints_get hBS (by simp)
        have b0 := hb2 0 v0 rfl
        have b1 := hb2 1 v1 rfl
        have b2 := hb2 2 v2 rfl
        obtain ⟨s0, hs0, y0⟩ := hget v0 w0
        obtain ⟨s1, hs1, y1⟩ := hget v1 w1
        clear hb2 hget
        have z2 : 0 + v2.toNat * 1 < cs.size := by rw [hcsz]; omega
        rcases hk345 with hk1 | hk1 | hk1
        · have q1 : (r.kind == 1) = false := by simp [hk1]
          have q2 : (r.kind == 2) = false := by simp [hk1]
          have q3 : (r.kind == 3) = true := by simp [hk1]
          repeat' (first | refine TC.seq ?_ | refine TC.region ?_ | refine TR.nil ?_ | refine Post.then_normal ?_ | refine TC.block ?_ | refine TC.skip ?_ | (apply TC.cond_bt; exact rfl; assumption) | (apply TC.cond_bf; exact rfl; assumption) | refine Post.block_normal ?_ | (apply a_move; exact a_moves) | (apply a_assign; exact a_assigns) | (apply a_fieldAddr; exact a_fieldAddrs) | (apply a_load; exact a_loads) | (apply a_beql; exact a_beqls) | (apply a_blss; exact a_blsss) | (apply a_badd; exact a_badds) | (apply a_indexAddr; exact a_indexAddrs) | (apply c_alloc; exact c_allocs; exact rfl; intro g) | (apply c_store1; exact c_store1s; rintro ⟨⟩) | (apply c_storeW; exact c_storeWs; rintro ⟨⟩) | (apply TC.drawW mixed) | (apply DW.tail; exact rfl; kernel_rfl) | (apply e_move; exact d_moves) | (apply e_fieldAddr; exact d_fieldAddrs) | (apply e_load; exact d_loads) | (apply e_bor; exact d_bors) | (apply e_indexAddr; exact d_indexAddrs))
          refine Post.nextP ⟨k + 1, l.set v2.toNat _⟩ ⟨by simp only; omega, by simp only [List.length_set]; exact hl⟩ inc (fun w h => by rw [hset v2 _ w2] at h; exact h.sublist (List.Sublist.cons _ (List.Sublist.refl _))) (by simp only; omega)
        · have q1 : (r.kind == 1) = false := by simp [hk1]
          have q2 : (r.kind == 2) = false := by simp [hk1]
          have q3 : (r.kind == 3) = false := by simp [hk1]
          have q4 : (r.kind == 4) = true := by simp [hk1]
          repeat' (first | refine TC.seq ?_ | refine TC.region ?_ | refine TR.nil ?_ | refine Post.then_normal ?_ | refine TC.block ?_ | refine TC.skip ?_ | (apply TC.cond_bt; exact rfl; assumption) | (apply TC.cond_bf; exact rfl; assumption) | refine Post.block_normal ?_ | (apply a_move; exact a_moves) | (apply a_assign; exact a_assigns) | (apply a_fieldAddr; exact a_fieldAddrs) | (apply a_load; exact a_loads) | (apply a_beql; exact a_beqls) | (apply a_blss; exact a_blsss) | (apply a_badd; exact a_badds) | (apply a_indexAddr; exact a_indexAddrs) | (apply c_alloc; exact c_allocs; exact rfl; intro g) | (apply c_store1; exact c_store1s; rintro ⟨⟩) | (apply c_storeW; exact c_storeWs; rintro ⟨⟩) | (apply TC.drawW mixed) | (apply DW.tail; exact rfl; kernel_rfl) | (apply e_move; exact d_moves) | (apply e_fieldAddr; exact d_fieldAddrs) | (apply e_load; exact d_loads) | (apply e_band; exact d_bands) | (apply e_indexAddr; exact d_indexAddrs))
          refine Post.nextP ⟨k + 1, l.set v2.toNat _⟩ ⟨by simp only; omega, by simp only [List.length_set]; exact hl⟩ inc (fun w h => by rw [hset v2 _ w2] at h; exact h.sublist (List.Sublist.cons _ (List.Sublist.refl _))) (by simp only; omega)
        · have q1 : (r.kind == 1) = false := by simp [hk1]
          have q2 : (r.kind == 2) = false := by simp [hk1]
          have q3 : (r.kind == 3) = false := by simp [hk1]
          have q4 : (r.kind == 4) = false := by simp [hk1]
          have q5 : (r.kind == 5) = true := by simp [hk1]
          repeat' (first | refine TC.seq ?_ | refine TC.region ?_ | refine TR.nil ?_ | refine Post.then_normal ?_ | refine TC.block ?_ | refine TC.skip ?_ | (apply TC.cond_bt; exact rfl; assumption) | (apply TC.cond_bf; exact rfl; assumption) | refine Post.block_normal ?_ | (apply a_move; exact a_moves) | (apply a_assign; exact a_assigns) | (apply a_fieldAddr; exact a_fieldAddrs) | (apply a_load; exact a_loads) | (apply a_beql; exact a_beqls) | (apply a_blss; exact a_blsss) | (apply a_badd; exact a_badds) | (apply a_indexAddr; exact a_indexAddrs) | (apply c_alloc; exact c_allocs; exact rfl; intro g) | (apply c_store1; exact c_store1s; rintro ⟨⟩) | (apply c_storeW; exact c_storeWs; rintro ⟨⟩) | (apply TC.drawW mixed) | (apply DW.tail; exact rfl; kernel_rfl) | (apply e_move; exact d_moves) | (apply e_fieldAddr; exact d_fieldAddrs) | (apply e_load; exact d_loads) | (apply e_bandNot; exact d_bandNots) | (apply e_indexAddr; exact d_indexAddrs))
          refine Post.nextP ⟨k + 1, l.set v2.toNat _⟩ ⟨by simp only; omega, by simp only [List.length_set]; exact hl⟩ inc (fun w h => by rw [hset v2 _ w2] at h; exact h.sublist (List.Sublist.cons _ (List.Sublist.refl _))) (by simp only; omega)
    · have hd2 : decide ((k : Int) < (p.rules.length : Int)) = false := decide_eq_false (by omega)
      repeat' (first | refine TC.seq ?_ | refine TC.region ?_ | refine TR.nil ?_ | refine Post.then_normal ?_ | refine TC.exit ?_ | (apply TC.cond_bf; exact rfl; assumption) | refine Post.then_exit ?_ | refine Post.block_normal ?_ | refine Post.block_here ?_ | (apply a_move; exact a_moves) | (apply a_blss; exact a_blsss) | (apply a_badd; exact a_badds))
      refine Post.nextP ⟨j + 1, l⟩ ⟨by simp only; omega, hl⟩ inc (fun w h => h) (by simp only; omega)
  · have hd : decide ((j : Int) < 3) = false := decide_eq_false (by omega)
    repeat' (first | refine TC.seq ?_ | refine TC.region ?_ | refine TR.nil ?_ | refine Post.then_normal ?_ | refine TC.ret ?_ | refine TC.exit ?_ | (apply TC.cond_bf; exact rfl; assumption) | refine Post.then_exit ?_ | refine Post.block_here ?_ | (apply a_move; exact a_moves) | (apply a_assign; exact a_assigns) | (apply a_blss; exact a_blsss))
    refine Post.body_ret _ (ResL.one rfl (ResV.tmp rfl)) fun w h => ?_
    have hrow : URow (.slice (some ⟨g, 0, none⟩) l0.length cap) l1 (some (g, .cells (l1.map u64v ++ junk).toArray 39)) := by
      refine .inr ⟨g, cap, junk, by rw [hl1], by omega, hc2, ?_, ?_, by rw [u64s_flat]⟩
      · rw [u64s_flat]; simp
      · rw [u64s_flat]; simpa using hcap l1 hl1
    obtain ⟨m', A', c', h1, h2, h3, h4⟩ := OwnRow.freeze hrow (u64s_len l1) (by simp [u64s]) (by omega) h Rep1.head
    exact ⟨⟨(m', (A', c'), l1), h1, hl1, h3⟩, by rw [h2]; simp only [hl1], h4.tail.tail⟩
end Go.Proofs.YtgpgjpcebajofaaGreatDoor
set_option maxHeartbeats 4000000
set_option linter.unusedVariables false
set_option linter.unusedSimpArgs false
set_option maxRecDepth 100000
namespace Go.Proofs.YtgpgjpcebajofaaGreatDoor
open Go Go.XC Go.RowKit Go.SetsP
attribute [local irreducible] Post TC TR D WL EvS EvC Wd ResL Code.wpIn Exit.then Exit.inBlock Exit.noGoto LoopK LoopP bodyPostM Reads Calls

theorem of1 {α : Type} {l : List α} {k : Nat} {x : α} (h : l[k]? = some x) : l.take (k + 1) = l.take k ++ [x] := by rw [List.take_add_one, h]; rfl
theorem ofR_c (r : Rl) (B C : Option Addr) (c' cc : Nat) (l : List BV) (hn : r.vars.length ≤ 1000) (hv : ∀ v, v ∈ r.vars → 0 ≤ v ∧ v < l.length) (m : Mem) (hBS : Sl m 1 B (ints r.vars)) (hB : Sl m 1 C (u64s l)) (L : Own) (w : World) (hs : St m L w) :
    Calls Tryz.prog 65 #[rlV r B c', .slice C l.length cc] w fun x w' => ∃ y : { y : Mem × Option Addr × Nat // m.Le y.1 ∧ Sl y.1 1 y.2.1 (u64s (r.vars.map (getL l))) }, x = .returned (.slice y.1.2.1 r.vars.length y.1.2.2) ∧ St y.1.1 L w' := by
  unfold rlV
  refine calls_of_TC (args := [_, _]) Tryz.func65 rfl Tryz.ntmps65 (Nat.le_of_ble_eq_true rfl) hs ?_
  repeat' (first | refine TC.seq ?_ | refine TC.region ?_ | refine TR.nil ?_ | refine Post.then_normal ?_ | refine TC.block ?_ | (apply a_assign; exact a_assigns) | (apply c_boxA; exact c_boxAs; exact rfl; intro g))
  obtain ⟨gb, hgb⟩ : ∃ x, x = g := ⟨_, rfl⟩
  subst hgb
  refine TC.turn (fun w h => h.addNone) ?_
  refine TC.loopP (X := Gu) (fun x => x.l.length ≤ r.vars.length ∧ x.l = (r.vars.take x.l.length).map (getL l) ∧ URow x.v x.l x.e) (fun x => [(6, .int .i64 (x.l.length : Int)), (5, x.v), (1, .slice C l.length cc), (2, .pointer (some ⟨gb, 0, none⟩))]) (fun x => St m (x.e :: some (gb, .cells #[.int .i64 r.kind, .slice B r.vars.length c', .int .i64 r.low, .int .i64 r.high] 62 (0, 0)) :: L)) (fun x => r.vars.length - x.l.length) ⟨[], .slice none 0 0, none⟩ ⟨Nat.zero_le _, by simp, OwnRow.nil⟩ inc (fun w h => h) ?_
  rintro ⟨k, v, e⟩ ⟨hk, hkl, hrow⟩
  simp only at hk hkl hrow ⊢
  by_cases hlt : k.length < r.vars.length
  · obtain ⟨x, hx⟩ : ∃ x, r.vars[k.length]? = some x := ⟨_, List.getElem?_eq_getElem hlt⟩
    have hxv := hv x (List.mem_of_getElem? hx)
    obtain ⟨s, hsx⟩ : ∃ s, l[x.toNat]? = some s := ⟨_, List.getElem?_eq_getElem (by omega)⟩
    obtain ⟨g1, o1, blk1, T1, fr1, hA1, hm1, hc1⟩ := hBS.get1 (k := k.length) (v := .int .i64 x) (by simp [ints, hx])
    obtain ⟨g2, o2, blk2, T2, fr2, hA2, hm2, hc2⟩ := hB.get1 (k := x.toNat) (v := .int .u64 (s.toNat : Int)) (by simp [u64s, u64v, hsx])
    rw [show ((x.toNat : Nat) : Int).toNat = x.toNat by omega] at hc2
    have hd : decide ((k.length : Int) < (r.vars.length : Int)) = true := decide_eq_true (by omega)
    have hme : r.vars.length - (k.length + 1) < r.vars.length - k.length := by omega
    repeat' (first | refine TC.seq ?_ | refine TC.region ?_ | refine TR.nil ?_ | refine Post.then_normal ?_ | refine TC.block ?_ | refine TC.skip ?_ | (apply TC.cond_bt; exact rfl; assumption) | (apply a_move; exact a_moves) | (apply a_fieldAddr; exact a_fieldAddrs) | (apply a_load; exact a_loads) | (apply a_len; exact a_lens) | (apply a_blss; exact a_blsss) | (apply a_indexAddr; exact a_indexAddrs) | (apply c_build1; exact c_build1s; exact rfl; intro g))
    (apply TR.ch1 (o := ⟨_, .call _, _, _, _, _⟩); exact rfl; exact rfl; exact rfl; (first | exact Wd.plain rfl | exact Wd.on rfl rfl rfl); (apply EvC.append; exact rfl; exact rfl; exact hrow; exact Rep1.tail (Rep1.head); (apply RdC.whole; (first | exact Reads.mem (by assumption) | exact Reads.own (by repeat first | exact List.Mem.head _ | assumption | apply List.Mem.tail) | assumption)); exact rfl; exact (by first | exact (fun v hv => by simp at hv; rcases hv with rfl | rfl | rfl | rfl | rfl | rfl | rfl | rfl <;> rfl) | exact (fun v hv => by simp at hv; rcases hv with rfl | rfl | rfl | rfl | rfl | rfl | rfl <;> rfl) | exact (fun v hv => by simp at hv; rcases hv with rfl | rfl | rfl | rfl <;> rfl) | exact (fun v hv => by simp at hv; rcases hv with rfl | rfl <;> rfl) | exact (fun v hv => by simp at hv; subst hv; rfl)); exact rfl; decide; omega; (intro e2; exact Rep1.tail (Rep1.head))); intro p)
    obtain ⟨⟨v2, e2⟩, hrow2⟩ := p
    repeat' (first | refine TC.region ?_ | refine TR.nil ?_ | refine Post.then_normal ?_ | refine Post.block_normal ?_ | (apply a_move; exact a_moves) | (apply a_assign; exact a_assigns) | (apply a_badd; exact a_badds))
    refine Post.nextP ⟨k ++ [s], v2, e2⟩ ⟨by simp only [List.length_append, List.length_cons, List.length_nil]; omega, ?_, ?_⟩ ?_ (fun w h => h.tail) (by show r.vars.length - (k ++ [_]).length < r.vars.length - k.length; rw [List.length_append]; exact hme)
    · simp only [List.length_append, List.length_cons, List.length_nil]
      rw [of1 hx, List.map_append, ← hkl]
      congr 1
      simp [getL, List.getD_eq_getElem?_getD, hsx]
    · unfold URow
      rw [u64s_snoc, List.length_append]; exact hrow2
    · simp only [List.length_append, List.length_cons, List.length_nil]; exact inc
  · have hd : decide ((k.length : Int) < (r.vars.length : Int)) = false := decide_eq_false (by omega)
    have he : k.length = r.vars.length := by omega
    have hkk : k = r.vars.map (getL l) := by rw [he, List.take_length] at hkl; exact hkl
    repeat' (first | refine TC.seq ?_ | refine TC.region ?_ | refine TR.nil ?_ | refine Post.then_normal ?_ | refine TC.ret ?_ | refine TC.exit ?_ | (apply TC.cond_bf; exact rfl; assumption) | refine Post.then_exit ?_ | refine Post.block_here ?_ | (apply a_move; exact a_moves) | (apply a_assign; exact a_assigns) | (apply a_fieldAddr; exact a_fieldAddrs) | (apply a_load; exact a_loads) | (apply a_len; exact a_lens) | (apply a_blss; exact a_blsss))
    refine Post.body_ret _ (ResL.one rfl (ResV.tmp rfl)) fun w h => ?_
    obtain ⟨m', A', c', h1, h2, h3, h4⟩ := OwnRow.freeze hrow (u64s_len k) (by simp [u64s]) (by omega) h Rep1.head
    exact ⟨⟨(m', A', c'), h1, by rw [← hkk]; exact h3⟩, by rw [h2]; simp only [he], h4.tail.tail⟩
structure Gb where
  x : List Bool
  v : Value
  e : Option (Nat × Obj)
def BRow (v : Value) (x : List Bool) (e : Option (Nat × Obj)) : Prop := OwnRow v 4 1 x.length (bools x).flatten e
theorem bools_snoc (x : List Bool) (b : Bool) : (bools (x ++ [b])).flatten = (bools x).flatten ++ [.bool b] := by simp [bools]
theorem held_c (r : Rl) (hr : okR r) (B C : Option Addr) (c' cc : Nat) (l : List BV) (hv : ∀ v, v ∈ r.vars → 0 ≤ v ∧ v < l.length) (m : Mem) (hBS : Sl m 1 B (ints r.vars)) (hB : Sl m 1 C (u64s l)) (L : Own) (w : World) (hs : St m L w) :
    Calls Tryz.prog 29 #[rlV r B c', .slice C l.length cc] w fun x w' => x = .returned (.bool (heldB r l)) ∧ St m L w' := by
  have hn : r.vars.length ≤ 3 := by
    rcases okR_cases hr with ⟨_, _, e⟩ | ⟨_, _, _, e⟩ | ⟨_, _, _, _, e⟩ <;> rw [e] <;> simp
  have hof := fun (w : World) (L : Own) (hs : St m L w) => ofR_c r B C c' cc l (by omega) hv m hBS hB L w hs
  unfold rlV at hof ⊢
  obtain ⟨own, hown⟩ : ∃ own, own = r.vars.map (getL l) := ⟨_, rfl⟩
  have hol : own.length = r.vars.length := by rw [hown]; simp
  rw [← hown] at hof
  have hfirst : ∀ i, i < r.vars.length → own[i]? = some (getL l (r.vars.getD i 0)) := fun i hi => by
    rw [hown, List.getElem?_map, List.getElem?_eq_getElem hi, List.getD_eq_getElem?_getD, List.getElem?_eq_getElem hi]; rfl
  by_cases h6 : r.kind = 6
  · obtain ⟨v0, e⟩ : ∃ v, r.vars = [v] := by
      rcases okR_cases hr with ⟨_, v, e⟩ | ⟨h, _⟩ | ⟨h, _⟩
      · exact ⟨v, e⟩
      · omega
      · omega
    have q6 : (r.kind == 6) = true := by simp [h6]
    have h0 := hfirst 0 (by rw [e]; simp)
    have hh : heldB r l = (decide (r.low ≤ (pop (getL l (r.vars.getD 0 0)) : Int)) && decide ((pop (getL l (r.vars.getD 0 0)) : Int) ≤ r.high)) := by unfold heldB; rw [if_pos h6]
    have hv1 : r.vars.length = 1 := by rw [e]; rfl
    obtain ⟨s0, hs0⟩ : ∃ s, s = getL l (r.vars.getD 0 0) := ⟨_, rfl⟩
    rw [← hs0] at h0 hh
    rw [hv1] at hof ⊢
    refine calls_of_TC (args := [_, _]) Tryz.func29 rfl Tryz.ntmps29 (Nat.le_of_ble_eq_true rfl) hs ?_
    repeat' (first | (apply a_call; exact EvC.callX rfl rfl (fun w hs => hof w _ hs); exact rfl; exact wd; rintro ⟨⟨m', A', ca⟩, hle, hS⟩) | refine TC.seq ?_ | refine TC.region ?_ | refine TR.nil ?_ | refine Post.then_normal ?_ | (apply TC.cond_bt; exact rfl; assumption) | (apply a_move; exact a_moves) | (apply a_assign; exact a_assigns) | (apply a_fieldAddr; exact a_fieldAddrs) | (apply a_load; exact a_loads) | (apply a_beql; exact a_beqls) | (apply c_boxA; exact c_boxAs; exact rfl; intro g) | (apply TC.drawW mixed) | (apply e_move; exact d_moves))
    simp only at hle hS ⊢
    obtain ⟨g2, o2, blk2, T2, fr2, hA2, hm2, hc2⟩ := hS.get1 (k := 0) (v := .int .u64 (s0.toNat : Int)) (by simp [u64s, u64v, h0])
    repeat' (first | (apply e_call; exact EvC.callV rfl rfl (fun w hs => count_c _ _ _ w hs); exact wd; exact inferInstance; exact subs; rintro ⟨⟩) | (apply e_call; exact EvC.callV rfl rfl (fun w hs => in_c _ _ _ _ _ w hs); exact wd; exact inferInstance; exact subs; rintro ⟨⟩) | refine TR.nil ?_ | refine Post.then_normal ?_ | refine TC.ret ?_ | refine Post.then_ret ?_ | (apply a_assign; exact a_assigns) | (apply DW.tail; exact rfl; kernel_rfl) | (apply e_fieldAddr; exact d_fieldAddrs) | (apply e_load; exact d_loads) | (apply e_indexAddr; exact d_indexAddrs))
    refine Post.body_ret _ (ResL.one rfl (ResV.tmp rfl)) fun w h => ⟨?_, ?_⟩
    · rw [hh]; congr 2; rw [Bool.eq_iff_iff]; simp
    · exact (h.weaken hle).tail
  · have q6 : (r.kind == 6) = false := by simp [h6]
    have hkr : 1 ≤ r.kind ∧ r.kind ≤ 5 := by have := hr.2; omega
    have hh : heldB r l = (List.range 12).all fun e => asksB r.kind (has (getL l (r.vars.getD 0 0)) e) (has (getL l (r.vars.getD 1 0)) e) (has (getL l (r.vars.getD 2 0)) e) := by unfold heldB; rw [if_neg h6]
    have hask : ∀ e, asksB r.kind ((own.map fun s => has s e).getD 0 false) ((own.map fun s => has s e).getD 1 false) ((own.map fun s => has s e).getD 2 false) = asksB r.kind (has (getL l (r.vars.getD 0 0)) e) (has (getL l (r.vars.getD 1 0)) e) (has (getL l (r.vars.getD 2 0)) e) := fun e => by
      rcases okR_cases hr with ⟨h, _⟩ | ⟨h, v, u, e'⟩ | ⟨_, v, u, t, e'⟩
      · exact absurd h h6
      · rw [hown, e', asksB_c h _ _ _ (has (getL l ([v, u].getD 2 0)) e)]; rfl
      · rw [hown, e']; rfl
    refine calls_of_TC (args := [_, _]) Tryz.func29 rfl Tryz.ntmps29 (Nat.le_of_ble_eq_true rfl) hs ?_
    repeat' (first | (apply a_call; exact EvC.callX rfl rfl (fun w hs => hof w _ hs); exact rfl; exact wd; rintro ⟨⟨m', A', ca⟩, hle, hS⟩) | refine TC.seq ?_ | refine TC.region ?_ | refine TR.nil ?_ | refine Post.then_normal ?_ | refine TC.block ?_ | refine TC.skip ?_ | (apply TC.cond_bf; exact rfl; assumption) | (apply a_move; exact a_moves) | (apply a_assign; exact a_assigns) | (apply a_fieldAddr; exact a_fieldAddrs) | (apply a_load; exact a_loads) | (apply a_beql; exact a_beqls) | (apply c_boxA; exact c_boxAs; exact rfl; intro g))
    simp only at hle hS ⊢
    refine TC.loopP (X := Nat) (fun k => k ≤ 12 ∧ ∀ e, e < k → asksB r.kind (has (getL l (r.vars.getD 0 0)) e) (has (getL l (r.vars.getD 1 0)) e) (has (getL l (r.vars.getD 2 0)) e) = true) (fun k => [(6, .int .i64 (k : Int)), (5, .slice A' r.vars.length ca), (2, .pointer (some ⟨g, 0, none⟩))]) (fun _ => St m' (some (g, .cells #[.int .i64 r.kind, .slice B r.vars.length c', .int .i64 r.low, .int .i64 r.high] 62 (0, 0)) :: L)) (fun k => 12 - k) 0 ⟨by omega, fun e h => by omega⟩ inc (fun w h => h) ?_
    rintro k ⟨hk, hno⟩
    by_cases hlt : k < 12
    · have hd : decide ((k : Int) < 12) = true := decide_eq_true (by omega)
      repeat' (first | refine TC.seq ?_ | refine TC.region ?_ | refine TR.nil ?_ | refine Post.then_normal ?_ | refine TC.block ?_ | refine TC.skip ?_ | (apply TC.cond_bt; exact rfl; assumption) | (apply a_move; exact a_moves) | (apply a_assign; exact a_assigns) | (apply a_blss; exact a_blsss))
      refine TC.turn (fun w h => h.addNone) ?_
      refine TC.loopP (X := Gb) (fun x => x.x.length ≤ r.vars.length ∧ x.x = (own.take x.x.length).map (fun s => has s k) ∧ BRow x.v x.x x.e) (fun x => [(8, .int .i64 (x.x.length : Int)), (7, x.v), (6, .int .i64 (k : Int)), (5, .slice A' r.vars.length ca), (2, .pointer (some ⟨g, 0, none⟩))]) (fun x => St m' (x.e :: some (g, .cells #[.int .i64 r.kind, .slice B r.vars.length c', .int .i64 r.low, .int .i64 r.high] 62 (0, 0)) :: L)) (fun x => r.vars.length - x.x.length) ⟨[], .slice none 0 0, none⟩ ⟨Nat.zero_le _, by simp, OwnRow.nil⟩ inc (fun w h => h) ?_
      rintro ⟨x, v, e⟩ ⟨hxl, hx, hrow⟩
      simp only at hxl hx hrow ⊢
      by_cases hlt2 : x.length < r.vars.length
      · obtain ⟨s, hsx⟩ : ∃ s, own[x.length]? = some s := ⟨_, List.getElem?_eq_getElem (by omega)⟩
        obtain ⟨g2, o2, blk2, T2, fr2, hA2, hm2, hc2⟩ := hS.get1 (k := x.length) (v := .int .u64 (s.toNat : Int)) (by simp [u64s, u64v, hsx])
        have hd2 : decide ((x.length : Int) < (r.vars.length : Int)) = true := decide_eq_true (by omega)
        have hme : r.vars.length - (x.length + 1) < r.vars.length - x.length := by omega
        repeat' (first | (apply a_call; exact EvC.callV rfl rfl (fun w hs => has_c s k hlt _ _ w hs); exact rfl; exact wd; rintro ⟨⟩) | refine TC.seq ?_ | refine TC.region ?_ | refine TR.nil ?_ | refine Post.then_normal ?_ | refine TC.block ?_ | refine TC.skip ?_ | (apply TC.cond_bt; exact rfl; assumption) | (apply a_move; exact a_moves) | (apply a_load; exact a_loads) | (apply a_len; exact a_lens) | (apply a_blss; exact a_blsss) | (apply a_indexAddr; exact a_indexAddrs) | (apply c_build1; exact c_build1s; exact rfl; intro g))
        (apply TR.ch1 (o := ⟨_, .call _, _, _, _, _⟩); exact rfl; exact rfl; exact rfl; (first | exact Wd.plain rfl | exact Wd.on rfl rfl rfl); (apply EvC.append; exact rfl; exact rfl; exact hrow; exact Rep1.tail (Rep1.head); (apply RdC.whole; (first | exact Reads.mem (by assumption) | exact Reads.own (by repeat first | exact List.Mem.head _ | assumption | apply List.Mem.tail) | assumption)); exact rfl; exact (by first | exact (fun v hv => by simp at hv; rcases hv with rfl | rfl | rfl | rfl | rfl | rfl | rfl | rfl <;> rfl) | exact (fun v hv => by simp at hv; rcases hv with rfl | rfl | rfl | rfl | rfl | rfl | rfl <;> rfl) | exact (fun v hv => by simp at hv; rcases hv with rfl | rfl | rfl | rfl <;> rfl) | exact (fun v hv => by simp at hv; rcases hv with rfl | rfl <;> rfl) | exact (fun v hv => by simp at hv; subst hv; rfl)); exact rfl; decide; omega; (intro e2; exact Rep1.tail (Rep1.head))); intro p)
        obtain ⟨⟨v2, e2⟩, hrow2⟩ := p
        repeat' (first | refine TC.region ?_ | refine TR.nil ?_ | refine Post.then_normal ?_ | refine Post.block_normal ?_ | (apply a_move; exact a_moves) | (apply a_assign; exact a_assigns) | (apply a_badd; exact a_badds))
        refine Post.nextP ⟨x ++ [has s k], v2, e2⟩ ⟨by simp only [List.length_append, List.length_cons, List.length_nil]; omega, ?_, ?_⟩ ?_ (fun w h => h.tail) (by show r.vars.length - (x ++ [_]).length < r.vars.length - x.length; rw [List.length_append]; exact hme)
        · simp only [List.length_append, List.length_cons, List.length_nil]
          rw [of1 hsx, List.map_append, ← hx]
          rfl
        · unfold BRow
          rw [bools_snoc, List.length_append]; exact hrow2
        · simp only [List.length_append, List.length_cons, List.length_nil]; exact inc
      · have hd2 : decide ((x.length : Int) < (r.vars.length : Int)) = false := decide_eq_false (by omega)
        have hxe : x.length = r.vars.length := by omega
        have hxo : x = own.map fun s => has s k := by rw [hxe, ← hol, List.take_length] at hx; exact hx
        refine TC.pull (fun w h => (lend h).1) fun hle2 => ?_
        refine TC.turn (fun w h => (lend h).2) ?_
        obtain ⟨XA, xc, rfl, _, hSx⟩ := OwnRow.lent (m := m') hrow (bools_len x) (bools_length x) (by omega)
        have hft := fun (w : World) (L : Own) (hs : St (memO m' e) L w) => fits_c r.kind XA xc x hkr.1 hkr.2 (by rw [hxe]; exact hr.2.2.2) (memO m' e) hSx L w hs
        rw [hxo, hask k] at hft
        rw [← hxo] at hft
        cases hq : asksB r.kind (has (getL l (r.vars.getD 0 0)) k) (has (getL l (r.vars.getD 1 0)) k) (has (getL l (r.vars.getD 2 0)) k) with
        | false =>
          rw [hq] at hft
          have hfal : heldB r l = false := by rw [hh, List.all_eq_false]; exact ⟨k, List.mem_range.2 hlt, by rw [hq]; simp⟩
          repeat' (first | (apply a_call; exact EvC.callV rfl rfl (fun w hs => hft w _ hs); exact rfl; exact wd; rintro ⟨⟩) | refine TC.seq ?_ | refine TC.region ?_ | refine TR.nil ?_ | refine Post.then_normal ?_ | refine TC.ret ?_ | refine TC.exit ?_ | (apply TC.cond_t; exact rfl) | (apply TC.cond_bf; exact rfl; assumption) | refine Post.then_ret ?_ | refine Post.then_exit ?_ | refine Post.block_ret ?_ | refine Post.block_here ?_ | (apply a_move; exact a_moves) | (apply a_assign; exact a_assigns) | (apply a_fieldAddr; exact a_fieldAddrs) | (apply a_load; exact a_loads) | (apply a_len; exact a_lens) | (apply a_unOp; exact a_unOps) | (apply a_blss; exact a_blsss))
          refine Post.body_ret _ (ResL.one rfl (ResV.tmp rfl)) fun w h => ⟨by rw [hfal], ?_⟩
          exact (h.weaken (hle.trans hle2)).tail
        | true =>
          rw [hq] at hft
          repeat' (first | (apply a_call; exact EvC.callV rfl rfl (fun w hs => hft w _ hs); exact rfl; exact wd; rintro ⟨⟩) | refine TC.seq ?_ | refine TC.region ?_ | refine TR.nil ?_ | refine Post.then_normal ?_ | refine TC.skip ?_ | refine TC.exit ?_ | (apply TC.cond_f; exact rfl) | (apply TC.cond_bf; exact rfl; assumption) | refine Post.then_exit ?_ | refine Post.block_normal ?_ | refine Post.block_here ?_ | (apply a_move; exact a_moves) | (apply a_assign; exact a_assigns) | (apply a_fieldAddr; exact a_fieldAddrs) | (apply a_load; exact a_loads) | (apply a_len; exact a_lens) | (apply a_unOp; exact a_unOps) | (apply a_blss; exact a_blsss) | (apply a_badd; exact a_badds))
          refine Post.nextP (k + 1) ⟨by omega, fun e' he => ?_⟩ inc (fun w h => h.weaken hle2) (by omega)
          by_cases h : e' = k
          · rw [h]; exact hq
          · exact hno e' (by omega)
    · have hd : decide ((k : Int) < 12) = false := decide_eq_false (by omega)
      have htr : heldB r l = true := by rw [hh, List.all_eq_true]; exact fun e he => hno e (by have := List.mem_range.1 he; omega)
      repeat' (first | refine TC.seq ?_ | refine TC.region ?_ | refine TR.nil ?_ | refine Post.then_normal ?_ | refine TC.ret ?_ | refine TC.exit ?_ | (apply TC.cond_bf; exact rfl; assumption) | refine Post.then_exit ?_ | refine Post.block_here ?_ | (apply a_move; exact a_moves) | (apply a_assign; exact a_assigns) | (apply a_blss; exact a_blsss))
      refine Post.body_ret _ (ResL.one rfl (ResV.tmp rfl)) fun w h => ⟨by rw [htr], ?_⟩
      exact (h.weaken hle).tail
end Go.Proofs.YtgpgjpcebajofaaGreatDoor
set_option maxHeartbeats 4000000
set_option linter.unusedVariables false
set_option linter.unusedSimpArgs false
set_option maxRecDepth 100000
namespace Go.Proofs.YtgpgjpcebajofaaGreatDoor
open Go Go.XC Go.RowKit Go.SetsP
attribute [local irreducible] Post TC TR D WL EvS EvC Wd ResL Code.wpIn Exit.then Exit.inBlock Exit.noGoto LoopK LoopP bodyPostM Reads Calls

/-! ### Some rules of a problem -/
def pk (lw : List Nat) (but : Int) (k : Nat) : List Nat := ((lw.zipIdx.take k).filter fun x => (x.2 : Int) != but).map Prod.fst
theorem pk_succ {lw : List Nat} {but : Int} {k n : Nat} (h : lw[k]? = some n) : pk lw but (k + 1) = pk lw but k ++ if ((k : Int) != but) = true then [n] else [] := by
  have hz : lw.zipIdx[k]? = some (n, k) := by rw [List.getElem?_zipIdx, h]; simp
  unfold pk
  rw [of1 hz, List.filter_append, List.map_append]
  congr 1
  by_cases hk : ((k : Int) != but) = true
  · rw [if_pos hk, List.filter_cons, if_pos (by exact hk)]; rfl
  · rw [if_neg hk, List.filter_cons, if_neg (by exact hk)]; rfl
theorem pk_len (lw : List Nat) (but : Int) (k : Nat) : (pk lw but k).length ≤ k := by
  unfold pk
  rw [List.length_map]
  exact Nat.le_trans (List.length_filter_le _ _) (by rw [List.length_take]; omega)
theorem pk_mem {lw : List Nat} {but : Int} {k n : Nat} (h : n ∈ pk lw but k) : n ∈ lw := by
  unfold pk at h
  obtain ⟨⟨a, i⟩, hx, rfl⟩ := List.mem_map.1 h
  have := List.mem_of_mem_take (List.mem_filter.1 hx).1
  exact List.mem_of_getElem? (List.mk_mem_zipIdx_iff_getElem?.1 this)
def pkA (lw : List Nat) (but : Int) : List Nat := pk lw but lw.length
theorem pkA_none (lw : List Nat) : pkA lw (-1) = lw := by
  unfold pkA pk
  rw [List.take_of_length_le (by simp), filter_all (fun x _ => by simp)]
  exact List.zipIdx_map_fst 0 lw
structure Gk where
  k : Nat
  v : Value
  e : Option (Nat × Obj)
theorem chosen_c (p : Pb) (pcs : Array Value) (W : Option Addr) (kw : Nat) (lw : List Nat) (but : Int) (hlw : ∀ k, k ∈ lw → k < p.rules.length) (hln : lw.length ≤ 12) (m : Mem) (hpc : PbC m p pcs) (hW : Sl m 1 W (ints (zs lw))) (L : Own) (w : World) (hs : St m L w) :
    Calls Tryz.prog 15 #[.agg pcs, .slice W lw.length kw, .int .i64 but] w fun x w' => ∃ y : { y : Mem × Array Value // m.Le y.1 ∧ PbC y.1 (selP p (pkA lw but)) y.2 }, x = .returned (.agg y.1.2) ∧ St y.1.1 L w' := by
  obtain ⟨BA, bc, RA, rc, rfl, hBA, hRA⟩ := hpc
  have hrb := hRA.big
  refine calls_of_TC (args := [_, _, _]) Tryz.func15 rfl Tryz.ntmps15 (Nat.le_of_ble_eq_true rfl) hs ?_
  repeat' (first | refine TC.seq ?_ | refine TC.region ?_ | refine TR.nil ?_ | refine Post.then_normal ?_ | refine TC.block ?_ | (apply TR.st1 (o := ⟨_, .build _ _, _, _, _, _⟩); exact rfl; exact rfl; exact rfl; (first | exact Wd.plain rfl | exact Wd.on rfl rfl rfl); exact EvS.buildC (cells := #[.slice BA p.bounds.length bc, .slice none 0 0]) rfl (by kernel_rfl)) | (apply a_move; exact a_moves) | (apply a_fieldAddr; exact a_fieldAddrs) | (apply a_load; exact a_loads) | (apply a_len; exact a_lens) | (apply c_boxA; exact c_boxAs; exact rfl; intro g) | (apply c_alloc; exact c_allocs; exact rfl; intro g) | (apply c_storeW; exact c_storeWs; rintro ⟨⟩))
  rename_i gp gres
  obtain ⟨gq, hgq⟩ : ∃ x, x = g := ⟨_, rfl⟩
  subst hgq
  obtain ⟨zres, hzr⟩ : ∃ z, z = (Value.agg #[.slice none 0 0, .slice none 0 0]).cells := ⟨_, rfl⟩
  rw [← hzr]
  have hzs : zres.size = 2 := by rw [hzr]; rfl
  refine TC.turn (fun w h => h.addNone) ?_
  refine TC.loopP (X := Gk) (fun x => x.k ≤ lw.length ∧ RRow m x.v ((pk lw but x.k).map fun i => p.rules.getD i default) x.e)
    (fun x => [(15, .int .i64 (x.k : Int)), (14, .int .i64 (lw.length : Int)), (13, .slice W lw.length kw), (7, .pointer (some ⟨gq, 0, none⟩)), (6, .pointer (some ⟨gres, 0, none⟩)), (3, .pointer (some ⟨gp, 0, none⟩)), (2, .int .i64 but)])
    (fun x => St m (x.e :: some (gq, .cells #[.slice BA p.bounds.length bc, x.v] 25 (0, 0)) :: some (gres, .cells zres 25 (0, 0)) :: some (gp, .cells #[.slice BA p.bounds.length bc, .slice RA p.rules.length rc] 25 (0, 0)) :: L)) (fun x => lw.length - x.k) ⟨0, .slice none 0 0, none⟩ ⟨Nat.zero_le _, ⟨[], OwnRow.nil, rfl, fun i r cs h => by simp [pk] at h⟩⟩ inc (fun w h => h) ?_
  rintro ⟨k, v, e⟩ ⟨hk, hrow⟩
  simp only at hk hrow ⊢
  by_cases hlt : k < lw.length
  · obtain ⟨n, hn⟩ : ∃ n, lw[k]? = some n := ⟨_, List.getElem?_eq_getElem hlt⟩
    have hnl : n < p.rules.length := hlw n (List.mem_of_getElem? hn)
    obtain ⟨r, hr⟩ : ∃ r, p.rules[n]? = some r := ⟨_, List.getElem?_eq_getElem hnl⟩
    have hgd : p.rules.getD n default = r := by rw [List.getD_eq_getElem?_getD, hr]; rfl
    obtain ⟨g1, oo, blk, T, fr, hAe, hmm, hc⟩ := hW.get1 (k := k) (v := .int .i64 (n : Int)) (by simp [ints, zs, hn])
    obtain ⟨g3, o3, blk3, T3, fr3, B3, c3, hR1, hR2, hR3, hR4, hR5⟩ := hRA.get hr
    have hd : decide ((k : Int) < (lw.length : Int)) = true := decide_eq_true (by omega)
    have hps := pk_succ (but := but) hn
    have hpl := pk_len lw but k
    by_cases hb : ((k : Int) != but) = true
    · rw [if_pos hb] at hps
      have hd3 : decide ((n : Int) ≥ 0) = true := decide_eq_true (by omega)
      have hd4 : decide ((n : Int) < (p.rules.length : Int)) = true := decide_eq_true (by omega)
      obtain ⟨css, hcss, hcl, hcr⟩ := hrow
      have hlq : ((pk lw but k).map fun i => p.rules.getD i default).length = (pk lw but k).length := by simp
      rw [hlq] at hcl hcss
      repeat' (first | rw [hb] | rw [hd3] | rw [hd4] | refine TC.seq ?_ | refine TC.region ?_ | refine TR.nil ?_ | refine Post.then_normal ?_ | refine TC.block ?_ | refine TC.skip ?_ | (apply TC.cond_t; exact rfl) | (apply TC.cond_bt; exact rfl; assumption) | (apply a_gt; exact a_gss; (first | exact rfl | assumption)) | (apply a_move; exact a_moves) | (apply a_assign; exact a_assigns) | (apply a_fieldAddr; exact a_fieldAddrs) | (apply a_load; exact a_loads) | (apply a_len; exact a_lens) | (apply a_bneq; exact a_bneqs) | (apply a_blss; exact a_blsss) | (apply a_bgeq; exact a_bgeqs) | (apply a_pick; exact a_picks) | (apply a_indexAddr; exact a_indexAddrs))
      apply TC.drawL (L1 := [e]) mixed
      repeat' (first | (apply DW.chx (o := ⟨_, .call _, _, _, _, _⟩); exact rfl; exact wd; (apply EvC.append; exact rfl; exact rfl; exact hcss; exact Rep1.tail Rep1.head; (apply RdC.whole; (first | exact Reads.mem (by assumption) | exact Reads.own (by repeat first | exact List.Mem.head _ | assumption | apply List.Mem.tail) | assumption)); exact rfl; exact (by first | exact (fun v hv => by simp at hv; rcases hv with rfl | rfl | rfl | rfl | rfl | rfl | rfl | rfl <;> rfl) | exact (fun v hv => by simp at hv; rcases hv with rfl | rfl | rfl | rfl | rfl | rfl | rfl <;> rfl) | exact (fun v hv => by simp at hv; rcases hv with rfl | rfl | rfl | rfl <;> rfl) | exact (fun v hv => by simp at hv; rcases hv with rfl | rfl <;> rfl) | exact (fun v hv => by simp at hv; subst hv; rfl)); exact rfl; decide; omega; (intro e2; exact Rep1.tail Rep1.head)); exact ownRow_ex (by have h4 : ∀ cs, cs ∈ css → cs.length = 4 := (fun cs hc => by obtain ⟨i, hi, rfl⟩ := List.mem_iff_getElem.1 hc; obtain ⟨W, c, e, _⟩ := hcr i _ _ (List.getElem?_eq_getElem (by rw [List.length_map, ← hcl]; exact hi)) (List.getElem?_eq_getElem hi); rw [e]; rfl); rw [List.length_append, flatten_length h4, hcl]; simp; omega) (by simp only [maxLen]; omega); exact subs; rintro ⟨⟨v2, e2⟩, hrow3⟩) | (apply DW.tail; exact rfl; kernel_rfl) | (apply e_move; exact d_moves) | (apply e_fieldAddr; exact d_fieldAddrs) | (apply e_load; exact d_loads) | (apply e_indexAddr; exact d_indexAddrs) | (apply ec_buildA; exact c_buildAs; exact inferInstance; exact subs; intro g))
      simp only at hrow3 ⊢
      have h3v := ownRow_one hrow3
      repeat' (first | (apply TR.ch0 (o := ⟨_, .store _ _ _, _, _, _, _⟩); exact rfl; exact rfl; exact Wd.plain rfl; exact EvC.store1 rfl rfl h3v (by repeat first | exact Upd.head | apply Upd.tail) (by simp); rintro ⟨⟩) | refine TC.region ?_ | refine TR.nil ?_ | refine Post.then_normal ?_ | refine Post.block_normal ?_ | (apply a_move; exact a_moves) | (apply a_fieldAddr; exact a_fieldAddrs) | (apply a_badd; exact a_badds))
      refine Post.nextP ⟨k + 1, v2, e2⟩ ⟨by simp only; omega, ?_⟩ inc (fun w h => h.tail) (by simp only; omega)
      refine ⟨css ++ [[.int .i64 r.kind, .slice B3 r.vars.length c3, .int .i64 r.low, .int .i64 r.high]], ?_, ?_, ?_⟩
      · simp only
        rw [hps, List.length_map, List.length_append, List.flatten_append]
        exact hrow3
      · simp only
        rw [hps, List.length_map, List.length_append, List.length_append, hcl]; rfl
      · intro i t cs hit hics
        simp only at hit
        rw [hps, List.map_append] at hit
        by_cases hi : i < (pk lw but k).length
        · rw [List.getElem?_append_left (by simpa using hi)] at hit
          rw [List.getElem?_append_left (by omega)] at hics
          exact hcr i t cs hit hics
        · rw [List.getElem?_append_right (by simpa using hi)] at hit
          rw [List.getElem?_append_right (by omega), hcl] at hics
          rw [List.length_map] at hit
          cases hz : i - (pk lw but k).length with
          | zero =>
            rw [hz] at hit hics
            simp only [List.map_cons, List.getElem?_cons_zero, Option.some.injEq] at hit hics
            subst hics
            rw [hgd] at hit
            subst hit
            exact ⟨B3, c3, rfl, hR4, hR5⟩
          | succ j => rw [hz] at hit; simp at hit
    · rw [if_neg hb, List.append_nil] at hps
      rw [Bool.not_eq_true] at hb
      repeat' (first | rw [hb] | refine TC.seq ?_ | refine TC.region ?_ | refine TR.nil ?_ | refine Post.then_normal ?_ | refine TC.block ?_ | refine TC.skip ?_ | (apply TC.cond_f; exact rfl) | (apply TC.cond_bt; exact rfl; assumption) | refine Post.block_normal ?_ | (apply a_sk; exact a_sks) | (apply a_gf; exact a_gss; (first | exact rfl | assumption)) | (apply a_move; exact a_moves) | (apply a_assign; exact a_assigns) | (apply a_load; exact a_loads) | (apply a_bneq; exact a_bneqs) | (apply a_blss; exact a_blsss) | (apply a_badd; exact a_badds) | (apply a_pick; exact a_picks) | (apply a_indexAddr; exact a_indexAddrs))
      refine Post.nextP ⟨k + 1, v, e⟩ ⟨by simp only; omega, by simp only; rw [hps]; exact hrow⟩ inc (fun w h => h) (by simp only; omega)
  · have hd : decide ((k : Int) < (lw.length : Int)) = false := decide_eq_false (by omega)
    obtain rfl : k = lw.length := by omega
    refine TC.pull (fun w h => (lend h).1) fun hle2 => ?_
    refine TC.turn (fun w h => (lend h).2) ?_
    have hpl := pk_len lw but lw.length
    obtain ⟨QA, qc, rfl, hQS⟩ := hrow.lent hle2 (by rw [List.length_map]; omega)
    repeat' (first | refine TC.seq ?_ | refine TC.region ?_ | refine TR.nil ?_ | refine Post.then_normal ?_ | refine TC.ret ?_ | refine TC.exit ?_ | (apply TC.cond_bf; exact rfl; assumption) | refine Post.then_exit ?_ | refine Post.block_here ?_ | (apply a_load; exact a_loads) | (apply a_blss; exact a_blsss) | (apply c_storeW; exact c_storeWs; rintro ⟨⟩))
    refine Post.body_ret _ (ResL.one rfl (ResV.cellW (n := 2) rfl (Reads.own (by repeat first | exact List.Mem.head _ | apply List.Mem.tail)) rfl)) ?_
    intro w h
    exact ⟨⟨(_, _), hle2, BA, bc, QA, qc, rfl, hBA.mono hle2, hQS⟩, rfl, h.tail.tail.tail⟩
end Go.Proofs.YtgpgjpcebajofaaGreatDoor
set_option maxHeartbeats 4000000
set_option linter.unusedVariables false
set_option linter.unusedSimpArgs false
set_option maxRecDepth 100000
namespace Go.Proofs.YtgpgjpcebajofaaGreatDoor
open Go Go.XC Go.RowKit Go.SetsP
attribute [local irreducible] Post TC TR D WL EvS EvC Wd ResL Code.wpIn Exit.then Exit.inBlock Exit.noGoto LoopK LoopP bodyPostM Reads Calls

/-! ### The law's closures -/
section
variable {p : Pb} {gl T : Nat} {C : Option Addr} {cc : Nat} {l : List BV} {m : Mem} {L : Own}
theorem neg_loose1 (hp : OkP p) (hl : l.length = p.bounds.length) (hC : Sl m 1 C (u64s l)) (hg : some (gl, Obj.cells #[.slice C l.length cc] T (0, 0)) ∈ L) (x : Rl) (B : Option Addr) (c : Nat) (hx : x ∈ p.rules) (hB : Sl m 1 B (ints x.vars) ∧ x.vars.length ≤ c) (w : World) (hs : St m L w) :
    Calls Tryz.prog 28 (#[rlV x B c] ++ #[.pointer (some ⟨gl, 0, none⟩)]) w fun r w' => r = .returned (.bool (!heldB x l)) ∧ St m L w' := by
  have hh := fun (w : World) (L : Own) (hs : St m L w) => held_c x (hp.ok.rl x hx) B C c cc l (fun v hv => by have := rule_len hp.rl hx v hv; omega) m hB.1 hC L w hs
  unfold rlV at hh ⊢
  show Calls _ _ #[_, _] _ _
  refine calls_of_TC (args := [_, _]) Tryz.func28 rfl Tryz.ntmps28 (Nat.le_of_ble_eq_true rfl) hs ?_
  repeat' (first | (apply a_call; exact EvC.callV rfl rfl (fun w hs => hh w _ hs); exact rfl; exact wd; rintro ⟨⟩) | refine TC.seq ?_ | refine TC.region ?_ | refine TR.nil ?_ | refine Post.then_normal ?_ | refine TC.ret ?_ | (apply a_assign; exact a_assigns) | (apply a_load; exact a_loads) | (apply a_unOp; exact a_unOps) | (apply c_boxA; exact c_boxAs; exact rfl; intro g))
  refine Post.body_ret _ (ResL.one rfl (ResV.tmp rfl)) ?_
  exact fun w h => ⟨rfl, h.tail⟩
theorem neg_found11 (hp : OkP p) (hl : l.length = p.bounds.length) (hC : Sl m 1 C (u64s l)) (hg : some (gl, Obj.cells #[.slice C l.length cc] T (0, 0)) ∈ L) (x : Rl) (B : Option Addr) (c : Nat) (hx : x ∈ p.rules) (hB : Sl m 1 B (ints x.vars) ∧ x.vars.length ≤ c) (w : World) (hs : St m L w) :
    Calls Tryz.prog 41 (#[rlV x B c] ++ #[.pointer (some ⟨gl, 0, none⟩)]) w fun r w' => r = .returned (.bool (!heldB x l)) ∧ St m L w' := by
  have hh := fun (w : World) (L : Own) (hs : St m L w) => held_c x (hp.ok.rl x hx) B C c cc l (fun v hv => by have := rule_len hp.rl hx v hv; omega) m hB.1 hC L w hs
  unfold rlV at hh ⊢
  show Calls _ _ #[_, _] _ _
  refine calls_of_TC (args := [_, _]) Tryz.func41 rfl Tryz.ntmps41 (Nat.le_of_ble_eq_true rfl) hs ?_
  repeat' (first | (apply a_call; exact EvC.callV rfl rfl (fun w hs => hh w _ hs); exact rfl; exact wd; rintro ⟨⟩) | refine TC.seq ?_ | refine TC.region ?_ | refine TR.nil ?_ | refine Post.then_normal ?_ | refine TC.ret ?_ | (apply a_assign; exact a_assigns) | (apply a_load; exact a_loads) | (apply a_unOp; exact a_unOps) | (apply c_boxA; exact c_boxAs; exact rfl; intro g))
  refine Post.body_ret _ (ResL.one rfl (ResV.tmp rfl)) ?_
  exact fun w h => ⟨rfl, h.tail⟩
theorem fits3 (hp : OkP p) (hl : l.length = p.bounds.length) (hC : Sl m 1 C (u64s l)) (hg : some (gl, Obj.cells #[.slice C l.length cc] T (0, 0)) ∈ L) (x : Rl) (B : Option Addr) (c : Nat) (hx : x ∈ p.rules) (hB : Sl m 1 B (ints x.vars) ∧ x.vars.length ≤ c) (w : World) (hs : St m L w) :
    Calls Tryz.prog 35 (#[rlV x B c] ++ #[.pointer (some ⟨gl, 0, none⟩)]) w fun r w' => r = .returned (.bool (heldB x l)) ∧ St m L w' := by
  have hh := fun (w : World) (L : Own) (hs : St m L w) => held_c x (hp.ok.rl x hx) B C c cc l (fun v hv => by have := rule_len hp.rl hx v hv; omega) m hB.1 hC L w hs
  unfold rlV at hh ⊢
  show Calls _ _ #[_, _] _ _
  refine calls_of_TC (args := [_, _]) Tryz.func35 rfl Tryz.ntmps35 (Nat.le_of_ble_eq_true rfl) hs ?_
  repeat' (first | (apply a_call; exact EvC.callV rfl rfl (fun w hs => hh w _ hs); exact rfl; exact wd; rintro ⟨⟩) | refine TC.seq ?_ | refine TC.region ?_ | refine TR.nil ?_ | refine Post.then_normal ?_ | refine TC.ret ?_ | (apply a_assign; exact a_assigns) | (apply a_load; exact a_loads) | (apply c_boxA; exact c_boxAs; exact rfl; intro g))
  refine Post.body_ret _ (ResL.one rfl (ResV.tmp rfl)) ?_
  exact fun w h => ⟨rfl, h.tail⟩
theorem neg2_loose4 {gf T2 : Nat} (hp : OkP p) (hl : l.length = p.bounds.length) (hC : Sl m 1 C (u64s l)) (hg : some (gl, Obj.cells #[.slice C l.length cc] T (0, 0)) ∈ L) (hf : some (gf, Obj.cells #[.func (.func 35) #[] #[.pointer (some ⟨gl, 0, none⟩)]] T2 (0, 0)) ∈ L) (x : Rl) (B : Option Addr) (c : Nat) (hx : x ∈ p.rules) (hB : Sl m 1 B (ints x.vars) ∧ x.vars.length ≤ c) (w : World) (hs : St m L w) :
    Calls Tryz.prog 36 (#[rlV x B c] ++ #[.pointer (some ⟨gf, 0, none⟩)]) w fun r w' => r = .returned (.bool (!heldB x l)) ∧ St m L w' := by
  have hh := fun (gb : Nat) (o : Obj) (w : World) (hs : St m (some (gb, o) :: L) w) => fits3 (T := T) (L := some (gb, o) :: L) hp hl hC (List.mem_cons_of_mem _ hg) x B c hx hB w hs
  unfold rlV at hh ⊢
  show Calls _ _ #[_, _] _ _
  refine calls_of_TC (args := [_, _]) Tryz.func36 rfl Tryz.ntmps36 (Nat.le_of_ble_eq_true rfl) hs ?_
  repeat' (first | (apply a_call; exact EvC.callC rfl rfl (fun w hs => hh _ _ w hs); exact rfl; exact wd; rintro ⟨⟩) | refine TC.seq ?_ | refine TC.region ?_ | refine TR.nil ?_ | refine Post.then_normal ?_ | refine TC.ret ?_ | (apply a_assign; exact a_assigns) | (apply a_load; exact a_loads) | (apply a_unOp; exact a_unOps) | (apply c_boxA; exact c_boxAs; exact rfl; intro g))
  refine Post.body_ret _ (ResL.one rfl (ResV.tmp rfl)) ?_
  exact fun w h => ⟨rfl, h.tail⟩
theorem neg2_loose5 {gf T2 : Nat} (hp : OkP p) (hl : l.length = p.bounds.length) (hC : Sl m 1 C (u64s l)) (hg : some (gl, Obj.cells #[.slice C l.length cc] T (0, 0)) ∈ L) (hf : some (gf, Obj.cells #[.func (.func 35) #[] #[.pointer (some ⟨gl, 0, none⟩)]] T2 (0, 0)) ∈ L) (x : Rl) (B : Option Addr) (c : Nat) (hx : x ∈ p.rules) (hB : Sl m 1 B (ints x.vars) ∧ x.vars.length ≤ c) (w : World) (hs : St m L w) :
    Calls Tryz.prog 37 (#[rlV x B c] ++ #[.pointer (some ⟨gf, 0, none⟩)]) w fun r w' => r = .returned (.bool (!heldB x l)) ∧ St m L w' := by
  have hh := fun (gb : Nat) (o : Obj) (w : World) (hs : St m (some (gb, o) :: L) w) => fits3 (T := T) (L := some (gb, o) :: L) hp hl hC (List.mem_cons_of_mem _ hg) x B c hx hB w hs
  unfold rlV at hh ⊢
  show Calls _ _ #[_, _] _ _
  refine calls_of_TC (args := [_, _]) Tryz.func37 rfl Tryz.ntmps37 (Nat.le_of_ble_eq_true rfl) hs ?_
  repeat' (first | (apply a_call; exact EvC.callC rfl rfl (fun w hs => hh _ _ w hs); exact rfl; exact wd; rintro ⟨⟩) | refine TC.seq ?_ | refine TC.region ?_ | refine TR.nil ?_ | refine Post.then_normal ?_ | refine TC.ret ?_ | (apply a_assign; exact a_assigns) | (apply a_load; exact a_loads) | (apply a_unOp; exact a_unOps) | (apply c_boxA; exact c_boxAs; exact rfl; intro g))
  refine Post.body_ret _ (ResL.one rfl (ResV.tmp rfl)) ?_
  exact fun w h => ⟨rfl, h.tail⟩
theorem eq_loose2 (hC : Sl m 1 C (u64s l)) (hg : some (gl, Obj.cells #[.slice C l.length cc] T (0, 0)) ∈ L) (x : List BV) (B : Option Addr) (cb : Nat) (hB : Sl m 1 B (u64s x)) (w : World) (hs : St m L w) :
    Calls Tryz.prog 31 (#[.slice B x.length cb] ++ #[.pointer (some ⟨gl, 0, none⟩)]) w fun r w' => r = .returned (.bool (decide (x = l))) ∧ St m L w' := by
  have hh := fun (w : World) (L : Own) (hs : St m L w) => equalU_c B C cb cc x l m hB hC L w hs
  show Calls _ _ #[_, _] _ _
  refine calls_of_TC (args := [_, _]) Tryz.func31 rfl Tryz.ntmps31 (Nat.le_of_ble_eq_true rfl) hs ?_
  repeat' (first | (apply a_call; exact EvC.callV rfl rfl (fun w hs => hh w _ hs); exact rfl; exact wd; rintro ⟨⟩) | refine TC.seq ?_ | refine TC.region ?_ | refine TR.nil ?_ | refine Post.then_normal ?_ | refine TC.ret ?_ | (apply a_move; exact a_moves) | (apply a_assign; exact a_assigns) | (apply a_load; exact a_loads))
  refine Post.body_ret _ (ResL.one rfl (ResV.tmp rfl)) ?_
  exact fun w h => ⟨rfl, h⟩
theorem eq_loose6 (hC : Sl m 1 C (u64s l)) (hg : some (gl, Obj.cells #[.slice C l.length cc] T (0, 0)) ∈ L) (x : List BV) (B : Option Addr) (cb : Nat) (hB : Sl m 1 B (u64s x)) (w : World) (hs : St m L w) :
    Calls Tryz.prog 38 (#[.slice B x.length cb] ++ #[.pointer (some ⟨gl, 0, none⟩)]) w fun r w' => r = .returned (.bool (decide (x = l))) ∧ St m L w' := by
  have hh := fun (w : World) (L : Own) (hs : St m L w) => equalU_c B C cb cc x l m hB hC L w hs
  show Calls _ _ #[_, _] _ _
  refine calls_of_TC (args := [_, _]) Tryz.func38 rfl Tryz.ntmps38 (Nat.le_of_ble_eq_true rfl) hs ?_
  repeat' (first | (apply a_call; exact EvC.callV rfl rfl (fun w hs => hh w _ hs); exact rfl; exact wd; rintro ⟨⟩) | refine TC.seq ?_ | refine TC.region ?_ | refine TR.nil ?_ | refine Post.then_normal ?_ | refine TC.ret ?_ | (apply a_move; exact a_moves) | (apply a_assign; exact a_assigns) | (apply a_load; exact a_loads))
  refine Post.body_ret _ (ResL.one rfl (ResV.tmp rfl)) ?_
  exact fun w h => ⟨rfl, h⟩
end
end Go.Proofs.YtgpgjpcebajofaaGreatDoor
