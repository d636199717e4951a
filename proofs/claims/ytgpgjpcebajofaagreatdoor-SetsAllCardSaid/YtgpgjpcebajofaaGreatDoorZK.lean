import Derived.Test.YtgpgjpcebajofaaGreatDoorZJ
import Derived.ArgAppend
import Derived.Test.YtgpgjpcebajofaaGreatDoorZB
import Derived.Sort.Statements
set_option linter.unusedVariables false
set_option linter.unusedSimpArgs false
set_option linter.all false
set_option maxHeartbeats 4000000
set_option linter.unusedVariables false
set_option linter.unusedSimpArgs false
set_option maxRecDepth 100000
namespace Go.Proofs.YtgpgjpcebajofaaGreatDoor
open Go Go.XC Go.RowKit Go.SetsP
attribute [local irreducible] Post TC TR D WL EvS EvC Wd ResL Code.wpIn Exit.then Exit.inBlock Exit.noGoto LoopK LoopP bodyPostM Reads Calls

/-! ### All sets between bounds -/
/-- What was found so far, in the world. -/
def OS (m : Mem) (go : Nat) (Lb : Own) (o : List (List BV)) (w : World) : Prop := ∃ m' v e, m.Le m' ∧ SRow m' v o e ∧ St m' (e :: some (go, .cells #[v] 30 (0, 0)) :: Lb) w
theorem OS.weaken {m m1 : Mem} {go : Nat} {Lb : Own} {o : List (List BV)} {w : World} (h : OS m1 go Lb o w) (hm : m.Le m1) : OS m go Lb o w := let ⟨m', v, e, h1, h2, h3⟩ := h; ⟨m', v, e, hm.trans h1, h2, h3⟩
theorem OS.drop {m : Mem} {go : Nat} {x : Option (Nat × Obj)} {Lb : Own} {o : List (List BV)} {w : World} (h : OS m go (x :: Lb) o w) : OS m go Lb o w := let ⟨m', v, e, h1, h2, h3⟩ := h; ⟨m', v, e, h1, h2, h3.sublist (List.Sublist.cons_cons _ (List.Sublist.cons_cons _ (List.sublist_cons_self _ _)))⟩
theorem OS.drew {m : Mem} {go : Nat} {Lb : Own} {o : List (List BV)} {w : World} (h : OS m go Lb o w) (d : Nat) : OS m go Lb o { w with drawn := d } := let ⟨m', v, e, h1, h2, h3⟩ := h; ⟨m', v, e, h1, h2, h3.drew d⟩
def yieldB (p : Pb) (l : List BV) (o : List (List BV)) : List (List BV) := if p.rules.any (fun x => !heldB x l) then o else o ++ [l]
theorem SRow.snoc {m m' : Mem} {o : List (List BV)} {css : List (List Value)} {v2 : Value} {e2 : Option (Nat × Obj)} {W : Option Addr} {c : Nat} {l : List BV} (hm : m.Le m') (hl : css.length = o.length) (h3 : ∀ (k : Nat) (x : List BV) (cs : List Value), o[k]? = some x → css[k]? = some cs → SolC m x cs)
    (hrow : OwnRow v2 36 1 (o.length + 1) (css.flatten ++ [.slice W l.length c]) e2) (hW : Sl m' 1 W (u64s l)) : SRow m' v2 (o ++ [l]) e2 := by
  refine ⟨css ++ [[.slice W l.length c]], ?_, by rw [List.length_append, List.length_append, hl]; rfl, fun i t cs hit hics => ?_⟩
  · rw [List.flatten_append, List.length_append]; exact hrow
  · by_cases hi : i < o.length
    · rw [List.getElem?_append_left hi] at hit
      rw [List.getElem?_append_left (by omega)] at hics
      obtain ⟨W, c, g1, g2⟩ := h3 i t cs hit hics
      exact ⟨W, c, g1, g2.mono hm⟩
    · rw [List.getElem?_append_right (by omega)] at hit
      rw [List.getElem?_append_right (by omega), hl] at hics
      cases hz : i - o.length with
      | zero =>
        rw [hz] at hit hics
        simp at hit hics
        subst hit hics
        exact ⟨W, c, rfl, hW⟩
      | succ j => rw [hz] at hit; simp at hit
theorem yield_c (p : Pb) (pcs : Array Value) (hp : OkP p) (most : Int) (go gp gm Tp Tm : Nat) (A : Option Addr) (c : Nat) (l : List BV) (hl : l.length = p.bounds.length) (o : List (List BV)) (ho : o.length ≤ 100000) (m : Mem) (hpc : PbC m p pcs) (hA : Sl m 1 A (u64s l)) (Lb : Own)
    (hgp : some (gp, Obj.cells pcs Tp (0, 0)) ∈ Lb) (hgm : some (gm, Obj.cells #[.int .i64 most] Tm (0, 0)) ∈ Lb) (w : World) (hs : OS m go Lb o w) :
    Calls Tryz.prog 40 #[.slice A l.length c, .pointer (some ⟨gp, 0, none⟩), .pointer (some ⟨go, 0, none⟩), .pointer (some ⟨gm, 0, none⟩)] w fun x w' => x = .returned (.bool (decide (((yieldB p l o).length : Int) < most))) ∧ OS m go Lb (yieldB p l o) w' := by
  have h8 := hp.ok.b8
  obtain ⟨m', v, e, hle, hrow, hst⟩ := hs
  obtain ⟨BA, bc, RA, rc, rfl, hBA, hRA⟩ := hpc
  have hA' := hA.mono hle
  have hRA' := hRA.mono hle
  obtain ⟨css, hr1, hr2, hr3⟩ := id hrow
  obtain ⟨vA, vc, rfl, _⟩ := ownRow_slice hr1
  have hs := hst
  have hcf : ∀ (g T : Nat) (L : Own) (w : World), St m' (some (g, .cells #[.slice A l.length c] T (0, 0)) :: L) w → Calls Tryz.prog 27 #[.slice RA p.rules.length rc, .func (.func 41) #[] #[.pointer (some ⟨g, 0, none⟩)]] w fun x w' => x = .returned (.bool (p.rules.any fun x => !heldB x l)) ∧ St m' (some (g, .cells #[.slice A l.length c] T (0, 0)) :: L) w' := fun g T L w hs =>
    containsRl_c 41 #[.pointer (some ⟨g, 0, none⟩)] (fun x => !heldB x l) _ _ _ _ _ _ hs hRA' (fun x B c hx hB w hs => neg_found11 hp hl hA' (List.Mem.head _) x B c hx hB w hs)
  have hnb : decide ((o.length : Int) < most) = decide ((o.length : Int) < most) := rfl
  cases hq : p.rules.any (fun x => !heldB x l) with
  | true =>
    have hy : yieldB p l o = o := by unfold yieldB; rw [hq]; rfl
    rw [hy]
    rw [hq] at hcf
    refine calls_of_TC (args := [_, _, _, _]) Tryz.func40 rfl Tryz.ntmps40 (Nat.le_of_ble_eq_true rfl) hs ?_
    repeat' (first | (apply a_call; exact EvC.callV rfl rfl (fun w hs => hcf _ _ _ w hs); exact rfl; exact wd; rintro ⟨⟩) | refine TC.seq ?_ | refine TC.region ?_ | refine TR.nil ?_ | refine Post.then_normal ?_ | refine TC.skip ?_ | refine TC.ret ?_ | (apply TC.cond_f; exact rfl) | (apply a_assign; exact a_assigns) | (apply a_fieldAddr; exact a_fieldAddrs) | (apply a_load; exact a_loads) | (apply a_len; exact a_lens) | (apply a_unOp; exact a_unOps) | (apply a_blss; exact a_blsss) | (apply a_makeFunc; exact a_makeFuncs) | (apply c_box1; exact c_box1s; exact rfl; intro g))
    refine Post.body_ret _ (ResL.one rfl (ResV.tmp rfl)) ?_
    exact fun w h => ⟨rfl, m', _, _, hle, hrow, h.tail⟩
  | false =>
    have hy : yieldB p l o = o ++ [l] := by unfold yieldB; rw [hq]; rfl
    rw [hy]
    rw [hq] at hcf
    have hcl := fun (w : World) (L : Own) (hs : St m' L w) => cloneU_c A c l (by omega) m' L w hs hA'
    refine calls_of_TC (args := [_, _, _, _]) Tryz.func40 rfl Tryz.ntmps40 (Nat.le_of_ble_eq_true rfl) hs ?_
    repeat' (first | (apply a_call; exact EvC.callV rfl rfl (fun w hs => hcf _ _ _ w hs); exact rfl; exact wd; rintro ⟨⟩) | refine TC.seq ?_ | refine TC.region ?_ | refine TR.nil ?_ | refine Post.then_normal ?_ | (apply TC.cond_t; exact rfl) | (apply a_assign; exact a_assigns) | (apply a_fieldAddr; exact a_fieldAddrs) | (apply a_load; exact a_loads) | (apply a_unOp; exact a_unOps) | (apply a_makeFunc; exact a_makeFuncs) | (apply c_box1; exact c_box1s; exact rfl; intro g))
    refine TC.turn (fun w h => h.perm (List.Perm.swap _ _ _)) ?_
    apply TC.drawL (L1 := [e]) mixed
    have hne : Nonempty { p : Value × Option (Nat × Obj) // URow p.1 l p.2 } := ownRow_ex (by rw [u64s_flat]; simp) (by simp only [maxLen]; omega)
    repeat' (first | (apply e_call; exact EvC.callX rfl rfl (fun w hs => hcl w _ hs); exact wd; exact hne; exact subs; rintro ⟨⟨v1, e1⟩, hrow1⟩; simp only at hrow1 ⊢; obtain ⟨A1, c1, rfl, hc1⟩ := ownRow_slice hrow1) | (apply DW.chx (o := ⟨_, .call _, _, _, _, _⟩); exact rfl; exact wd; (apply EvC.append; exact rfl; exact rfl; exact hr1; exact Rep1.tail (Rep1.tail Rep1.head); (apply RdC.whole; (first | exact Reads.mem (by assumption) | exact Reads.own (by repeat first | exact List.Mem.head _ | assumption | apply List.Mem.tail) | assumption)); exact rfl; exact (by first | exact (fun v hv => by simp at hv; rcases hv with rfl | rfl | rfl | rfl | rfl | rfl | rfl | rfl <;> rfl) | exact (fun v hv => by simp at hv; rcases hv with rfl | rfl | rfl | rfl | rfl | rfl | rfl <;> rfl) | exact (fun v hv => by simp at hv; rcases hv with rfl | rfl | rfl | rfl <;> rfl) | exact (fun v hv => by simp at hv; rcases hv with rfl | rfl <;> rfl) | exact (fun v hv => by simp at hv; subst hv; rfl)); exact rfl; decide; omega; (intro e2; exact Rep1.tail (Rep1.tail Rep1.head))); exact ownRow_ex (by rw [List.length_append, flatten_length (SolS.one hr2 hr3).1, hr2]; simp) (by simp only [maxLen]; omega); exact subs; rintro ⟨⟨v2, e2⟩, hrow2⟩) | (apply DW.tail; exact rfl; kernel_rfl) | (apply e_load; exact d_loads) | (apply ec_build1; exact c_build1s; exact inferInstance; exact subs; intro g))
    simp only at hrow2 ⊢
    have h2v := ownRow_one hrow2
    obtain ⟨nA, nc, rfl, hnc⟩ := ownRow_slice hrow2
    repeat' (first | (apply TR.ch0 (o := ⟨_, .store _ _ _, _, _, _, _⟩); exact rfl; exact rfl; exact Wd.plain rfl; exact EvC.store1 rfl rfl h2v (by repeat first | exact Upd.head | apply Upd.tail) (by simp); rintro ⟨⟩) | refine TC.seq ?_ | refine TC.region ?_ | refine TR.nil ?_ | refine Post.then_normal ?_ | refine TC.ret ?_ | (apply a_assign; exact a_assigns) | (apply a_load; exact a_loads) | (apply a_len; exact a_lens) | (apply a_blss; exact a_blsss))
    refine Post.body_ret _ (ResL.one rfl (ResV.tmp rfl)) ?_
    intro w h
    obtain ⟨k1, k2⟩ := lend h.tail
    obtain ⟨A2, c2, he2, _, hS2⟩ := OwnRow.lent (m := m') hrow1 (u64s_len l) (by simp [u64s]) (by omega)
    injection he2 with q1 q2 q3
    subst q1 q3
    exact ⟨by rw [List.length_append]; rfl, memO m' e1, .slice nA (o.length + 1) nc, e2, hle.trans k1, SRow.snoc k1 hr2 hr3 hrow2 hS2, k2.sublist (List.Sublist.cons_cons _ (List.Sublist.cons _ (List.Sublist.refl _)))⟩
end Go.Proofs.YtgpgjpcebajofaaGreatDoor
/- An append onto a slice that is not the call's own, and has no room; a slice with a high bound and a limit. Nothing of a program. -/
set_option linter.unusedVariables false
namespace Go.XC
open Go Go.RowKit
section
variable {r : Option Nat} {P : Program} {N : Nat} {E : Env} {m : Mem} {L : Own} {Sb : World → Prop} {d : Option Tmp} {ty t : TypeId} {pos : String} {aft : Array Edge} {gd : Option (Nat × Bool)} {x y z : Operand}
theorem EvS.sliceHM {sz n c k q : Nat} {e : TypeId} {k1 k2 : IntKind} {A : Option Addr} [h : SliceT P t e sz] (hx : evE E x = some (.slice A n c)) (hy : evE E y = some (.int k1 (k : Int))) (hz : evE E z = some (.int k2 (q : Int))) (hk : k ≤ q) (hq : q ≤ c) :
    EvS P N ⟨d, .slice t x none (some y) (some z), ty, pos, aft, gd⟩ E Sb (.slice A k q) := fun a w ha _ => by
  have b1 : (0 : Int) ≤ (k : Int) ∧ (k : Int) ≤ (q : Int) := by omega
  have b2 : (0 : Int) ≤ (q : Int) ∧ (q : Int) ≤ (c : Int) := by omega
  simp only [execOp, ha.eval hx, ha.eval hy, ha.eval hz, Option.map_none, Option.map_some, Instr.sliceAt, Instr.slice, Instr.sliceBounds, Instr.sliceBound, asIntOf, Sem.run_bind, run_underlying h.h, Result.andThen_ok, Sem.run_pure, run_sizeOf_of h.s, if_pos b1, if_pos b2, Nat.sub_zero, Nat.zero_mul, Int.toNat_natCast]
  have e0 : (A.map fun a => a.add 0) = A := by cases A <;> simp [Addr.add]
  split
  · rfl
  · rw [e0]
theorem EvC.appendArg {T bytes n g : Nat} {zz u : Value} {A : Option Addr} {css : List (List Value)} {T' : TypeId} {fr : Nat × Nat} [hT : SliceT P t T 1] [hz : ZeroV P T zz] [hb : BytesT P T bytes] (hx : evE E x = some (.slice A n n)) (hy : evE E y = some (.slice (some ⟨g, 0, none⟩) 1 1))
    (hA : Sl m 1 A css) (hn : css.length = n) (hA0 : A = none → n = 0) (hg : some (g, .cells #[u] T' fr) ∈ L) (h1 : u.oneCell' = true) (hzz : zz.cells.size = 1) (hbig : (n + 1) * (bytes + 1) ≤ 140737488355328) :
    EvC r P N ⟨d, .call { callee := .builtin .append, args := #[x, y], argTypes := #[t, t] }, ty, pos, aft, gd⟩ E (St m L) (fun u' w => ∃ p : { p : Value × Option (Nat × Obj) // OwnRow p.1 T 1 (n + 1) (css.flatten ++ [u]) p.2 }, u' = p.1.1 ∧ St m (p.1.2 :: L) w) := by
  unfold EvC
  intro a w ha hs
  have hrun : ∃ v' w', (Builtin.append_ #[t, t] ty #[.slice A n n, .slice (some ⟨g, 0, none⟩) 1 1]).run P w = .ok v' w' ∧ ∃ e, OwnRow v' T 1 (n + 1) (css.flatten ++ [u]) e ∧ St m (e :: L) w' := by
    have hgw := hs.get hg
    have hnews : ∀ j u', [u][j]? = some u' → w.cell? ((⟨g, 0, none⟩ : Addr).add j) = some u' := by
      intro j u' hj
      rw [Addr.add_lit, cell_of hgw]
      simpa using hj
    obtain ⟨i, hi, hi1⟩ := size_of_info hT.s
    have hi2 : i.bytes = bytes := by have := hb.h; simpa [hi] using this
    have hi3 : i.zero = some zz := by have := hz.h; simpa [hi] using this
    cases A with
    | none =>
      obtain rfl := hA0 rfl
      have hc0 : css = [] := List.eq_nil_of_length_eq_zero hn
      subst hc0
      obtain ⟨v', e', w', k1, k2, k3⟩ := run_append_row (P := P) (t := t) (T := T) (sz := 1) (bytes := bytes) (zz := zz) (ty := ty) (c := 1) (k := 1) (n := 0) (news := [u]) hzz (by omega) (hs.addNone) Rep1.head OwnRow.nil
        (.inr ⟨g, 0, #[u], T', fr, rfl, Reads.own (List.mem_cons_of_mem _ hg), fun j u' hj => by simpa using hj⟩) rfl (by simpa using h1) hbig
      exact ⟨v', w', k1, e', k2, k3 _ Rep1.head⟩
    | some b =>
      have holds : ∀ j u', css.flatten[j]? = some u' → w.cell? (b.add j) = some u' := by
        intro j u' hj
        have hne : css ≠ [] := by rintro rfl; simp at hj
        rcases hA.rdc (L := L) with h0 | ⟨g0, o0, blk, T0, fr0, he, hR, hcell⟩
        · rw [h0] at hj; simp at hj
        · cases he
          rw [Addr.add_lit, cell_of (hR w hs)]
          exact hcell j u' hj
      have hfl : css.flatten.length = n * 1 := by rw [flatten_length hA.len, hn]
      obtain ⟨v', w', k1, k2, k3⟩ := run_append_arg_grows (P := P) w t ty T i zz 1 bytes hT.h hi hi3 hi1 hi2 hzz (by omega) b n n css.flatten hfl holds ⟨g, 0, none⟩ 1 1 [u] rfl hnews (by omega)
        (by simp only [maxLen]; have : (n + 1) * 1 ≤ (n + 1) * (bytes + 1) := Nat.mul_le_mul_left _ (by omega); omega) (Nat.le_trans (Nat.mul_le_mul_left _ (Nat.le_succ _)) hbig)
      rcases k2.2 with ⟨_, hn0⟩ | ⟨g2, cap2, cur, rfl, hb2, hc2, hnc, hcm, hcs, htake⟩
      · omega
      · have hst : St m L w' := hs.below ⟨k3.os, k3.tape, k3.output, k3.size, fun k hk => k3.block k hk (by simp)⟩
        have hst2 := (St.add hs hst hb2 hc2)
        rw [Nat.mul_one] at htake
        refine ⟨_, w', k1, some (g2, .cells cur T), .inr ⟨g2, cap2, cur.toList.drop (n + 1), rfl, hnc, hcm, by have := k2.1; omega, ?_, ?_⟩, hst2⟩
        · rw [← htake, List.take_append_drop]; simpa using hcs
        · rw [← htake, List.take_append_drop]
  obtain ⟨v', w', hrun, e, hp1, hp2⟩ := hrun
  simp only [execOp, resolve, invoke, builtin, Sem.run_bind, Sem.run_pure, Result.andThen_ok, List.map_toArray, List.map_cons, List.map_nil, ha.eval hx, ha.eval hy, hrun]
  exact ⟨⟨(v', e), hp1⟩, rfl, hp2⟩
end
end Go.XC
set_option maxHeartbeats 4000000
set_option linter.unusedVariables false
set_option linter.unusedSimpArgs false
set_option maxRecDepth 100000
namespace Go.Proofs.YtgpgjpcebajofaaGreatDoor
open Go Go.XC Go.RowKit Go.SetsP
attribute [local irreducible] Post TC TR D WL EvS EvC Wd ResL Code.wpIn Exit.then Exit.inBlock Exit.noGoto LoopK LoopP bodyPostM Reads Calls

/-! ### All parts of a set, in the order in which they are gone through -/
theorem and_two (x y i j : Nat) (hi : i < 2) (hj : j < 2) : (2 * x + i) &&& (2 * y + j) = 2 * (x &&& y) + (i &&& j) := by
  have hb : ∀ (a k : Nat), k < 2 → ∀ n, (2 * a + k).testBit n = if n = 0 then decide (k = 1) else a.testBit (n - 1) := fun a k hk n => by
    cases n with
    | zero => rw [if_pos rfl, Nat.testBit_zero]; congr 1; rw [eq_iff_iff]; omega
    | succ n => rw [if_neg (by omega), Nat.testBit_succ, Nat.add_sub_cancel, show (2 * a + k) / 2 = a by omega]
  have hij : (i &&& j) < 2 := Nat.lt_of_le_of_lt Nat.and_le_left hi
  apply Nat.eq_of_testBit_eq
  intro n
  rw [Nat.testBit_and, hb _ _ hi, hb _ _ hj, hb _ _ hij]
  split
  · have h1 : i = 0 ∨ i = 1 := by omega
    have h2 : j = 0 ∨ j = 1 := by omega
    rcases h1 with rfl | rfl <;> rcases h2 with rfl | rfl <;> rfl
  · rw [Nat.testBit_and]
def ens : Nat → Nat → List Nat
  | 0, _ => [0]
  | n + 1, M => (ens n (M / 2)).flatMap fun S => if M % 2 = 1 then [2 * S + 1, 2 * S] else [2 * S]
def Ch (M : Nat) : List Nat → Prop
  | [] => False
  | [a] => a = 0
  | a :: b :: r => a ≠ 0 ∧ a &&& M = a ∧ b = (a - 1) &&& M ∧ Ch M (b :: r)
theorem Ch.sub {M a : Nat} {r : List Nat} (h : Ch M (a :: r)) : a &&& M = a := by
  cases r with
  | nil => have : a = 0 := h; rw [this]; simp
  | cons b r => exact h.2.1
theorem ch_step {M : Nat} : ∀ (l : List Nat), Ch (M / 2) l → Ch M (l.flatMap fun S => if M % 2 = 1 then [2 * S + 1, 2 * S] else [2 * S]) := by
  intro l
  induction l with
  | nil => intro h; exact h
  | cons a l ih =>
    intro h
    have hM : M = 2 * (M / 2) + M % 2 := by omega
    have hsub := h.sub
    have e0 : (2 * a) &&& M = 2 * a := by
      have := and_two a (M / 2) 0 (M % 2) (by omega) (by omega)
      rw [hM]; rw [Nat.add_zero] at this; rw [this, hsub]; simp
    have e1 : M % 2 = 1 → (2 * a + 1) &&& M = 2 * a + 1 := fun h1 => by
      have := and_two a (M / 2) 1 1 (by omega) (by omega)
      rw [hM, h1, this, hsub]; rfl
    cases l with
    | nil =>
      have ha : a = 0 := h
      subst ha
      by_cases h1 : M % 2 = 1
      · simp only [List.flatMap_cons, List.flatMap_nil, if_pos h1, List.append_nil]
        exact ⟨by omega, by simpa using e1 h1, by simp, rfl⟩
      · simp only [List.flatMap_cons, List.flatMap_nil, if_neg h1, List.append_nil]
        rfl
    | cons b r =>
      obtain ⟨ha, _, hb, hc⟩ := h
      have ih' := ih hc
      have e2 : (2 * a - 1) &&& M = 2 * b + M % 2 := by
        have := and_two (a - 1) (M / 2) 1 (M % 2) (by omega) (by omega)
        rw [show 2 * (a - 1) + 1 = 2 * a - 1 by omega, ← hM, ← hb] at this
        rw [this]
        have h1 : M % 2 = 0 ∨ M % 2 = 1 := by omega
        rcases h1 with h1 | h1 <;> rw [h1] <;> rfl
      by_cases h1 : M % 2 = 1
      · simp only [List.flatMap_cons, if_pos h1, List.cons_append, List.nil_append] at ih' ⊢
        refine ⟨by omega, e1 h1, by rw [Nat.add_sub_cancel]; exact e0.symm, by omega, e0, by rw [e2, h1], ih'⟩
      · simp only [List.flatMap_cons, if_neg h1, List.cons_append, List.nil_append] at ih' ⊢
        refine ⟨by omega, e0, by rw [e2]; omega, ih'⟩
theorem ens_ch : ∀ (n M : Nat), M < 2 ^ n → Ch M (ens n M) ∧ (ens n M).head? = some M ∧ (ens n M).length ≤ 2 ^ n := by
  intro n
  induction n with
  | zero => intro M h; have : M = 0 := by omega
            subst this; exact ⟨rfl, rfl, by simp [ens]⟩
  | succ n ih =>
    intro M h
    have hp := Nat.pow_succ 2 n
    obtain ⟨h1, h2, h3⟩ := ih (M / 2) (by omega)
    refine ⟨ch_step _ h1, ?_, ?_⟩
    · unfold ens
      cases hl : ens n (M / 2) with
      | nil => rw [hl] at h2; cases h2
      | cons a r =>
        rw [hl] at h2
        have ha : a = M / 2 := by simpa using h2
        by_cases h4 : M % 2 = 1
        · simp only [List.flatMap_cons, if_pos h4, List.cons_append, List.head?_cons]; congr 1; omega
        · simp only [List.flatMap_cons, if_neg h4, List.cons_append, List.head?_cons]; congr 1; omega
    · unfold ens
      have : ∀ l : List Nat, (l.flatMap fun S => if M % 2 = 1 then [2 * S + 1, 2 * S] else [2 * S]).length ≤ 2 * l.length := by
        intro l
        induction l with
        | nil => simp
        | cons a l ih =>
          rw [List.flatMap_cons, List.length_append, List.length_cons]
          have : (if M % 2 = 1 then [2 * a + 1, 2 * a] else [2 * a]).length ≤ 2 := by split <;> simp
          omega
      have := this (ens n (M / 2))
      omega
theorem ens_mem : ∀ (n M x : Nat), M < 2 ^ n → (x ∈ ens n M ↔ x &&& M = x) := by
  intro n
  induction n with
  | zero =>
    intro M x h
    have : M = 0 := by omega
    subst this
    simp only [ens, List.mem_singleton, Nat.and_zero]
    exact ⟨fun h => h.symm, fun h => h.symm⟩
  | succ n ih =>
    intro M x h
    have hp := Nat.pow_succ 2 n
    have hM : M = 2 * (M / 2) + M % 2 := by omega
    have hx : x = 2 * (x / 2) + x % 2 := by omega
    have e := and_two (x / 2) (M / 2) (x % 2) (M % 2) (by omega) (by omega)
    rw [← hM, ← hx] at e
    have ih' := ih (M / 2) (x / 2) (by omega)
    have hk : (x % 2 &&& M % 2) < 2 := Nat.lt_of_le_of_lt Nat.and_le_left (Nat.mod_lt _ (by omega))
    unfold ens
    rw [List.mem_flatMap]
    constructor
    · rintro ⟨S, hS, hm⟩
      have hS2 : x / 2 = S := by
        split at hm
        · simp at hm; omega
        · simp at hm; omega
      rw [hS2] at ih' e
      have h3 := ih'.1 hS
      rw [h3] at e
      rw [e]
      split at hm
      · rename_i h1
        rw [h1]
        have : x % 2 = 0 ∨ x % 2 = 1 := by omega
        rcases this with h2 | h2 <;> rw [h2] <;> simp <;> omega
      · have h2 : x % 2 = 0 := by simp at hm; omega
        rw [h2]; simp; omega
    · intro hx'
      rw [hx'] at e
      refine ⟨x / 2, ih'.2 (by omega), ?_⟩
      have hq : (x % 2 &&& M % 2) = x % 2 := by omega
      split
      · simp; omega
      · rename_i h1
        have h2 : M % 2 = 0 := by omega
        rw [h2, Nat.and_zero] at hq
        simp; omega
attribute [local irreducible] ens
theorem hto {a : Nat} (h : a < 4096) : (BitVec.ofNat 64 a).toNat = a := by rw [BitVec.toNat_ofNat, Nat.mod_eq_of_lt (by omega)]
theorem ens_lt {M x : Nat} (h : M < 4096) (hx : x ∈ ens 12 M) : x &&& M = x ∧ x < 4096 := by
  have h1 := (ens_mem 12 _ x h).1 hx
  refine ⟨h1, ?_⟩
  rw [← h1]; exact Nat.lt_of_le_of_lt Nat.and_le_right h
theorem Ch.nodup {M : Nat} : ∀ {l : List Nat}, Ch M l → l.Pairwise (· > ·) := by
  intro l
  induction l with
  | nil => intro h; exact List.Pairwise.nil
  | cons a l ih =>
    intro h
    cases l with
    | nil => simp
    | cons b r =>
      obtain ⟨h1, _, h2, h3⟩ := h
      have hp := ih h3
      have hlt : b < a := by have : (a - 1) &&& M ≤ a - 1 := Nat.and_le_left; omega
      refine List.pairwise_cons.2 ⟨fun c hc => ?_, hp⟩
      rcases List.mem_cons.1 hc with rfl | hc
      · exact hlt
      · have := (List.pairwise_cons.1 hp).1 c hc; omega
def partsB (more : BV) : List BV := (ens 12 more.toNat).map (BitVec.ofNat 64)
theorem mem_parts {more s : BV} (h : small more) : s ∈ partsB more ↔ s &&& more = s := by
  unfold partsB
  have h12 : more.toNat < 4096 := h
  rw [List.mem_map]
  constructor
  · rintro ⟨x, hx, rfl⟩
    obtain ⟨h1, hlt⟩ := ens_lt h12 hx
    apply BitVec.eq_of_toNat_eq
    rw [BitVec.toNat_and, hto hlt]; exact h1
  · intro hs
    refine ⟨s.toNat, (ens_mem 12 _ _ h12).2 ?_, by simp⟩
    rw [← BitVec.toNat_and, hs]
theorem parts_nodup {more : BV} (h : small more) : (partsB more).Nodup := by
  have h12 : more.toNat < 4096 := h
  have hc := (ens_ch 12 _ h12).1.nodup
  have hlt : ∀ x, x ∈ ens 12 more.toNat → x < 4096 := fun x hx => (ens_lt h12 hx).2
  unfold partsB List.Nodup
  rw [List.pairwise_map]
  refine List.Pairwise.imp_of_mem (fun {a b} ha hb hab he => ?_) hc
  have h1 := hlt a ha
  have h2 := hlt b hb
  have := congrArg BitVec.toNat he
  rw [hto h1, hto h2] at this
  omega
/-- What is still to come, and how one goes on. -/
inductive Sb (more : BV) : List BV → Prop where
  | last : Sb more [0#64]
  | step {s : BV} {r : List BV} (h0 : s ≠ 0#64) (h : Sb more (((s - 1#64) &&& more) :: r)) : Sb more (s :: ((s - 1#64) &&& more) :: r)
theorem parts_sb {more : BV} (h : small more) : Sb more (partsB more) ∧ (partsB more).head? = some more := by
  have h12 : more.toNat < 4096 := h
  obtain ⟨h1, h2, _⟩ := ens_ch 12 _ h12
  have key : ∀ l : List Nat, (∀ x, x ∈ l → x < 4096) → Ch more.toNat l → Sb more (l.map (BitVec.ofNat 64)) := by
    intro l
    induction l with
    | nil => intro _ h; exact h.elim
    | cons a l ih =>
      intro hl h
      cases l with
      | nil => have : a = 0 := h; subst this; exact Sb.last
      | cons b r =>
        obtain ⟨q1, q2, q3, q4⟩ := h
        have ha := hl a List.mem_cons_self
        have hab : BitVec.ofNat 64 b = (BitVec.ofNat 64 a - 1#64) &&& more := by
          apply BitVec.eq_of_toNat_eq
          have hb := hl b (List.mem_cons_of_mem _ List.mem_cons_self)
          rw [BitVec.toNat_and, BitVec.toNat_sub, hto ha, hto hb, show (1#64).toNat = 1 from rfl, show (2 ^ 64 - 1 + a) % 2 ^ 64 = a - 1 by omega]
          exact q3
        have := ih (fun x hx => hl x (List.mem_cons_of_mem _ hx)) q4
        simp only [List.map_cons] at this ⊢
        rw [hab] at this ⊢
        refine Sb.step (fun he => q1 ?_) this
        have := congrArg BitVec.toNat he
        rw [hto ha] at this
        exact this
  refine ⟨key _ (fun x hx => ?_) h1, ?_⟩
  · exact (ens_lt h12 hx).2
  · unfold partsB; rw [List.head?_map, h2]; simp
end Go.Proofs.YtgpgjpcebajofaaGreatDoor
set_option maxHeartbeats 4000000
set_option linter.unusedVariables false
set_option linter.unusedSimpArgs false
set_option maxRecDepth 100000
namespace Go.Proofs.YtgpgjpcebajofaaGreatDoor
open Go Go.XC Go.RowKit Go.SetsP
attribute [local irreducible] Post TC TR D WL EvS EvC Wd ResL Code.wpIn Exit.then Exit.inBlock Exit.noGoto LoopK LoopP bodyPostM Reads Calls

attribute [local irreducible] partsB ens
def runL {α σ : Type} (g : α → σ → Bool × σ) : List α → σ → Bool × σ
  | [], o => (true, o)
  | a :: t, o => if (g a o).1 then runL g t (g a o).2 else (false, (g a o).2)
def waysP {σ : Type} (f : List BV → σ → Bool × σ) : List Bd → List BV → σ → Bool × σ
  | [], l, o => f l o
  | x :: bs, l, o => runL (fun s o => waysP f bs (l ++ [x.lo ||| s]) o) (partsB (openB x)) o
def yF (p : Pb) (most : Int) (l : List BV) (o : List (List BV)) : Bool × List (List BV) := (decide (((yieldB p l o).length : Int) < most), yieldB p l o)
theorem runL_lt {α : Type} {most : Int} {g : α → List (List BV) → Bool × List (List BV)} (hg : ∀ a o, (o.length : Int) < most → (g a o).1 = true → ((g a o).2.length : Int) < most) : ∀ (l : List α) (o : List (List BV)), (o.length : Int) < most → (runL g l o).1 = true → ((runL g l o).2.length : Int) < most := by
  intro l
  induction l with
  | nil => intro o h _; exact h
  | cons a l ih =>
    intro o h
    unfold runL
    by_cases h1 : (g a o).1 = true
    · rw [if_pos h1]; exact ih _ (hg a o h h1)
    · rw [if_neg h1]; intro h2; cases h2
theorem waysP_lt {p : Pb} {most : Int} : ∀ (bs : List Bd) (l : List BV) (o : List (List BV)), (o.length : Int) < most → (waysP (yF p most) bs l o).1 = true → ((waysP (yF p most) bs l o).2.length : Int) < most := by
  intro bs
  induction bs with
  | nil => intro l o _ h; exact of_decide_eq_true h
  | cons x bs ih => intro l o h; exact runL_lt (fun s o h => ih _ _ h) _ o h
theorem OS.stx {m : Mem} {go : Nat} {Lb : Own} {o : List (List BV)} {w : World} (h : OS m go Lb o w) : StX m Lb w := let ⟨m', v, e, h1, h2, h3⟩ := h; StX.of_le (L' := [_, _]) h1 h3
structure Gw where
  ss : List BV
  o : List (List BV)
theorem ways_c (p : Pb) (pcs : Array Value) (hp : OkP p) (most : Int) (hmost : most ≤ 100) (go gp gm Tp Tm : Nat) (BA : Option Addr) (bc : Nat) : ∀ (bs : List Bd) (l : List BV) (o : List (List BV)) (A : Option Addr) (c : Nat) (m : Mem) (Lb : Own) (w : World),
    p.bounds.drop l.length = bs → l.length ≤ p.bounds.length → Sl m 2 BA (bds p.bounds) → PbC m p pcs → Sl m 1 A (u64s l) → l.length ≤ c → (A = none → l = []) → (o.length : Int) < most → some (gp, Obj.cells pcs Tp (0, 0)) ∈ Lb → some (gm, Obj.cells #[.int .i64 most] Tm (0, 0)) ∈ Lb → OS m go Lb o w →
    Calls Tryz.prog 39 #[.slice BA p.bounds.length bc, .slice A l.length c, .func (.func 40) #[] #[.pointer (some ⟨gp, 0, none⟩), .pointer (some ⟨go, 0, none⟩), .pointer (some ⟨gm, 0, none⟩)]] w fun x w' => x = .returned (.bool (waysP (yF p most) bs l o).1) ∧ OS m go Lb (waysP (yF p most) bs l o).2 w' := by
  have h8 := hp.ok.b8
  intro bs
  induction bs with
  | nil =>
    intro l o A c m Lb w hbs hll hBA hpc hA hc hA0 hom hgp hgm hs
    have hle : p.bounds.length ≤ l.length := by
      have := congrArg List.length hbs
      simp at this; omega
    have hll' : l.length = p.bounds.length := by omega
    have hd : ((l.length : Int) == (p.bounds.length : Int)) = true := by rw [hll']; simp
    have hy := fun (w : World) (hs : OS m go Lb o w) => yield_c p pcs hp most go gp gm Tp Tm A c l hll' o (by omega) m hpc hA Lb hgp hgm w hs
    refine calls_of_TC (S := OS m go Lb o) (args := [_, _, _]) Tryz.func39 rfl Tryz.ntmps39 (Nat.le_of_ble_eq_true rfl) hs ?_
    repeat' (first | (apply a_call; exact EvC.callS rfl rfl (fun w hs => hy w hs); exact rfl; exact wd; rintro ⟨⟩) | refine TC.seq ?_ | refine TC.region ?_ | refine TR.nil ?_ | refine Post.then_normal ?_ | refine TC.ret ?_ | (apply TC.cond_bt; exact rfl; assumption) | refine Post.then_ret ?_ | (apply a_move; exact a_moves) | (apply a_assign; exact a_assigns) | (apply a_len; exact a_lens) | (apply a_beql; exact a_beqls))
    refine Post.body_ret _ (ResL.one rfl (ResV.tmp rfl)) ?_
    exact fun w h => ⟨rfl, h⟩
  | cons x bs ih =>
    intro l o A c m Lb w hbs hll hBA hpc hA hc hA0 hom hgp hgm hs
    have hlt : l.length < p.bounds.length := by
      have := congrArg List.length hbs
      simp at this; omega
    have hx : p.bounds[l.length]? = some x := by
      have := congrArg (·[0]?) hbs
      simpa using this
    have hbs' : p.bounds.drop (l.length + 1) = bs := by
      rw [← List.drop_drop, hbs]; rfl
    have hxm : x ∈ p.bounds := List.mem_of_getElem? hx
    have hsm := hp.ok.bd x hxm
    have hmo : small (openB x) := small_openB hsm.2
    have hd : ((l.length : Int) == (p.bounds.length : Int)) = false := by simp; omega
    obtain ⟨g1, o1, blk1, T1, fr1, hA1, hm1, hc1⟩ := hBA.get (k := l.length) (cs := bdC x) (by simp [bds, hx])
    replace hc1 : CellsAt blk1 (o1 + (l.length : Int).toNat * 2) #[.int .u64 (x.lo.toNat : Int), .int .u64 (x.can.toNat : Int)] := hc1
    obtain ⟨m1, v1, e1, hle1, hrow1, hst⟩ := hs
    have hs := hst
    have hm1' := hle1.blk _ _ hm1
    refine calls_of_TC (args := [_, _, _]) Tryz.func39 rfl Tryz.ntmps39 (Nat.le_of_ble_eq_true rfl) hs ?_
    repeat' (first | refine TC.seq ?_ | refine TC.region ?_ | refine TR.nil ?_ | refine Post.then_normal ?_ | refine TC.block ?_ | refine TC.skip ?_ | (apply TC.cond_bf; exact rfl; assumption) | (apply a_move; exact a_moves) | (apply a_assign; exact a_assigns) | (apply a_fieldAddr; exact a_fieldAddrs) | (apply a_load; exact a_loads) | (apply a_len; exact a_lens) | (apply a_beql; exact a_beqls) | (apply a_bandNot; exact a_bandNots) | (apply a_indexAddr; exact a_indexAddrs) | (apply c_alloc; exact c_allocs; exact rfl; intro g) | (apply c_storeW; exact c_storeWs; rintro ⟨⟩))
    obtain ⟨gx, hgx⟩ : ∃ y, y = g := ⟨_, rfl⟩
    subst hgx
    obtain ⟨hsb, hsh⟩ := parts_sb hmo
    obtain ⟨xb, hxb⟩ : ∃ xb, xb = some (gx, Obj.cells #[.int .u64 (x.lo.toNat : Int), .int .u64 (x.can.toNat : Int)] 53 (0, 0)) := ⟨_, rfl⟩
    obtain ⟨mo, hmoe⟩ : ∃ mo, mo = openB x := ⟨_, rfl⟩
    rw [← hmoe] at hsb hsh
    obtain ⟨G, hG⟩ : ∃ G : BV → List (List BV) → Bool × List (List BV), G = fun s o => waysP (yF p most) bs (l ++ [x.lo ||| s]) o := ⟨_, rfl⟩
    have hways : waysP (yF p most) (x :: bs) l o = runL G (partsB mo) o := by rw [hG, hmoe]; rfl
    rw [hways]
    have hGlt : ∀ s o, (o.length : Int) < most → (G s o).1 = true → ((G s o).2.length : Int) < most := fun s o h h1 => by rw [hG] at h1 ⊢; exact waysP_lt bs _ o h h1
    rw [show x.can &&& ~~~x.lo = mo from hmoe.symm]
    refine TC.loopP (X := Gw) (fun y => Sb mo y.ss ∧ (y.o.length : Int) < most ∧ runL G (partsB mo) o = runL G y.ss y.o)
      (fun y => [(9, .int .u64 ((y.ss.headD 0#64).toNat : Int)), (8, .int .u64 (mo.toNat : Int)), (7, .pointer (some ⟨gx, 0, none⟩)), (0, .slice BA p.bounds.length bc), (1, .slice A l.length c), (2, .func (.func 40) #[] #[.pointer (some ⟨gp, 0, none⟩), .pointer (some ⟨go, 0, none⟩), .pointer (some ⟨gm, 0, none⟩)])])
      (fun y => OS m go (xb :: Lb) y.o) (fun y => y.ss.length) ⟨partsB mo, o⟩ ⟨hsb, hom, rfl⟩ ?_ (fun w h => ⟨m1, v1, e1, hle1, hrow1, by rw [hxb]; exact h.perm ((List.Perm.swap _ _ _).trans (List.Perm.cons _ (List.Perm.swap _ _ _)))⟩) ?_
    · rw [show (partsB mo).headD 0#64 = mo by rw [List.headD_eq_head?_getD, hsh]; rfl]
      exact inc
    clear hsb hsh
    rintro ⟨ss, o2⟩ ⟨hss, ho2, hrun⟩
    simp only at hss ho2 hrun ⊢
    obtain ⟨s, r, rfl⟩ : ∃ s r, ss = s :: r := by cases hss <;> exact ⟨_, _, rfl⟩
    refine TC.of_exists (X := { y : Mem × Value × Option (Nat × Obj) // m.Le y.1 ∧ SRow y.1 y.2.1 o2 y.2.2 }) (S' := fun y => St y.1.1 (y.1.2.2 :: some (go, .cells #[y.1.2.1] 30 (0, 0)) :: xb :: Lb)) (fun w h => let ⟨m', v, e, h1, h2, h3⟩ := h; ⟨⟨(m', v, e), h1, h2⟩, h3⟩) ?_
    rintro ⟨⟨m2, v2, e2⟩, hle2, hrow2⟩
    simp only at hle2 hrow2 ⊢
    have hA2 := hA.mono hle2
    have hlen1 : (l ++ [x.lo ||| s]).length = l.length + 1 := by simp
    obtain ⟨R, hR⟩ : ∃ R, R = G s o2 := ⟨_, rfl⟩
    have hrec : ∀ (A1 : Option Addr) (c1 gb : Nat) (ob : Obj) (e3 : Option (Nat × Obj)) (w : World), OwnRow (.slice A1 (l.length + 1) c1) 39 1 (l.length + 1) ((u64s l).flatten ++ [.int .u64 ((x.lo ||| s).toNat : Int)]) e3 → St m2 (e3 :: some (gb, ob) :: e2 :: some (go, .cells #[v2] 30 (0, 0)) :: xb :: Lb) w →
        Calls Tryz.prog 39 #[.slice BA p.bounds.length bc, .slice A1 (l.length + 1) c1, .func (.func 40) #[] #[.pointer (some ⟨gp, 0, none⟩), .pointer (some ⟨go, 0, none⟩), .pointer (some ⟨gm, 0, none⟩)]] w fun x w' => x = .returned (.bool R.1) ∧ OS m2 go (xb :: Lb) R.2 w' := fun A1 c1 gb ob e3 w h1 h2 => by
      obtain ⟨k1, k2⟩ := lend h2
      have hrow : OwnRow (.slice A1 (l.length + 1) c1) 39 1 (l.length + 1) (u64s (l ++ [x.lo ||| s])).flatten e3 := by rw [u64s_snoc]; exact h1
      obtain ⟨A3, c3, he, hc3, hS⟩ := OwnRow.lent (m := m2) hrow (u64s_len _) (by simp [u64s]) (by omega)
      injection he with q1 q2 q3
      subst q1 q3
      have hall := hle2.trans k1
      have := ih (l ++ [x.lo ||| s]) o2 A1 c1 (memO m2 e3) (xb :: Lb) w (by rw [hlen1]; exact hbs') (by rw [hlen1]; omega) (hBA.mono hall) (hpc.mono hall) hS (by rw [hlen1]; exact hc3) (fun h0 => by
        subst h0
        obtain ⟨_, _, _, _, _, h5, _⟩ := hS.at_ (by simp [u64s])
        cases h5) ho2 (List.mem_cons_of_mem _ hgp) (List.mem_cons_of_mem _ hgm) ⟨memO m2 e3, v2, e2, Mem.Le.refl _, hrow2.mono k1, k2.tail⟩
      rw [hlen1] at this
      refine this.mono fun z w' ⟨z1, z2⟩ => ?_
      rw [hR, hG]
      exact ⟨z1, z2.weaken k1⟩
    have hxl : some (gx, Obj.cells #[.int .u64 (x.lo.toNat : Int), .int .u64 (x.can.toNat : Int)] 53 (0, 0)) ∈ xb :: Lb := by rw [hxb]; exact List.Mem.head _
    have hne : Nonempty { p : Value × Option (Nat × Obj) // OwnRow p.1 39 1 (l.length + 1) ((u64s l).flatten ++ [.int .u64 ((x.lo ||| s).toNat : Int)]) p.2 } := ownRow_ex (by rw [List.length_append, u64s_flat]; simp) (by simp only [maxLen]; omega)
    have hul : (u64s l).length = l.length := by simp [u64s]
    have hA02 : A = none → l.length = 0 := fun h => by rw [hA0 h]; rfl
    simp only [List.headD_cons]
    clear hm1 hm1' hc1 hst hs hrow1 hA hsm hbs hbs' hx hxm
    repeat' (first | refine TC.seq ?_ | refine TC.block ?_)
    apply TC.drawL (L1 := [e2, some (go, .cells #[v2] 30 (0, 0))]) mixed
    repeat' (first | (apply DW.chx (o := ⟨_, .call _, _, _, _, _⟩); exact rfl; exact wd; exact EvC.appendArg rfl rfl hA2 hul hA02 (List.Mem.head _) rfl rfl (by omega); exact hne; exact subs; rintro ⟨⟨v3, e3⟩, hrow3⟩; simp only at hrow3 ⊢; obtain ⟨A3, c3, rfl, hc3⟩ := ownRow_slice hrow3) | (apply e_call; exact EvC.callS rfl rfl (fun w hs => hrec _ _ _ _ _ w (by assumption) hs); exact wd; exact inferInstance; exact fun _ w h => h.stx; rintro ⟨⟩) | (apply DW.nil; kernel_rfl) | (apply DW.st1 (o := ⟨_, .slice _ _ _ _ _, _, _, _, _⟩); exact rfl; (first | exact Wd.plain rfl | exact Wd.on rfl rfl rfl); exact EvS.sliceHM rfl rfl rfl (Nat.le_refl _) hc) | (apply e_move; exact d_moves) | (apply e_fieldAddr; exact d_fieldAddrs) | (apply e_load; exact d_loads) | (apply e_len; exact d_lens) | (apply e_unOp; exact d_unOps) | (apply e_bor; exact d_bors) | (apply ec_build1; exact c_build1s; exact inferInstance; exact subs; intro g))
    have hmm : ∀ w, OS m2 go (xb :: Lb) R.2 w → OS m go Lb R.2 w := fun w h => (h.weaken hle2).drop
    cases hq : R.1 with
    | false =>
      have hfin : runL G (partsB mo) o = (false, R.2) := by
        rw [hrun]; unfold runL; rw [← hR, hq]; rfl
      rw [hfin]
      have hq' : (!R.1) = true := by rw [hq]; rfl
      rw [hq] at hq'
      repeat' (first | refine TC.seq ?_ | refine TC.region ?_ | refine TR.nil ?_ | refine Post.then_normal ?_ | refine TC.ret ?_ | (apply TC.cond_t; exact rfl) | refine Post.then_ret ?_ | refine Post.block_ret ?_ | (apply a_assign; exact a_assigns))
      refine Post.body_ret _ (ResL.one rfl (ResV.tmp rfl)) ?_
      exact fun w h => ⟨rfl, hmm w h⟩
    | true =>
      have hR2 : (R.2.length : Int) < most := by rw [hR]; exact hGlt s o2 ho2 (by rw [← hR]; exact hq)
      have hrun2 : runL G (partsB mo) o = runL G r R.2 := by
        rw [hrun, hR]
        rw [hR] at hq
        conv => lhs; unfold runL
        rw [if_pos hq]
      by_cases hz : s = 0#64
      · have hr0 : r = [] := by
          cases hss with
          | last => rfl
          | step h0 _ => exact (h0 hz).elim
        have hz' : (s == 0#64) = true := by rw [hz]; rfl
        have hfin : runL G (partsB mo) o = (true, R.2) := by rw [hrun2, hr0]; rfl
        rw [hfin]
        repeat' (first | refine TC.seq ?_ | refine TC.region ?_ | refine TR.nil ?_ | refine Post.then_normal ?_ | refine TC.skip ?_ | refine TC.ret ?_ | (apply TC.cond_f; exact rfl) | (apply TC.cond_bt; exact rfl; assumption) | refine Post.then_ret ?_ | refine Post.block_ret ?_ | (apply a_move; exact a_moves) | (apply a_assign; exact a_assigns) | (apply a_beql; exact a_beqls))
        refine Post.body_ret _ (ResL.one rfl (ResV.tmp rfl)) ?_
        exact fun w h => ⟨rfl, hmm w h⟩
      · have hz' : (s == 0#64) = false := by simpa using hz
        obtain ⟨r', hr', hss'⟩ : ∃ r', r = ((s - 1#64) &&& mo) :: r' ∧ Sb mo r := by
          cases hss with
          | last => exact (hz rfl).elim
          | step _ h => exact ⟨_, rfl, h⟩
        repeat' (first | refine TC.seq ?_ | refine TC.region ?_ | refine TR.nil ?_ | refine Post.then_normal ?_ | refine TC.skip ?_ | (apply TC.cond_f; exact rfl) | (apply TC.cond_bf; exact rfl; assumption) | refine Post.block_normal ?_ | (apply a_move; exact a_moves) | (apply a_assign; exact a_assigns) | (apply a_beql; exact a_beqls) | (apply a_band; exact a_bands) | (apply a_bsub; exact a_bsubs))
        refine Post.nextP ⟨r, R.2⟩ ⟨hss', hR2, hrun2⟩ ?_ (fun w h => h.weaken hle2) (by simp)
        rw [hr']
        exact inc
end Go.Proofs.YtgpgjpcebajofaaGreatDoor
set_option maxHeartbeats 4000000
set_option linter.unusedVariables false
set_option linter.unusedSimpArgs false
set_option maxRecDepth 100000
namespace Go.Proofs.YtgpgjpcebajofaaGreatDoor
open Go Go.XC Go.RowKit Go.SetsP
attribute [local irreducible] Post TC TR D WL EvS EvC Wd ResL Code.wpIn Exit.then Exit.inBlock Exit.noGoto LoopK LoopP bodyPostM Reads Calls
open Go.Sort

/-! ### The order of rows of sets -/
theorem lexC_zero : ∀ {a b : List BV}, lexC a b = 0 ↔ a = b
  | [], [] => by simp [lexC]
  | [], _ :: _ => by simp [lexC]
  | _ :: _, [] => by simp [lexC]
  | x :: a, y :: b => by
    have ih := @lexC_zero a b
    unfold lexC
    by_cases h : cmpU x y = 0
    · rw [if_pos h, ih]
      rw [cmpU_zero] at h
      subst h; simp
    · rw [if_neg h]
      rw [cmpU_zero] at h
      simp only [List.cons.injEq, h, false_and, iff_false]
      rw [cmpU_zero]; exact h
theorem lexC_anti : ∀ (a b : List BV), lexC b a = - lexC a b
  | [], [] => rfl
  | [], _ :: _ => rfl
  | _ :: _, [] => rfl
  | x :: a, y :: b => by
    have ih := lexC_anti a b
    have hc : cmpU y x = - cmpU x y := by
      unfold cmpU
      split <;> split <;> first | omega | (split <;> omega)
    unfold lexC
    rw [hc, ih]
    by_cases h : cmpU x y = 0
    · rw [if_pos h, if_pos (by omega)]
    · rw [if_neg h, if_neg (by omega)]
theorem cmpU_le {x y : BV} : cmpU x y ≤ 0 ↔ x.toNat ≤ y.toNat := by
  unfold cmpU
  split
  · omega
  · split <;> omega
theorem lexC_trans : ∀ (a b c : List BV), lexC a b ≤ 0 → lexC b c ≤ 0 → lexC a c ≤ 0
  | [], _, [] => fun _ _ => by simp [lexC]
  | [], _, _ :: _ => fun _ _ => by simp [lexC]
  | _ :: _, [], _ => fun h _ => by simp [lexC] at h
  | _ :: _, _ :: _, [] => fun _ h => by simp [lexC] at h
  | x :: a, y :: b, z :: c => fun h1 h2 => by
    have ih := lexC_trans a b c
    unfold lexC at h1 h2 ⊢
    by_cases q1 : cmpU x y = 0
    · rw [if_pos q1] at h1
      rw [cmpU_zero] at q1
      subst q1
      by_cases q2 : cmpU x z = 0
      · rw [if_pos q2] at h2 ⊢
        exact ih h1 h2
      · rw [if_neg q2] at h2 ⊢
        exact h2
    · rw [if_neg q1] at h1
      have hx := cmpU_le.1 h1
      have hne : x.toNat ≠ y.toNat := fun h => q1 (cmpU_zero.2 (BitVec.eq_of_toNat_eq h))
      have hy : y.toNat ≤ z.toNat := by
        by_cases q2 : cmpU y z = 0
        · rw [cmpU_zero] at q2; rw [q2]; exact Nat.le_refl _
        · rw [if_neg q2] at h2; exact cmpU_le.1 h2
      have h3 : cmpU x z ≠ 0 := fun h => by rw [cmpU_zero] at h; subst h; omega
      rw [if_neg h3]
      exact cmpU_le.2 (by omega)
/-- Sorted. -/
def Sd (o : List (List BV)) : Prop := o.Pairwise fun a b => lexC a b ≤ 0
theorem Sd.eq {a b : List (List BV)} (ha : Sd a) (hb : Sd b) (h : a.Perm b) : a = b :=
  List.Perm.eq_of_pairwise (le := fun a b => lexC a b ≤ 0) (fun x y _ _ h1 h2 => lexC_zero.1 (by have := lexC_anti x y; omega)) ha hb h
end Go.Proofs.YtgpgjpcebajofaaGreatDoor
set_option maxHeartbeats 4000000
set_option linter.unusedVariables false
set_option linter.unusedSimpArgs false
set_option maxRecDepth 100000
namespace Go.Proofs.YtgpgjpcebajofaaGreatDoor
open Go Go.XC Go.RowKit Go.SetsP
attribute [local irreducible] Post TC TR D WL EvS EvC Wd ResL Code.wpIn Exit.then Exit.inBlock Exit.noGoto LoopK LoopP bodyPostM Reads Calls

attribute [local irreducible] partsB ens
/-! ### All sets between bounds: what is found is all -/
def leL (a b : List BV) : Bool := decide (lexC a b ≤ 0)
def sortL (o : List (List BV)) : List (List BV) := o.mergeSort leL
theorem sortL_perm (o : List (List BV)) : (sortL o).Perm o := List.mergeSort_perm _ _
theorem sortL_sd (o : List (List BV)) : Sd (sortL o) := by
  have := List.pairwise_mergeSort (le := leL) (fun a b c h1 h2 => by unfold leL at *; simp only [decide_eq_true_eq] at *; exact lexC_trans a b c h1 h2) (fun a b => by
    unfold leL
    have := lexC_anti a b
    simp only [Bool.or_eq_true, decide_eq_true_eq]
    omega) o
  exact this.imp fun h => by unfold leL at h; exact of_decide_eq_true h
theorem sortL_of {o o' : List (List BV)} (h : o'.Perm o) (hs : Sd o') : o' = sortL o := hs.eq (sortL_sd o) (h.trans (sortL_perm o).symm)
theorem bet_or {x : Bd} (hc : ∀ k, k < 64 → has x.lo k = true → has x.can k = true) {t : BV} : Bet x t ↔ ∃ s, s &&& openB x = s ∧ t = x.lo ||| s := by
  constructor
  · intro h
    refine ⟨t &&& openB x, ?_, ?_⟩
    · rw [BitVec.and_assoc, BitVec.and_self]
    · refine bv_ext fun k hk => ?_
      have h1 := h k hk
      unfold has openB at *
      rw [BitVec.getLsbD_or, BitVec.getLsbD_and, BitVec.getLsbD_and, BitVec.getLsbD_not]
      cases ha : t.getLsbD k <;> cases hb : x.lo.getLsbD k <;> cases hd : x.can.getLsbD k <;> simp_all
  · rintro ⟨s, hs, rfl⟩ k hk
    have h2 := hc k hk
    have h3 : has (s &&& openB x) k = has s k := by rw [hs]
    unfold has openB at *
    rw [BitVec.getLsbD_and, BitVec.getLsbD_and, BitVec.getLsbD_not] at h3
    rw [BitVec.getLsbD_or]
    cases ha : s.getLsbD k <;> cases hb : x.lo.getLsbD k <;> cases hd : x.can.getLsbD k <;> simp_all
theorem or_inj {x : Bd} {s s' : BV} (h : s &&& openB x = s) (h' : s' &&& openB x = s') (he : x.lo ||| s = x.lo ||| s') : s = s' := by
  refine bv_ext fun k hk => ?_
  have h1 : has (s &&& openB x) k = has s k := by rw [h]
  have h2 : has (s' &&& openB x) k = has s' k := by rw [h']
  have h3 : has (x.lo ||| s) k = has (x.lo ||| s') k := by rw [he]
  unfold has openB at *
  rw [BitVec.getLsbD_and, BitVec.getLsbD_and, BitVec.getLsbD_not] at h1 h2
  rw [BitVec.getLsbD_or, BitVec.getLsbD_or] at h3
  cases ha : s.getLsbD k <;> cases hb : x.lo.getLsbD k <;> cases hd : s'.getLsbD k <;> simp_all
def allX : List Bd → List (List BV)
  | [] => [[]]
  | x :: bs => (partsB (openB x)).flatMap fun s => (allX bs).map ((x.lo ||| s) :: ·)
theorem mem_allX : ∀ {bs : List Bd}, (∀ x, x ∈ bs → small x.lo ∧ small x.can) → Cn bs → ∀ {t : List BV}, t ∈ allX bs ↔ t.length = bs.length ∧ ∀ (k : Nat) (x : Bd), bs[k]? = some x → Bet x (t.getD k 0#64) := by
  intro bs
  induction bs with
  | nil =>
    intro _ _ t
    unfold allX
    rw [List.mem_singleton]
    exact ⟨fun h => by subst h; exact ⟨rfl, fun k x h => by simp at h⟩, fun h => List.eq_nil_of_length_eq_zero h.1⟩
  | cons x bs ih =>
    intro hs hc t
    have ih' := @ih (fun y hy => hs y (List.mem_cons_of_mem _ hy)) (fun y hy => hc y (List.mem_cons_of_mem _ hy))
    have hsm := hs x List.mem_cons_self
    have hcx := hc x List.mem_cons_self
    unfold allX
    rw [List.mem_flatMap]
    constructor
    · rintro ⟨s, h1, h2⟩
      rw [List.mem_map] at h2
      obtain ⟨t', h2, rfl⟩ := h2
      rw [mem_parts (small_openB hsm.2)] at h1
      obtain ⟨h3, h4⟩ := ih'.1 h2
      refine ⟨by simp [h3], fun k y hy => ?_⟩
      cases k with
      | zero =>
        simp at hy; subst hy
        exact (bet_or hcx).2 ⟨s, h1, rfl⟩
      | succ k => exact h4 k y (by simpa using hy)
    · rintro ⟨h1, h2⟩
      cases t with
      | nil => cases h1
      | cons a t =>
        obtain ⟨s, h3, h4⟩ := (bet_or hcx).1 (h2 0 x rfl)
        have h4' : a = x.lo ||| s := h4
        refine ⟨s, (mem_parts (small_openB hsm.2)).2 h3, ?_⟩
        rw [List.mem_map]
        refine ⟨t, ih'.2 ⟨by simpa using h1, fun k y hy => h2 (k + 1) y (by simpa using hy)⟩, by rw [h4']⟩
theorem allX_nodup : ∀ {bs : List Bd}, (∀ x, x ∈ bs → small x.lo ∧ small x.can) → (allX bs).Nodup := by
  intro bs
  induction bs with
  | nil => intro _; exact List.pairwise_singleton _ _
  | cons x bs ih =>
    intro hs
    have ih' := ih fun y hy => hs y (List.mem_cons_of_mem _ hy)
    have hsm := hs x List.mem_cons_self
    have hn := parts_nodup (small_openB hsm.2)
    unfold allX List.Nodup
    rw [List.pairwise_flatMap]
    refine ⟨fun s _ => ?_, ?_⟩
    · rw [List.pairwise_map]
      exact ih'.imp fun h he => h (List.cons.inj he).2
    · refine List.Pairwise.imp_of_mem (fun {a b} ha hb hab t1 h1 t2 h2 he => ?_) hn
      rw [List.mem_map] at h1 h2
      obtain ⟨u1, _, rfl⟩ := h1
      obtain ⟨u2, _, rfl⟩ := h2
      rw [mem_parts (small_openB hsm.2)] at ha hb
      exact hab (or_inj ha hb (List.cons.inj he).1)
theorem runL_append {α σ : Type} {g : α → σ → Bool × σ} : ∀ (l l' : List α) (o : σ), runL g (l ++ l') o = if (runL g l o).1 then runL g l' (runL g l o).2 else (false, (runL g l o).2) := by
  intro l
  induction l with
  | nil => intro l' o; rfl
  | cons a l ih =>
    intro l' o
    have e : ∀ l : List α, runL g (a :: l) o = if (g a o).1 then runL g l (g a o).2 else (false, (g a o).2) := fun _ => rfl
    rw [List.cons_append, e, e]
    by_cases h : (g a o).1 = true
    · rw [if_pos h, if_pos h]; exact ih l' _
    · rw [if_neg h, if_neg h]; rfl
theorem runL_flat {α β σ : Type} {g : β → σ → Bool × σ} (F : α → List β) : ∀ (l : List α) (o : σ), runL g (l.flatMap F) o = runL (fun a o => runL g (F a) o) l o := by
  intro l
  induction l with
  | nil => intro o; rfl
  | cons a l ih =>
    intro o
    rw [List.flatMap_cons, runL_append]
    conv => rhs; unfold runL
    by_cases h : (runL g (F a) o).1 = true
    · rw [if_pos h, if_pos h]; exact ih _
    · rw [if_neg h, if_neg h]
theorem runL_map {α β σ : Type} {g : β → σ → Bool × σ} (F : α → β) : ∀ (l : List α) (o : σ), runL g (l.map F) o = runL (fun a o => g (F a) o) l o := by
  intro l
  induction l with
  | nil => intro o; rfl
  | cons a l ih => intro o; rw [List.map_cons]; unfold runL; rw [ih]
theorem waysP_run {σ : Type} (f : List BV → σ → Bool × σ) : ∀ (bs : List Bd) (l : List BV) (o : σ), waysP f bs l o = runL (fun t o => f (l ++ t) o) (allX bs) o := by
  intro bs
  induction bs with
  | nil =>
    intro l o
    unfold waysP allX runL runL
    rw [List.append_nil]
    by_cases h : (f l o).1 = true
    · rw [if_pos h]; exact Prod.ext h rfl
    · rw [if_neg h]; exact Prod.ext (by simpa using h) rfl
  | cons x bs ih =>
    intro l o
    unfold waysP allX
    rw [runL_flat]
    congr 1
    funext s o
    rw [ih, runL_map]
    congr 1
    funext t o
    rw [List.append_assoc]; rfl
def okL (p : Pb) (l : List BV) : Bool := !(p.rules.any fun x => !heldB x l)
theorem runL_y (p : Pb) (most : Int) : ∀ (l : List (List BV)) (o : List (List BV)), (o.length : Int) < most →
    ∃ k, (runL (yF p most) l o).2 = o ++ (l.take k).filter (okL p) ∧ ((runL (yF p most) l o).2.length : Int) ≤ most ∧ (((runL (yF p most) l o).2.length : Int) < most → k = l.length) := by
  intro l
  induction l with
  | nil => intro o h; exact ⟨0, by simp [runL], by unfold runL; simp only; omega, fun _ => rfl⟩
  | cons a l ih =>
    intro o h
    have hy : yieldB p a o = o ++ [a].filter (okL p) := by
      unfold yieldB okL
      by_cases hq : p.rules.any (fun x => !heldB x a) = true
      · rw [if_pos hq]; simp [hq]
      · rw [if_neg hq]; simp [hq]
    have hl : (yieldB p a o).length ≤ o.length + 1 := by
      rw [hy, List.length_append]
      have := List.length_filter_le (okL p) [a]
      simp at this; omega
    unfold runL
    by_cases h1 : (yF p most a o).1 = true
    · rw [if_pos h1]
      have h2 : ((yieldB p a o).length : Int) < most := of_decide_eq_true h1
      obtain ⟨k, q1, q2, q3⟩ := ih (yieldB p a o) h2
      refine ⟨k + 1, ?_, q2, fun h => by have := q3 h; simp [this]⟩
      show (runL (yF p most) l (yieldB p a o)).2 = _
      rw [q1, hy, List.take_succ_cons, List.append_assoc]
      congr 1
      rw [← List.filter_append]; rfl
    · rw [if_neg h1]
      have h2 : ¬ ((yieldB p a o).length : Int) < most := fun h => h1 (decide_eq_true h)
      refine ⟨1, hy, ?_, fun h => absurd h h2⟩
      show ((yieldB p a o).length : Int) ≤ most
      omega
theorem getL_padA {l : List BV} {v : Int} : getL (padL l) v = getL l v := by
  unfold getL padL
  rw [List.getD_eq_getElem?_getD, List.getD_eq_getElem?_getD]
  by_cases h : v.toNat < l.length
  · rw [List.getElem?_append_left h]
  · rw [List.getElem?_append_right (by omega), List.getElem?_eq_none (by omega : l.length ≤ v.toNat)]
    by_cases h2 : v.toNat - l.length < 8 - l.length
    · rw [List.getElem?_replicate, if_pos h2]; rfl
    · rw [List.getElem?_replicate, if_neg h2]
theorem heldB_pad (r : Rl) (l : List BV) : heldB r (padL l) = heldB r l := by
  unfold heldB; simp only [getL_padA]
theorem sols_iff {p : Pb} (hp : OkP p) {x : List BV} : sols p x ↔ x ∈ allX p.bounds ∧ okL p x = true := by
  have hcn : Cn p.bounds := fun y hy => hp.cn y (List.mem_append_left _ hy)
  rw [mem_allX hp.ok.bd hcn]
  unfold sols isSol AllH okL
  have h8 := hp.ok.b8
  constructor
  · rintro ⟨h1, h2, h3⟩
    refine ⟨⟨h1, fun k y hy => ?_⟩, ?_⟩
    · have hk : k < p.bounds.length := (List.getElem?_eq_some_iff.1 hy).1
      have := h2 (k : Int) (by omega)
      rw [getL_padA] at this
      unfold nth pad8 getL at this
      rw [List.getD_eq_getElem?_getD, Int.toNat_natCast, List.getElem?_append_left hk, hy] at this
      exact this
    · rw [Bool.not_eq_true', List.any_eq_false]
      intro r hr
      have := h3 r hr
      rw [heldB_pad] at this
      simp [this]
  · rintro ⟨⟨h1, h2⟩, h3⟩
    refine ⟨h1, fun v hv => ?_, fun r hr => ?_⟩
    · rw [getL_padA]
      unfold nth pad8 getL
      rw [List.getD_eq_getElem?_getD]
      by_cases hk : v.toNat < p.bounds.length
      · rw [List.getElem?_append_left hk, List.getElem?_eq_getElem hk]
        exact h2 v.toNat _ (List.getElem?_eq_getElem hk)
      · rw [List.getElem?_append_right (by omega), List.getD_eq_getElem?_getD, List.getElem?_eq_none (by omega : x.length ≤ v.toNat), List.getElem?_replicate]
        split <;> exact (bet_zero _).2 rfl
    · rw [heldB_pad]
      rw [Bool.not_eq_true', List.any_eq_false] at h3
      have := h3 r hr
      simpa using this
/-- What 'found' finds. -/
def waysO (p : Pb) (most : Int) : List (List BV) := (waysP (yF p most) p.bounds [] []).2
def foundP (p : Pb) (most : Int) : List (List BV) := sortL (waysO p most)
structure WaysR (p : Pb) (most : Int) (o : List (List BV)) : Prop where
  sound : ∀ x, x ∈ o → sols p x
  nodup : o.Nodup
  full : (o.length : Int) < most → ∀ x, sols p x → x ∈ o
  le : (o.length : Int) ≤ most
theorem waysO_spec {p : Pb} (hp : OkP p) {most : Int} (hm : 1 ≤ most) : WaysR p most (waysO p most) := by
  have e : waysO p most = (runL (yF p most) (allX p.bounds) []).2 := by unfold waysO; rw [waysP_run]; rfl
  obtain ⟨k, h1, h2, h3⟩ := runL_y p most (allX p.bounds) [] (by simp; omega)
  rw [← e] at h1 h2 h3
  rw [List.nil_append] at h1
  refine ⟨fun x hx => ?_, ?_, fun h x hx => ?_, h2⟩
  · rw [h1, List.mem_filter] at hx
    exact (sols_iff hp).2 ⟨List.mem_of_mem_take hx.1, hx.2⟩
  · rw [h1]
    exact ((allX_nodup hp.ok.bd).sublist (List.take_sublist _ _)).filter _
  · have := h3 h
    rw [h1, List.mem_filter]
    obtain ⟨q1, q2⟩ := (sols_iff hp).1 hx
    exact ⟨by rw [this, List.take_length]; exact q1, q2⟩
theorem foundP_spec {p : Pb} (hp : OkP p) {most : Int} (hm : 1 ≤ most) : WaysR p most (foundP p most) := by
  have R := waysO_spec hp hm
  have hpm := sortL_perm (waysO p most)
  have hl : (foundP p most).length = (waysO p most).length := hpm.length_eq
  exact ⟨fun x hx => R.sound x (hpm.mem_iff.1 hx), hpm.nodup_iff.2 R.nodup, fun h x hx => hpm.mem_iff.2 (R.full (by rw [← hl]; exact h) x hx), by rw [hl]; exact R.le⟩
end Go.Proofs.YtgpgjpcebajofaaGreatDoor
