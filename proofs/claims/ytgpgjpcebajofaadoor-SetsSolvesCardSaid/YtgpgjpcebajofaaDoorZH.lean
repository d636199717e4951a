import Derived.Test.YtgpgjpcebajofaaDoorZG
set_option linter.unusedVariables false
set_option linter.unusedSimpArgs false
set_option linter.all false
set_option maxHeartbeats 4000000
set_option linter.unusedVariables false
set_option linter.unusedSimpArgs false
set_option maxRecDepth 100000
namespace Go.Proofs.YtgpgjpcebajofaaDoor
open Go Go.XC Go.RowKit Go.SetsP
attribute [local irreducible] Post TC TR D WL EvS EvC Wd ResL Code.wpIn Exit.then Exit.inBlock Exit.noGoto LoopK LoopP bodyPostM Reads Calls

theorem nth_map {b : List Bd} {r : Rl} {k : Nat} {v : Int} (h : r.vars[k]? = some v) : (ofB b r)[k]? = some (nth b v) := by simp [ofB, h]
theorem canR_c (r : Rl) (B : Option Addr) (c : Nat) (a : List Bd) (A : Option Addr) (ca : Nat) (hr : 1 ≤ r.kind ∧ r.kind ≤ 6 ∧ (r.vars.length : Int) = varsZ r.kind) (hv : ∀ v, v ∈ r.vars → 0 ≤ v ∧ v < a.length) (ha : a.length ≤ 1000)
    (m : Mem) (hB : Sl m 1 B (ints r.vars)) (hA : Sl m 2 A (bds a)) (L : Own) (w : World) (hs : St m L w) :
    Calls Tryd.prog 64 #[rlV r B c, .slice A a.length ca] w fun q w' => q = .returned (.bool (possB a r)) ∧ St m L w' := by
  have hv3 : r.vars.length ≤ 3 := by
    have : varsZ r.kind ≤ 3 := by unfold varsZ; (repeat' split) <;> omega
    omega
  obtain ⟨l, hl⟩ : ∃ l, l = ofB a r := ⟨_, rfl⟩
  have hll : l.length = r.vars.length := by rw [hl]; simp [ofB]
  obtain ⟨css, hcss⟩ : ∃ css, css = bds l := ⟨_, rfl⟩
  have hcl : css.length = r.vars.length := by rw [hcss, bds_length, hll]
  have hso := fun (e : Nat) (he : e < 12) (h5 : r.kind ≤ 5) => some_c r B c l
  unfold rlV at hso ⊢
  refine calls_of_TC (args := [_, _]) Tryd.func64 rfl Tryd.ntmps64 (Nat.le_of_ble_eq_true rfl) hs ?_
  repeat' (first | refine TC.seq ?_ | refine TC.region ?_ | refine TR.nil ?_ | refine Post.then_normal ?_ | refine TC.block ?_ | (apply TR.st1 (o := ⟨_, .assign _, _, _, _, _⟩); exact rfl; exact rfl; exact rfl; (first | exact Wd.plain rfl | exact Wd.on rfl rfl rfl); exact EvS.assign rfl) | (apply TR.ch1 (o := ⟨_, .box _ _, _, _, _, _⟩) ; exact rfl; exact rfl; exact rfl; (first | exact Wd.plain rfl | exact Wd.on rfl rfl rfl); exact EvC.boxA rfl; intro g))
  obtain ⟨gr, hgr⟩ : ∃ q, q = g := ⟨_, rfl⟩
  subst hgr
  refine TC.turn (fun w h => h.addNone) ?_
  refine TC.loopP (X := Gr) (fun x => x.k ≤ r.vars.length ∧ OwnRow x.v 48 2 x.k (css.take x.k).flatten x.e ∧ ∀ j y, j < x.k → l[j]? = some y → clashB y = false)
    (fun x => [(6, .int .i64 (x.k : Int)), (5, x.v), (2, .pointer (some ⟨gr, 0, none⟩)), (1, .slice A a.length ca)])
    (fun x => St m (x.e :: some (gr, .cells #[.int .i64 r.kind, .slice B r.vars.length c, .int .i64 r.low, .int .i64 r.high] 44 (0, 0)) :: L)) (fun x => r.vars.length - x.k) ⟨0, .slice none 0 0, none⟩ ⟨Nat.zero_le _, OwnRow.nil, fun j y h => absurd h (Nat.not_lt_zero _)⟩ (incl.lk (by repeat first | exact trivial | refine ⟨rfl, ?_⟩)) (fun w h => h) ?_
  rintro ⟨k, v, e⟩ ⟨hk, hrow, hno⟩
  simp only at hk hrow hno ⊢
  by_cases hlt : k < r.vars.length
  · obtain ⟨n, hn⟩ : ∃ n, r.vars[k]? = some n := ⟨_, List.getElem?_eq_getElem hlt⟩
    have hn8 := hv n (List.mem_of_getElem? hn)
    obtain ⟨y, hy⟩ : ∃ y, a[n.toNat]? = some y := ⟨_, List.getElem?_eq_getElem (by omega)⟩
    have hly : l[k]? = some y := by rw [hl, nth_map hn]; unfold nth; rw [List.getD_eq_getElem?_getD, hy]; rfl
    have hcs : css[k]? = some (bdC y) := by rw [hcss]; simp [bds, hly]
    obtain ⟨g1, o1, blk1, T1, fr1, hB1, hm1, hc1⟩ := hB.get1 (k := k) (v := .int .i64 n) (by simp [ints, hn])
    obtain ⟨g2, o2, blk2, T2, fr2, hA2, hm2, hc2⟩ := hA.get (k := n.toNat) (cs := bdC y) (by simp [bds, hy])
    rw [Int.toNat_natCast] at hc2
    replace hc2 : CellsAt blk2 (o2 + n.toNat * 2) #[.int .u64 (y.lo.toNat : Int), .int .u64 (y.can.toNat : Int)] := hc2
    have hlo : blk2[o2 + n.toNat * 2 + 0]? = some (.int .u64 (y.lo.toNat : Int)) := hc2 0 _ rfl
    have hca : blk2[o2 + n.toNat * 2 + 1]? = some (.int .u64 (y.can.toNat : Int)) := hc2 1 _ rfl
    have hd : decide ((k : Int) < (r.vars.length : Int)) = true := by simpa using hlt
    repeat' (first | refine TC.seq ?_ | refine TC.region ?_ | refine TR.nil ?_ | refine Post.then_normal ?_ | refine TC.block ?_ | refine TC.skip ?_ | (apply TC.cond_bt; exact rfl; assumption) | (apply TR.st1; exact rfl; exact rfl; exact rfl; (first | exact Wd.plain rfl | exact Wd.on rfl rfl rfl); (first | exact EvS.move rfl | exact EvS.fieldAddr rfl | (first | (apply EvS.load1; exact rfl; (first | exact Reads.mem (by assumption) | exact Reads.own (by repeat first | exact List.Mem.head _ | assumption | apply List.Mem.tail)); (first | assumption | exact nthL_arr rfl | exact rfl)) | (apply EvS.loadW; exact rfl; (first | exact Reads.mem (by assumption) | exact Reads.own (by repeat first | exact List.Mem.head _ | assumption | apply List.Mem.tail)); first | exact rfl | assumption) | (apply EvS.loadH; exact rfl; (first | exact Reads.mem (by assumption) | exact Reads.own (by repeat first | exact List.Mem.head _ | assumption | apply List.Mem.tail)); assumption; first | exact rfl | assumption)) | exact EvS.len rfl | exact EvS.ltI rfl rfl | (first | exact EvS.indexAddr rfl rfl (by first | exact rfl | assumption) (by omega) | exact EvS.indexAddrA rfl rfl (by omega)))) | (apply TR.ch1 (o := ⟨_, .buildSlice _ _ _, _, _, _, _⟩) ; exact rfl; exact rfl; exact rfl; (first | exact Wd.plain rfl | exact Wd.on rfl rfl rfl); exact EvC.buildA rfl (by exact rfl) (by exact rfl) (by decide) (by decide); intro g))
    (apply TR.ch1 (o := ⟨_, .call _, _, _, _, _⟩); exact rfl; exact rfl; exact rfl; (first | exact Wd.plain rfl | exact Wd.on rfl rfl rfl); (apply EvC.append; exact rfl; exact rfl; exact hrow; exact Rep1.tail (Rep1.head); (apply RdC.whole; (first | exact Reads.mem (by assumption) | exact Reads.own (by repeat first | exact List.Mem.head _ | assumption | apply List.Mem.tail))); exact rfl; exact (by first | exact (fun v hv => by simp at hv; rcases hv with rfl | rfl | rfl | rfl | rfl | rfl | rfl | rfl <;> rfl) | exact (fun v hv => by simp at hv; rcases hv with rfl | rfl | rfl | rfl | rfl | rfl | rfl <;> rfl) | exact (fun v hv => by simp at hv; rcases hv with rfl | rfl | rfl | rfl <;> rfl) | exact (fun v hv => by simp at hv; rcases hv with rfl | rfl <;> rfl) | exact (fun v hv => by simp at hv; subst hv; rfl)); exact rfl; decide; omega; (intro e2; exact Rep1.tail (Rep1.head))); intro p)
    obtain ⟨⟨v2, e2⟩, hrow2⟩ := p
    simp only at hrow2 ⊢
    repeat' (first | refine TC.seq ?_ | refine TR.nil ?_ | refine Post.then_normal ?_ | (apply TR.st1 (o := ⟨_, .assign _, _, _, _, _⟩); exact rfl; exact rfl; exact rfl; (first | exact Wd.plain rfl | exact Wd.on rfl rfl rfl); exact EvS.assign rfl))
    refine TC.draw_ [.st, .st, .st, .st, .st, .st, .st, .st, .st, .st, .st, .st, .st, .st, .st, .st, .st, .st, .st, .st] mixed rfl (by kernel_rfl) ?_
    repeat' (first | (apply D.st1; exact rfl; (first | exact Wd.plain rfl | exact Wd.on rfl rfl rfl); (first | exact EvS.move rfl | exact EvS.fieldAddr rfl | (first | (apply EvS.load1; exact rfl; (first | exact Reads.memX (by assumption) | exact Reads.ownX (by repeat first | exact List.Mem.head _ | assumption | apply List.Mem.tail)); (first | assumption | exact nthL_arr rfl | exact rfl)) | (apply EvS.loadW; exact rfl; (first | exact Reads.memX (by assumption) | exact Reads.ownX (by repeat first | exact List.Mem.head _ | assumption | apply List.Mem.tail)); first | exact rfl | assumption) | (apply EvS.loadH; exact rfl; (first | exact Reads.memX (by assumption) | exact Reads.ownX (by repeat first | exact List.Mem.head _ | assumption | apply List.Mem.tail)); assumption; first | exact rfl | assumption)) | (first | exact EvS.ne64 rfl rfl (by first | with_reducible exact U64.var _ | exact U64.lit rfl) (by first | with_reducible exact U64.var _ | exact U64.lit rfl) | exact EvS.neB rfl rfl | exact EvS.neI rfl rfl) | exact EvS.andNot64 rfl rfl (by first | with_reducible exact U64.var _ | exact U64.lit rfl) (by first | with_reducible exact U64.var _ | exact U64.lit rfl) | (first | exact EvS.indexAddr rfl rfl (by first | exact rfl | assumption) (by omega) | exact EvS.indexAddrA rfl rfl (by omega)))) | refine D.tail_ ?_)
    repeat' (first | refine TC.seq ?_ | refine TC.region ?_ | refine TR.nil ?_ | refine Post.then_normal ?_ | refine TC.skip ?_ | refine TC.ret ?_ | refine Post.then_ret ?_ | refine Post.block_normal ?_ | refine Post.block_ret ?_ | (apply TC.cond; exact rfl; all_goals (intro h)) | (apply TR.st1; exact rfl; exact rfl; exact rfl; (first | exact Wd.plain rfl | exact Wd.on rfl rfl rfl); (first | exact EvS.move rfl | exact EvS.assign rfl | (first | exact EvS.addI rfl rfl (by omega) | exact EvS.add64 rfl rfl (by first | with_reducible exact U64.var _ | exact U64.lit rfl) (by first | with_reducible exact U64.var _ | exact U64.lit rfl)))))
    · have hcb : possB a r = false := by
        unfold possB
        rw [if_pos]
        rw [List.any_eq_true]
        exact ⟨y, by rw [← hl]; exact List.mem_of_getElem? hly, h⟩
      rw [hcb]
      (refine Post.body_ret _ (ResL.one rfl (ResV.tmp rfl)) ?_; intro wR hR; exact ⟨rfl, (by first | exact hR | exact hR.tail | exact hR.tail.tail | exact hR.tail.tail.tail | exact hR.tail.tail.tail.tail | exact hR.tail.tail.tail.tail.tail | exact hR.tail.tail.tail.tail.tail.tail)⟩)
    · refine Post.nextP ⟨k + 1, v2, e2⟩ ⟨by simp only; omega, by simp only; rw [take_snoc hcs]; exact hrow2, fun j z hj hz => ?_⟩ (incl.lk (by repeat first | exact trivial | refine ⟨rfl, ?_⟩)) (fun w h => h.tail) (by simp only; omega)
      by_cases e0 : j = k
      · subst e0; rw [hly] at hz; cases hz; exact h
      · exact hno j z (by simp only at hj; omega) hz
  have hd : decide ((k : Int) < (r.vars.length : Int)) = false := by simpa using hlt
  obtain rfl : k = r.vars.length := by omega
  have hcl0 : (ofB a r).any clashB = false := by
    rw [← hl, List.any_eq_false]
    intro y hy
    obtain ⟨j, hj, rfl⟩ := List.mem_iff_getElem.1 hy
    rw [hno j _ (by omega) (List.getElem?_eq_getElem hj)]
    simp
  rw [← hcl, List.take_length] at hrow
  refine TC.pull (fun w h => (lend h).1) fun hle => ?_
  refine TC.turn (S' := St (memO m e) (some (gr, .cells #[.int .i64 r.kind, .slice B r.vars.length c, .int .i64 r.low, .int .i64 r.high] 44 (0, 0)) :: L)) (fun w h => (lend h).2) ?_
  obtain ⟨LA, lc, rfl, _, hLS⟩ := OwnRow.lent (m := m) hrow (by rw [hcss]; exact bds_len l) rfl (by omega)
  obtain ⟨m2, hm2⟩ : ∃ m2, m2 = memO m e := ⟨_, rfl⟩
  rw [← hm2] at hle hLS ⊢
  rw [hcl, hcss] at *
  have hfin : ∀ w, St m2 (some (gr, .cells #[.int .i64 r.kind, .slice B r.vars.length c, .int .i64 r.low, .int .i64 r.high] 44 (0, 0)) :: L) w → St m L w := fun w h => (h.weaken hle).tail
  by_cases h6 : r.kind = 6
  · have hk : (r.kind == 6) = true := by simp [h6]
    have hlen : l.length = 1 := by
      have h := hr.2.2
      rw [h6, show varsZ 6 = 1 from rfl] at h
      omega
    obtain ⟨y, hy⟩ : ∃ y, l = [y] := List.length_eq_one_iff.1 hlen
    obtain ⟨g2, o2, blk2, T2, fr2, hA2, hmm2, hc2⟩ := hLS.get (k := 0) (cs := bdC y) (by rw [hy]; rfl)
    have hlo : blk2[o2 + Int.toNat 0 * 2 + 0]? = some (.int .u64 (y.lo.toNat : Int)) := hc2 0 _ rfl
    have hca : blk2[o2 + Int.toNat 0 * 2 + 1]? = some (.int .u64 (y.can.toNat : Int)) := hc2 1 _ rfl
    clear hc2
    have hp : possB a r = (decide ((pop y.lo : Int) ≤ r.high) && decide ((pop y.can : Int) ≥ r.low)) := by unfold possB; rw [if_neg (by rw [hcl0]; simp), if_pos h6, ← hl, hy]; rfl
    rw [hp]
    by_cases hq : decide ((pop y.lo : Int) ≤ r.high) = true
    · repeat' (first | refine TC.seq ?_ | refine TC.region ?_ | refine TR.nil ?_ | refine Post.then_normal ?_ | refine TC.exit ?_ | (apply TC.cond_bt; exact rfl; assumption) | (apply TC.cond_bf; exact rfl; assumption) | refine Post.then_exit ?_ | refine Post.block_here ?_ | (apply TR.st1; exact rfl; exact rfl; exact rfl; (first | exact Wd.plain rfl | exact Wd.on rfl rfl rfl); (first | exact EvS.move rfl | exact EvS.fieldAddr rfl | (first | (apply EvS.load1; exact rfl; (first | exact Reads.mem (by assumption) | exact Reads.own (by repeat first | exact List.Mem.head _ | assumption | apply List.Mem.tail)); (first | assumption | exact nthL_arr rfl | exact rfl)) | (apply EvS.loadW; exact rfl; (first | exact Reads.mem (by assumption) | exact Reads.own (by repeat first | exact List.Mem.head _ | assumption | apply List.Mem.tail)); first | exact rfl | assumption) | (apply EvS.loadH; exact rfl; (first | exact Reads.mem (by assumption) | exact Reads.own (by repeat first | exact List.Mem.head _ | assumption | apply List.Mem.tail)); assumption; first | exact rfl | assumption)) | exact EvS.len rfl | (first | exact EvS.eq64 rfl rfl (by first | with_reducible exact U64.var _ | exact U64.lit rfl) (by first | with_reducible exact U64.var _ | exact U64.lit rfl) | exact EvS.eqI rfl rfl | exact EvS.eqB rfl rfl) | exact EvS.ltI rfl rfl)))
      refine TC.draw_ [.st, .st, .st, .st, .ch, .st, .st, .st, .st, .st, .st, .st, .st, .ch, .st, .st, .st, .st] mixed rfl (by kernel_rfl) ?_
      repeat' (first | rw [hq] | (apply D.chx (o := ⟨_, .call _, _, _, _, _⟩); exact rfl; (first | exact Wd.plain rfl | exact Wd.on rfl rfl rfl); exact EvC.callV rfl rfl (fun w hs => count_c y.lo _ _ w hs); exact inferInstance; exact (by first | exact fun _ _ h => StX.of0 h | exact fun _ _ h => StX.of1 h | exact fun _ _ h => StX.of2 h | exact fun _ _ h => StX.of3 h | exact fun _ _ h => StX.of h); rintro ⟨⟩) | (apply D.chx (o := ⟨_, .call _, _, _, _, _⟩); exact rfl; (first | exact Wd.plain rfl | exact Wd.on rfl rfl rfl); exact EvC.callV rfl rfl (fun w hs => count_c y.can _ _ w hs); exact inferInstance; exact (by first | exact fun _ _ h => StX.of0 h | exact fun _ _ h => StX.of1 h | exact fun _ _ h => StX.of2 h | exact fun _ _ h => StX.of3 h | exact fun _ _ h => StX.of h); rintro ⟨⟩) | (apply D.st1; exact rfl; (first | exact Wd.plain rfl | exact Wd.on rfl rfl rfl); (first | exact EvS.move rfl | exact EvS.fieldAddr rfl | (first | (apply EvS.load1; exact rfl; (first | exact Reads.memX (by assumption) | exact Reads.ownX (by repeat first | exact List.Mem.head _ | assumption | apply List.Mem.tail)); (first | assumption | exact nthL_arr rfl | exact rfl)) | (apply EvS.loadW; exact rfl; (first | exact Reads.memX (by assumption) | exact Reads.ownX (by repeat first | exact List.Mem.head _ | assumption | apply List.Mem.tail)); first | exact rfl | assumption) | (apply EvS.loadH; exact rfl; (first | exact Reads.memX (by assumption) | exact Reads.ownX (by repeat first | exact List.Mem.head _ | assumption | apply List.Mem.tail)); assumption; first | exact rfl | assumption)) | exact EvS.leI rfl rfl | exact EvS.geI rfl rfl | (first | exact EvS.pick_t rfl rfl | exact EvS.pick_f rfl rfl) | (first | exact EvS.indexAddr rfl rfl (by first | exact rfl | assumption) (by omega) | exact EvS.indexAddrA rfl rfl (by omega)))) | refine D.tail_ ?_)
      repeat' (first | refine TR.nil ?_ | refine Post.then_normal ?_ | refine TC.ret ?_ | refine Post.then_ret ?_ | (apply TR.st1 (o := ⟨_, .assign _, _, _, _, _⟩); exact rfl; exact rfl; exact rfl; (first | exact Wd.plain rfl | exact Wd.on rfl rfl rfl); exact EvS.assign rfl))
      refine Post.body_ret _ (ResL.one rfl (ResV.tmp rfl)) ?_
      exact fun w h => ⟨rfl, hfin w h⟩
    · rw [Bool.not_eq_true] at hq
      repeat' (first | refine TC.seq ?_ | refine TC.region ?_ | refine TR.nil ?_ | refine Post.then_normal ?_ | refine TC.exit ?_ | (apply TC.cond_bt; exact rfl; assumption) | (apply TC.cond_bf; exact rfl; assumption) | refine Post.then_exit ?_ | refine Post.block_here ?_ | (apply TR.st1; exact rfl; exact rfl; exact rfl; (first | exact Wd.plain rfl | exact Wd.on rfl rfl rfl); (first | exact EvS.move rfl | exact EvS.fieldAddr rfl | (first | (apply EvS.load1; exact rfl; (first | exact Reads.mem (by assumption) | exact Reads.own (by repeat first | exact List.Mem.head _ | assumption | apply List.Mem.tail)); (first | assumption | exact nthL_arr rfl | exact rfl)) | (apply EvS.loadW; exact rfl; (first | exact Reads.mem (by assumption) | exact Reads.own (by repeat first | exact List.Mem.head _ | assumption | apply List.Mem.tail)); first | exact rfl | assumption) | (apply EvS.loadH; exact rfl; (first | exact Reads.mem (by assumption) | exact Reads.own (by repeat first | exact List.Mem.head _ | assumption | apply List.Mem.tail)); assumption; first | exact rfl | assumption)) | exact EvS.len rfl | (first | exact EvS.eq64 rfl rfl (by first | with_reducible exact U64.var _ | exact U64.lit rfl) (by first | with_reducible exact U64.var _ | exact U64.lit rfl) | exact EvS.eqI rfl rfl | exact EvS.eqB rfl rfl) | exact EvS.ltI rfl rfl)))
      refine TC.draw_ [.st, .st, .st, .st, .ch, .st, .st, .st, .st, .sk, .sk, .sk, .sk, .sk, .sk, .sk, .sk, .st] mixed rfl (by kernel_rfl) ?_
      repeat' (first | rw [hq] | (apply D.chx (o := ⟨_, .call _, _, _, _, _⟩); exact rfl; (first | exact Wd.plain rfl | exact Wd.on rfl rfl rfl); exact EvC.callV rfl rfl (fun w hs => count_c y.lo _ _ w hs); exact inferInstance; exact (by first | exact fun _ _ h => StX.of0 h | exact fun _ _ h => StX.of1 h | exact fun _ _ h => StX.of2 h | exact fun _ _ h => StX.of3 h | exact fun _ _ h => StX.of h); rintro ⟨⟩) | (apply D.sk1; exact rfl; (first | exact Wd.off rfl rfl rfl rfl | exact Wd.offU rfl rfl rfl)) | (apply D.st1; exact rfl; (first | exact Wd.plain rfl | exact Wd.on rfl rfl rfl); (first | exact EvS.move rfl | exact EvS.fieldAddr rfl | (first | (apply EvS.load1; exact rfl; (first | exact Reads.memX (by assumption) | exact Reads.ownX (by repeat first | exact List.Mem.head _ | assumption | apply List.Mem.tail)); (first | assumption | exact nthL_arr rfl | exact rfl)) | (apply EvS.loadW; exact rfl; (first | exact Reads.memX (by assumption) | exact Reads.ownX (by repeat first | exact List.Mem.head _ | assumption | apply List.Mem.tail)); first | exact rfl | assumption) | (apply EvS.loadH; exact rfl; (first | exact Reads.memX (by assumption) | exact Reads.ownX (by repeat first | exact List.Mem.head _ | assumption | apply List.Mem.tail)); assumption; first | exact rfl | assumption)) | exact EvS.leI rfl rfl | (first | exact EvS.pick_t rfl rfl | exact EvS.pick_f rfl rfl) | (first | exact EvS.indexAddr rfl rfl (by first | exact rfl | assumption) (by omega) | exact EvS.indexAddrA rfl rfl (by omega)))) | refine D.tail_ ?_)
      repeat' (first | refine TR.nil ?_ | refine Post.then_normal ?_ | refine TC.ret ?_ | refine Post.then_ret ?_ | (apply TR.st1 (o := ⟨_, .assign _, _, _, _, _⟩); exact rfl; exact rfl; exact rfl; (first | exact Wd.plain rfl | exact Wd.on rfl rfl rfl); exact EvS.assign rfl))
      refine Post.body_ret _ (ResL.one rfl (ResV.tmp rfl)) ?_
      exact fun w h => ⟨rfl, hfin w h⟩
  · have hk : (r.kind == 6) = false := by simpa using h6
    have h5 : r.kind ≤ 5 := by have := hr.2.1; omega
    have hlz : (l.length : Int) = varsZ r.kind := by rw [hll]; exact hr.2.2
    have hp : possB a r = (List.range 12).all (elemB l r.kind) := by unfold possB; rw [if_neg (by rw [hcl0]; simp), if_neg h6, ← hl]
    rw [hp]
    repeat' (first | refine TC.seq ?_ | refine TC.region ?_ | refine TR.nil ?_ | refine Post.then_normal ?_ | refine TC.block ?_ | refine TC.skip ?_ | refine TC.exit ?_ | (apply TC.cond_bf; exact rfl; assumption) | refine Post.then_exit ?_ | refine Post.block_here ?_ | (apply TR.st1; exact rfl; exact rfl; exact rfl; (first | exact Wd.plain rfl | exact Wd.on rfl rfl rfl); (first | exact EvS.move rfl | exact EvS.assign rfl | exact EvS.fieldAddr rfl | (first | (apply EvS.load1; exact rfl; (first | exact Reads.mem (by assumption) | exact Reads.own (by repeat first | exact List.Mem.head _ | assumption | apply List.Mem.tail)); (first | assumption | exact nthL_arr rfl | exact rfl)) | (apply EvS.loadW; exact rfl; (first | exact Reads.mem (by assumption) | exact Reads.own (by repeat first | exact List.Mem.head _ | assumption | apply List.Mem.tail)); first | exact rfl | assumption) | (apply EvS.loadH; exact rfl; (first | exact Reads.mem (by assumption) | exact Reads.own (by repeat first | exact List.Mem.head _ | assumption | apply List.Mem.tail)); assumption; first | exact rfl | assumption)) | exact EvS.len rfl | (first | exact EvS.eq64 rfl rfl (by first | with_reducible exact U64.var _ | exact U64.lit rfl) (by first | with_reducible exact U64.var _ | exact U64.lit rfl) | exact EvS.eqI rfl rfl | exact EvS.eqB rfl rfl) | exact EvS.ltI rfl rfl)))
    refine TC.loopP (X := Nat) (fun k => k ≤ 12 ∧ ∀ j, j < k → elemB l r.kind j = true) (fun k => [(7, .int .i64 (k : Int)), (5, .slice LA r.vars.length lc), (2, .pointer (some ⟨gr, 0, none⟩))]) (fun _ => St m2 (some (gr, .cells #[.int .i64 r.kind, .slice B r.vars.length c, .int .i64 r.low, .int .i64 r.high] 44 (0, 0)) :: L)) (fun k => 12 - k) 0 ⟨by omega, fun j h => by omega⟩ (incl.lk (by repeat first | exact trivial | refine ⟨rfl, ?_⟩)) (fun w h => h) ?_
    rintro k ⟨hk12, hall⟩
    by_cases hlt2 : k < 12
    · have hd2 : decide ((k : Int) < 12) = true := by simp; omega
      have hsc := fun (w : World) (L : Own) (hs : St m2 L w) => hso k hlt2 h5 LA lc k hlt2 hr.1 h5 hlz l [] none 0 m2 L w rfl (Nat.zero_le _) hLS Sl.nil hs
      rw [hll, some_elem hr.1 h5 hlz] at hsc
      repeat' (first | (apply TR.ch1 (o := ⟨_, .call _, _, _, _, _⟩); exact rfl; exact rfl; exact rfl; (first | exact Wd.plain rfl | exact Wd.on rfl rfl rfl); exact EvC.callV rfl rfl (fun w hs => hsc w _ hs); rintro ⟨⟩) | refine TC.seq ?_ | refine TC.region ?_ | refine TR.nil ?_ | refine Post.then_normal ?_ | refine TC.block ?_ | refine TC.skip ?_ | refine TC.ret ?_ | (apply TC.cond_bt; exact rfl; assumption) | refine Post.then_ret ?_ | refine Post.block_normal ?_ | refine Post.block_ret ?_ | (apply TC.cond; exact rfl; all_goals (intro h)) | (apply TR.st1; exact rfl; exact rfl; exact rfl; (first | exact Wd.plain rfl | exact Wd.on rfl rfl rfl); (first | exact EvS.move rfl | exact EvS.assign rfl | (first | (apply EvS.load1; exact rfl; (first | exact Reads.mem (by assumption) | exact Reads.own (by repeat first | exact List.Mem.head _ | assumption | apply List.Mem.tail)); (first | assumption | exact nthL_arr rfl | exact rfl)) | (apply EvS.loadW; exact rfl; (first | exact Reads.mem (by assumption) | exact Reads.own (by repeat first | exact List.Mem.head _ | assumption | apply List.Mem.tail)); first | exact rfl | assumption) | (apply EvS.loadH; exact rfl; (first | exact Reads.mem (by assumption) | exact Reads.own (by repeat first | exact List.Mem.head _ | assumption | apply List.Mem.tail)); assumption; first | exact rfl | assumption)) | (first | exact EvS.not rfl | exact EvS.neg64 rfl (by first | with_reducible exact U64.var _ | exact U64.lit rfl)) | exact EvS.ltI rfl rfl | (first | exact EvS.addI rfl rfl (by omega) | exact EvS.add64 rfl rfl (by first | with_reducible exact U64.var _ | exact U64.lit rfl) (by first | with_reducible exact U64.var _ | exact U64.lit rfl)))))
      · have hf : elemB l r.kind k = false := by simpa using h
        refine Post.body_ret _ (ResL.one rfl (ResV.tmp rfl)) ?_
        exact fun w h => ⟨by congr 2; symm; rw [List.all_eq_false]; exact ⟨k, by simpa using hlt2, by simp [hf]⟩, hfin w h⟩
      · have ht : elemB l r.kind k = true := by simpa using h
        refine Post.nextP (k + 1) ⟨by omega, fun j hj => ?_⟩ (incl.lk (by repeat first | exact trivial | refine ⟨rfl, ?_⟩)) (fun w h => h) (by omega)
        by_cases e0 : j = k
        · rw [e0]; exact ht
        · exact hall j (by omega)
    · have hd2 : decide ((k : Int) < 12) = false := by simp; omega
      obtain rfl : k = 12 := by omega
      repeat' (first | refine TC.seq ?_ | refine TC.region ?_ | refine TR.nil ?_ | refine Post.then_normal ?_ | refine TC.ret ?_ | refine TC.exit ?_ | (apply TC.cond_f; exact rfl) | refine Post.then_exit ?_ | refine Post.block_here ?_ | (apply TR.st1; exact rfl; exact rfl; exact rfl; (first | exact Wd.plain rfl | exact Wd.on rfl rfl rfl); (first | exact EvS.move rfl | exact EvS.assign rfl | exact EvS.ltI rfl rfl)))
      refine Post.body_ret _ (ResL.one rfl (ResV.tmp rfl)) ?_
      exact fun w h => ⟨by congr 2; symm; rw [List.all_eq_true]; intro j hj; exact hall j (by simpa using hj), hfin w h⟩

theorem set_head {xs junk : List Value} {i : Nat} (h : i < xs.length) (v : Value) : (xs ++ junk).toArray.setIfInBounds i v = ((xs.toArray.setIfInBounds i v).toList ++ junk).toArray := by
  apply Array.ext'
  simp only [Array.toList_setIfInBounds, List.toList_toArray]
  rw [List.set_append_left _ _ h]
/-- A slice of bounds in memory that may have grown. -/
def WS (m : Mem) (b : List Bd) (L : Own) (p : Option Addr × Nat) (w : World) : Prop := ∃ m', m.Le m' ∧ Sl m' 2 p.1 (bds b) ∧ St m' L w
theorem withR_c (a : List Bd) (A : Option Addr) (ca : Nat) (v : Int) (e : Nat) (i : Bool) (hv : 0 ≤ v ∧ v < a.length) (he : e < 12) (ha : a.length ≤ 1000) (m : Mem) (hA : Sl m 2 A (bds a)) (L : Own) (w : World) (hs : St m L w) :
    Calls Tryd.prog 51 #[.slice A a.length ca, .int .i64 v, .int .i64 (e : Int), .bool i] w fun q w' => ∃ p : Option Addr × Nat, q = .returned (.slice p.1 a.length p.2) ∧ WS m (withB a v e i) L p w' := by
  obtain ⟨y, hy⟩ : ∃ y, a[v.toNat]? = some y := ⟨_, List.getElem?_eq_getElem (by omega)⟩
  have hny : nth a v = y := by unfold nth; rw [List.getD_eq_getElem?_getD, hy]; rfl
  have hnews : (bds a).flatten.length = a.length * 2 := by rw [flatten_length (bds_len a), bds_length]
  have hone : ∀ v, v ∈ (bds a).flatten → v.oneCell' = true := by rw [bds_flatten]; exact bdC_oneCell a
  have hrd (L : Own) : RdC (St m L) A (bds a).flatten := hA.rdc
  have hvn : v.toNat < a.length := by omega
  have hset (k : Nat) (hk : k < (bds a).flatten.length) (junk : List Value) (u : Value) (b : List Bd) (hb : (bArr a).setIfInBounds k u = bArr b) : ((bds a).flatten ++ junk).toArray.setIfInBounds k u = ((bds b).flatten ++ junk).toArray := by
    rw [set_head hk]
    congr 2
    rw [show (bds a).flatten.toArray = bArr a by rw [bds_flatten]; rfl, hb, bds_flatten]; rfl
  have hend : ∀ (cap g : Nat) (junk : List Value) (b : List Bd) (w : World), b.length = a.length → a.length ≤ cap → cap ≤ maxLen → ((bds a).flatten ++ junk).length = cap * 2 → St m (some (g, .cells ((bds b).flatten ++ junk).toArray 48 (0, 0)) :: L) w → WS m b L (some ⟨g, 0, none⟩, cap) w := by
    intro cap g junk b w hb hc1 hc2 hjl h
    have hbl : (bds b).flatten.length = a.length * 2 := by rw [flatten_length (bds_len b), bds_length, hb]
    obtain ⟨l1, l2⟩ := lend h
    have hrow : OwnRow (.slice (some ⟨g, 0, none⟩) a.length cap) 48 2 a.length (bds b).flatten (some (g, .cells ((bds b).flatten ++ junk).toArray 48)) :=
      .inr ⟨g, cap, junk, rfl, hc1, hc2, hbl, by rw [List.length_append] at hjl ⊢; omega, rfl⟩
    obtain ⟨A', c', heq, _, hS⟩ := OwnRow.lent (m := m) hrow (bds_len b) (by rw [bds_length, hb]) (by omega)
    injection heq with e1 _ _
    rw [← e1] at hS
    exact ⟨_, l1, hS, l2⟩
  have hwl : (withB a v e i).length = a.length := by simp [withB]
  refine calls_of_TC (args := [_, _, _, _]) Tryd.func51 rfl Tryd.ntmps51 (Nat.le_of_ble_eq_true rfl) hs ?_
  repeat' (first | refine TC.seq ?_ | refine TC.region ?_ | refine TR.nil ?_ | refine Post.then_normal ?_ | (apply TR.st1; exact rfl; exact rfl; exact rfl; (first | exact Wd.plain rfl | exact Wd.on rfl rfl rfl); (first | exact EvS.move rfl | exact EvS.assign rfl)))
  refine TR.turn (fun w h => h.addNone) ?_
  (apply TR.ch1 (o := ⟨_, .call _, _, _, _, _⟩); exact rfl; exact rfl; exact rfl; exact Wd.plain rfl; (apply EvC.append; exact rfl; exact rfl; exact OwnRow.nil; exact Rep1.head; exact hrd _; exact hnews; exact hone; exact rfl; decide; omega; (intro e2; exact Rep1.head)); intro p)
  obtain ⟨⟨v3, e3⟩, hrow3⟩ := p
  simp only at hrow3 ⊢
  rw [Nat.zero_add, List.nil_append] at hrow3
  rcases hrow3 with ⟨_, h0, _, _⟩ | ⟨g0, cap, junk, rfl, hc1, hc2, hlen, hjl, rfl⟩
  · omega
  obtain ⟨cs, hcs⟩ : ∃ cs, cs = ((bds a).flatten ++ junk).toArray := ⟨_, rfl⟩
  rw [← hcs]
  have hat (j : Nat) (u : Value) (h : (bArr a)[v.toNat * 2 + j]? = some u) : cs[0 + v.toNat * 2 + j]? = some u := by
    rw [hcs, Nat.zero_add, List.getElem?_toArray]
    have : (bds a).flatten[v.toNat * 2 + j]? = some u := by rw [bds_flatten]; simpa [bArr] using h
    rw [List.getElem?_append_left (List.getElem?_eq_some_iff.1 this).1]; exact this
  have hlo : cs[0 + v.toNat * 2 + 0]? = some (.int .u64 (y.lo.toNat : Int)) := hat 0 _ (bArr_lo hy)
  have hca : cs[0 + v.toNat * 2 + 1]? = some (.int .u64 (y.can.toNat : Int)) := hat 1 _ (bArr_can hy)
  have hb0 : 0 + v.toNat * 2 + 0 < cs.size := by rw [hcs, List.size_toArray, hjl]; omega
  have hb1 : 0 + v.toNat * 2 + 1 < cs.size := by rw [hcs, List.size_toArray, hjl]; omega
  have hset1 : cs.setIfInBounds (0 + v.toNat * 2 + 0) (.int .u64 ((y.lo ||| bit e).toNat : Int)) = ((bds (withB a v e true)).flatten ++ junk).toArray := by
    rw [hcs]
    refine hset _ (by rw [hnews]; omega) junk _ _ ?_
    rw [Nat.zero_add, Nat.add_zero, bArr_set_lo hy]
    simp [withB, hny, setB]
  have hset0 : cs.setIfInBounds (0 + v.toNat * 2 + 1) (.int .u64 ((y.can &&& ~~~bit e).toNat : Int)) = ((bds (withB a v e false)).flatten ++ junk).toArray := by
    rw [hcs]
    refine hset _ (by rw [hnews]; omega) junk _ _ ?_
    rw [Nat.zero_add, bArr_set_can hy]
    simp [withB, hny, setB]
  cases i with
  | true =>
    repeat' (first | refine TC.seq ?_ | refine TC.region ?_ | refine TR.nil ?_ | refine Post.then_normal ?_ | (apply TC.cond_t; exact rfl) | (apply TR.st1; exact rfl; exact rfl; exact rfl; (first | exact Wd.plain rfl | exact Wd.on rfl rfl rfl); (first | exact EvS.move rfl | exact EvS.assign rfl)))
    refine TC.draw_ [.st, .st, .st, .st, .st, .st, .st, .st, .ch, .st, .st, .st] mixed rfl (by kernel_rfl) ?_
    repeat' (first | (apply D.chx (o := ⟨_, .call _, _, _, _, _⟩); exact rfl; (first | exact Wd.plain rfl | exact Wd.on rfl rfl rfl); exact EvC.callV rfl rfl (fun w hs => oneR_c e (by omega) _ _ w hs); exact inferInstance; exact (by first | exact fun _ _ h => StX.of0 h | exact fun _ _ h => StX.of1 h | exact fun _ _ h => StX.of2 h | exact fun _ _ h => StX.of3 h | exact fun _ _ h => StX.of h); rintro ⟨⟩) | (apply D.st1; exact rfl; (first | exact Wd.plain rfl | exact Wd.on rfl rfl rfl); (first | exact EvS.move rfl | exact EvS.fieldAddr rfl | (first | (apply EvS.load1; exact rfl; (first | exact Reads.memX (by assumption) | exact Reads.ownX (by repeat first | exact List.Mem.head _ | assumption | apply List.Mem.tail)); (first | assumption | exact nthL_arr rfl | exact rfl)) | (apply EvS.loadW; exact rfl; (first | exact Reads.memX (by assumption) | exact Reads.ownX (by repeat first | exact List.Mem.head _ | assumption | apply List.Mem.tail)); first | exact rfl | assumption) | (apply EvS.loadH; exact rfl; (first | exact Reads.memX (by assumption) | exact Reads.ownX (by repeat first | exact List.Mem.head _ | assumption | apply List.Mem.tail)); assumption; first | exact rfl | assumption)) | exact EvS.or64 rfl rfl (by first | with_reducible exact U64.var _ | exact U64.lit rfl) (by first | with_reducible exact U64.var _ | exact U64.lit rfl) | (first | exact EvS.indexAddr rfl rfl (by first | exact rfl | assumption) (by omega) | exact EvS.indexAddrA rfl rfl (by omega)))) | refine D.tail_ ?_)
    repeat' (first | (apply TR.ch0 (o := ⟨_, .store _ _ _, _, _, _, _⟩); exact rfl; exact rfl; exact Wd.plain rfl; exact EvC.store1 rfl rfl rfl (Upd.castC hset1 (by repeat first | exact Upd.head | apply Upd.tail)) hb0; rintro ⟨⟩) | refine TC.seq ?_ | refine TC.region ?_ | refine TR.nil ?_ | refine Post.then_normal ?_ | refine TC.ret ?_ | (apply TR.st1; exact rfl; exact rfl; exact rfl; (first | exact Wd.plain rfl | exact Wd.on rfl rfl rfl); (first | exact EvS.move rfl | exact EvS.assign rfl)))
    refine Post.body_ret _ (ResL.one rfl (ResV.tmp rfl)) ?_
    exact fun w h => ⟨(some ⟨g0, 0, none⟩, cap), rfl, hend cap g0 junk _ w (by simp [withB]) hc1 hc2 hjl h⟩
  | false =>
    repeat' (first | refine TC.seq ?_ | refine TC.region ?_ | refine TR.nil ?_ | refine Post.then_normal ?_ | (apply TC.cond_f; exact rfl) | (apply TR.st1; exact rfl; exact rfl; exact rfl; (first | exact Wd.plain rfl | exact Wd.on rfl rfl rfl); (first | exact EvS.move rfl | exact EvS.assign rfl)))
    refine TC.draw_ [.st, .st, .st, .st, .st, .st, .st, .st, .ch, .st, .st, .st] mixed rfl (by kernel_rfl) ?_
    repeat' (first | (apply D.chx (o := ⟨_, .call _, _, _, _, _⟩); exact rfl; (first | exact Wd.plain rfl | exact Wd.on rfl rfl rfl); exact EvC.callV rfl rfl (fun w hs => oneR_c e (by omega) _ _ w hs); exact inferInstance; exact (by first | exact fun _ _ h => StX.of0 h | exact fun _ _ h => StX.of1 h | exact fun _ _ h => StX.of2 h | exact fun _ _ h => StX.of3 h | exact fun _ _ h => StX.of h); rintro ⟨⟩) | (apply D.st1; exact rfl; (first | exact Wd.plain rfl | exact Wd.on rfl rfl rfl); (first | exact EvS.move rfl | exact EvS.fieldAddr rfl | (first | (apply EvS.load1; exact rfl; (first | exact Reads.memX (by assumption) | exact Reads.ownX (by repeat first | exact List.Mem.head _ | assumption | apply List.Mem.tail)); (first | assumption | exact nthL_arr rfl | exact rfl)) | (apply EvS.loadW; exact rfl; (first | exact Reads.memX (by assumption) | exact Reads.ownX (by repeat first | exact List.Mem.head _ | assumption | apply List.Mem.tail)); first | exact rfl | assumption) | (apply EvS.loadH; exact rfl; (first | exact Reads.memX (by assumption) | exact Reads.ownX (by repeat first | exact List.Mem.head _ | assumption | apply List.Mem.tail)); assumption; first | exact rfl | assumption)) | exact EvS.andNot64 rfl rfl (by first | with_reducible exact U64.var _ | exact U64.lit rfl) (by first | with_reducible exact U64.var _ | exact U64.lit rfl) | (first | exact EvS.indexAddr rfl rfl (by first | exact rfl | assumption) (by omega) | exact EvS.indexAddrA rfl rfl (by omega)))) | refine D.tail_ ?_)
    repeat' (first | (apply TR.ch0 (o := ⟨_, .store _ _ _, _, _, _, _⟩); exact rfl; exact rfl; exact Wd.plain rfl; exact EvC.store1 rfl rfl rfl (Upd.castC hset0 (by repeat first | exact Upd.head | apply Upd.tail)) hb1; rintro ⟨⟩) | refine TC.seq ?_ | refine TC.region ?_ | refine TR.nil ?_ | refine Post.then_normal ?_ | refine TC.ret ?_ | (apply TR.st1; exact rfl; exact rfl; exact rfl; (first | exact Wd.plain rfl | exact Wd.on rfl rfl rfl); (first | exact EvS.move rfl | exact EvS.assign rfl)))
    refine Post.body_ret _ (ResL.one rfl (ResV.tmp rfl)) ?_
    exact fun w h => ⟨(some ⟨g0, 0, none⟩, cap), rfl, hend cap g0 junk _ w (by simp [withB]) hc1 hc2 hjl h⟩

theorem nth_len (a : List Bd) (v : Int) (e : Nat) (i : Bool) : (withB a v e i).length = a.length := by simp [withB]
theorem followsR_c (r : Rl) (B : Option Addr) (c : Nat) (a : List Bd) (A : Option Addr) (ca : Nat) (v : Int) (e : Nat) (i : Bool) (n : Int) (W : Option Addr) (k c' : Nat) (hr : 1 ≤ r.kind ∧ r.kind ≤ 6 ∧ (r.vars.length : Int) = varsZ r.kind) (hrv : ∀ v, v ∈ r.vars → 0 ≤ v ∧ v < a.length) (ha : a.length ≤ 1000)
    (hv : 0 ≤ v ∧ v < a.length) (he : e < 12) (m : Mem) (hB : Sl m 1 B (ints r.vars)) (hA : Sl m 2 A (bds a)) (L : Own) (w : World) (hs : St m L w) :
    Calls Tryd.prog 65 #[rlV r B c, .slice A a.length ca, .agg (fcC v (e : Int) i n W k c')] w fun q w' => q = .returned (.bool (folB a r v e i)) ∧ St m L w' := by
  have hcan := fun (p : Option Addr × Nat) (L : Own) (w : World) (h : WS m (withB a v e (!i)) L p w) => (show Calls Tryd.prog 64 #[rlV r B c, .slice p.1 a.length p.2] w fun q w' => q = .returned (.bool (possB (withB a v e (!i)) r)) ∧ St m L w' from by
    obtain ⟨m', h1, h2, h3⟩ := h
    have := canR_c r B c (withB a v e (!i)) p.1 p.2 hr (by rw [nth_len]; exact hrv) (by rw [nth_len]; exact ha) m' (hB.mono h1) h2 L w h3
    rw [nth_len] at this
    exact this.mono fun q w' ⟨x, y⟩ => ⟨x, y.weaken h1⟩)
  have hstx : ∀ (p : Option Addr × Nat) (L : Own) (w : World), WS m (withB a v e (!i)) L p w → StX m L w := fun p L w ⟨m', h1, h2, h3⟩ => StX.of_le (L' := []) h1 h3
  unfold rlV fcC at *
  refine calls_of_TC (args := [_, _, _]) Tryd.func65 rfl Tryd.ntmps65 (Nat.le_of_ble_eq_true rfl) hs ?_
  repeat' (first | refine TC.seq ?_ | refine TC.region ?_ | refine TR.nil ?_ | refine Post.then_normal ?_ | (apply TR.st1 (o := ⟨_, .assign _, _, _, _, _⟩); exact rfl; exact rfl; exact rfl; (first | exact Wd.plain rfl | exact Wd.on rfl rfl rfl); exact EvS.assign rfl) | (apply TR.ch1 (o := ⟨_, .box _ _, _, _, _, _⟩) ; exact rfl; exact rfl; exact rfl; (first | exact Wd.plain rfl | exact Wd.on rfl rfl rfl); exact EvC.boxA rfl; intro g))
  refine TC.draw_ [.st, .st, .st, .st, .st, .st, .st, .st, .st, .ch, .ch, .st] mixed rfl (by kernel_rfl) ?_
  repeat' (first | (apply D.chx (o := ⟨_, .call _, _, _, _, _⟩); exact rfl; exact Wd.plain rfl; exact EvC.callX rfl rfl (fun w hs => withR_c a A ca v e (!i) hv he ha _ hA _ w hs); exact inferInstance; exact fun p _ h => hstx p _ _ h; rintro ⟨WA, wc⟩) | (apply D.chx (o := ⟨_, .call _, _, _, _, _⟩); exact rfl; exact Wd.plain rfl; exact EvC.callS rfl rfl (fun w h => hcan (WA, wc) _ w h); exact inferInstance; exact fun _ _ h => StX.of0 h; rintro ⟨⟩) | (apply D.st1; exact rfl; (first | exact Wd.plain rfl | exact Wd.on rfl rfl rfl); (first | exact EvS.move rfl | exact EvS.fieldAddr rfl | (first | (apply EvS.load1; exact rfl; (first | exact Reads.memX (by assumption) | exact Reads.ownX (by repeat first | exact List.Mem.head _ | assumption | apply List.Mem.tail)); (first | assumption | exact nthL_arr rfl | exact rfl)) | (apply EvS.loadW; exact rfl; (first | exact Reads.memX (by assumption) | exact Reads.ownX (by repeat first | exact List.Mem.head _ | assumption | apply List.Mem.tail)); first | exact rfl | assumption) | (apply EvS.loadH; exact rfl; (first | exact Reads.memX (by assumption) | exact Reads.ownX (by repeat first | exact List.Mem.head _ | assumption | apply List.Mem.tail)); assumption; first | exact rfl | assumption)) | (first | exact EvS.not rfl | exact EvS.neg64 rfl (by first | with_reducible exact U64.var _ | exact U64.lit rfl)))) | refine D.tail_ ?_)
  repeat' (first | refine TR.nil ?_ | refine Post.then_normal ?_ | refine TC.ret ?_ | (apply TR.st1 (o := ⟨_, .assign _, _, _, _, _⟩); exact rfl; exact rfl; exact rfl; (first | exact Wd.plain rfl | exact Wd.on rfl rfl rfl); exact EvS.assign rfl))
  (refine Post.body_ret _ (ResL.one rfl (ResV.tmp rfl)) ?_; intro wR hR; exact ⟨rfl, (by first | exact hR | exact hR.tail | exact hR.tail.tail | exact hR.tail.tail.tail | exact hR.tail.tail.tail.tail | exact hR.tail.tail.tail.tail.tail | exact hR.tail.tail.tail.tail.tail.tail)⟩)
end Go.Proofs.YtgpgjpcebajofaaDoor
set_option maxHeartbeats 4000000
set_option linter.unusedVariables false
set_option linter.unusedSimpArgs false
set_option maxRecDepth 100000
namespace Go.Proofs.YtgpgjpcebajofaaDoor
open Go Go.XC Go.RowKit Go.SetsP
attribute [local irreducible] Post TC TR D WL EvS EvC Wd ResL Code.wpIn Exit.then Exit.inBlock Exit.noGoto LoopK LoopP bodyPostM Reads Calls

theorem nth_pad {a : List Bd} {v : Int} (hv : 0 ≤ v ∧ v < a.length) : nth (pad8 a) v = nth a v := by
  unfold nth pad8
  rw [List.getD_eq_getElem?_getD, List.getD_eq_getElem?_getD, List.getElem?_append_left (by omega)]
theorem ofB_pad {a : List Bd} {r : Rl} (hv : ∀ v, v ∈ r.vars → 0 ≤ v ∧ v < a.length) : ofB (pad8 a) r = ofB a r := by
  unfold ofB
  exact List.map_congr_left fun v h => nth_pad (hv v h)
theorem possB_pad {a : List Bd} {r : Rl} (hv : ∀ v, v ∈ r.vars → 0 ≤ v ∧ v < a.length) : possB (pad8 a) r = possB a r := by
  unfold possB
  rw [ofB_pad hv]
theorem withB_pad {a : List Bd} {v : Int} (hv : 0 ≤ v ∧ v < a.length) (e : Nat) (i : Bool) : withB (pad8 a) v e i = pad8 (withB a v e i) := by
  unfold withB
  rw [nth_pad hv]
  unfold pad8
  rw [List.set_append_left _ _ (by omega), List.length_set]
theorem folB_pad {a : List Bd} {r : Rl} (hr : ∀ v, v ∈ r.vars → 0 ≤ v ∧ v < a.length) {v : Int} (hv : 0 ≤ v ∧ v < a.length) (e : Nat) (i : Bool) : folB (pad8 a) r v e i = folB a r v e i := by
  unfold folB
  rw [withB_pad hv, possB_pad (by rw [nth_len]; exact hr)]
theorem elems12 {s : BV} (h : small s) : elems s = (List.range 12).filter (has s) := by
  unfold elems
  rw [show (64 : Nat) = 12 + 52 from rfl, List.range_add, List.filter_append]
  have : ((List.range 52).map (12 + ·)).filter (has s) = [] := by
    rw [List.filter_eq_nil_iff]
    intro x hx
    obtain ⟨y, hy, rfl⟩ := List.mem_map.1 hx
    rw [Bool.not_eq_true]
    unfold has
    exact Nat.testBit_lt_two_pow (Nat.lt_of_lt_of_le (show s.toNat < 2 ^ 12 from h) (Nat.pow_le_pow_right (n := 2) (by omega) (by omega)))
  rw [this, List.append_nil]
theorem filter_step (p : Nat → Bool) (e : Nat) : (List.range (e + 1)).filter p = (List.range e).filter p ++ if p e then [e] else [] := by
  rw [List.range_succ, List.filter_append, List.filter_cons, List.filter_nil]

structure Rr where
  k : Nat
  chg : Bool
  s : Ps
  a : List Bd
  m : Mem
  A : Option Addr
  c : Nat
  j : Nat
  xs : List Value
  v : Value
  e : Option (Nat × Obj)
structure Gd (n : Nat) (m0 : Mem) (x : Rr) : Prop where
  le : m0.Le x.m
  al : x.a.length = n
  sb : x.s.b = pad8 x.a
  sf : x.s.fs = []
  iv : Iv x.s
  sl : Sl x.m 2 x.A (bds x.a)
  row : OwnRow x.v 58 5 x.j x.xs x.e
  jn : x.j + openN x.s.b ≤ 96
/-- Since the round's start: nothing, or fewer are open. -/
def Chg (x : Rr) (s1 : Ps) : Prop := (x.chg = false ∧ x.s = s1) ∨ (x.chg = true ∧ openN x.s.b < openN s1.b)

theorem runR_c (p : Pb) (pcs : Array Value) (hp : okP p) (hrl : ∀ r, r ∈ p.rules → ruleB r p.bounds.length = true) (m : Mem) (hpc : PbC m p pcs) (L : Own) (w : World) (hs : St m L w) :
    Calls Tryd.prog 50 #[.agg pcs, .bool false] w fun q w' => ∃ y : Option Addr × Nat × Value,
      q = .returned (.tuple #[.slice y.1 p.bounds.length y.2.1, y.2.2, .int .i64 (runF p false ⟨pad8 p.bounds, []⟩).2]) ∧ ((runF p false ⟨pad8 p.bounds, []⟩).1.b = pad8 ((runF p false ⟨pad8 p.bounds, []⟩).1.b.take p.bounds.length) ∧ WS m ((runF p false ⟨pad8 p.bounds, []⟩).1.b.take p.bounds.length) L (y.1, y.2.1) w') := by
  have hpc0 := hpc
  obtain ⟨BA, bc, RA, rc, rfl, hBA, hRA⟩ := hpc
  have hb8 := hp.b8
  have hb1 := hp.b1
  have hr12 := hp.r12
  have hI0 := Iv.start hp
  obtain ⟨s0, hs0⟩ : ∃ s0, s0 = (⟨pad8 p.bounds, []⟩ : Ps) := ⟨_, rfl⟩
  rw [← hs0] at hI0 ⊢
  have hnews : (bds p.bounds).flatten.length = p.bounds.length * 2 := by rw [flatten_length (bds_len _), bds_length]
  have hone : ∀ v, v ∈ (bds p.bounds).flatten → v.oneCell' = true := by rw [bds_flatten]; exact bdC_oneCell _
  have hrd (L : Own) : RdC (St m L) BA (bds p.bounds).flatten := hBA.rdc
  refine calls_of_TC (args := [_, _]) Tryd.func50 rfl Tryd.ntmps50 (Nat.le_of_ble_eq_true rfl) hs ?_
  repeat' (first | refine TC.seq ?_ | refine TC.region ?_ | refine TR.nil ?_ | refine Post.then_normal ?_ | (apply TR.st1; exact rfl; exact rfl; exact rfl; (first | exact Wd.plain rfl | exact Wd.on rfl rfl rfl); (first | exact EvS.assign rfl | exact EvS.fieldAddr rfl | (first | (apply EvS.load1; exact rfl; (first | exact Reads.mem (by assumption) | exact Reads.own (by repeat first | exact List.Mem.head _ | assumption | apply List.Mem.tail)); (first | assumption | exact nthL_arr rfl | exact rfl)) | (apply EvS.loadW; exact rfl; (first | exact Reads.mem (by assumption) | exact Reads.own (by repeat first | exact List.Mem.head _ | assumption | apply List.Mem.tail)); first | exact rfl | assumption) | (apply EvS.loadH; exact rfl; (first | exact Reads.mem (by assumption) | exact Reads.own (by repeat first | exact List.Mem.head _ | assumption | apply List.Mem.tail)); assumption; first | exact rfl | assumption)))) | (apply TR.ch1 (o := ⟨_, .box _ _, _, _, _, _⟩) ; exact rfl; exact rfl; exact rfl; (first | exact Wd.plain rfl | exact Wd.on rfl rfl rfl); exact EvC.boxA rfl; intro g))
  obtain ⟨gp, hgp⟩ : ∃ q, q = g := ⟨_, rfl⟩
  subst hgp
  refine TR.turn (fun w h => h.addNone) ?_
  (apply TR.ch1 (o := ⟨_, .call _, _, _, _, _⟩); exact rfl; exact rfl; exact rfl; exact Wd.plain rfl; (apply EvC.append; exact rfl; exact rfl; exact OwnRow.nil; exact Rep1.head; exact hrd _; exact hnews; exact hone; exact rfl; decide; omega; (intro e2; exact Rep1.head)); intro p)
  obtain ⟨⟨v0, e0⟩, hrow0⟩ := p
  simp only at hrow0 ⊢
  rw [Nat.zero_add, List.nil_append] at hrow0
  refine TR.pull (fun w h => (lend h).1) fun hle0 => ?_
  refine TR.turn (fun w h => (lend h).2) ?_
  obtain ⟨A0, c0, rfl, _, hS0⟩ := OwnRow.lent (m := m) hrow0 (bds_len _) (by rw [bds_length]) (by omega)
  obtain ⟨m1, hm1⟩ : ∃ m1, m1 = memO m e0 := ⟨_, rfl⟩
  rw [← hm1] at hle0 hS0 ⊢
  repeat' (first | refine TC.seq ?_ | refine TC.region ?_ | refine TR.nil ?_ | refine Post.then_normal ?_ | refine TC.block ?_ | (apply TR.st1 (o := ⟨_, .assign _, _, _, _, _⟩); exact rfl; exact rfl; exact rfl; (first | exact Wd.plain rfl | exact Wd.on rfl rfl rfl); exact EvS.assign rfl))
  refine TC.turn (fun w h => h.addNone) ?_
  refine TC.loopP (X := Rr) (fun x => Gd p.bounds.length m x ∧ (x.chg = true → runF p false x.s = runF p false s0) ∧ (x.chg = false → runF p false s0 = (x.s, -1)))
    (fun x => [(9, .bool x.chg), (8, x.v), (7, .slice x.A p.bounds.length x.c), (2, .pointer (some ⟨gp, 0, none⟩)), (1, .bool false)]) (fun x => St x.m (x.e :: some (gp, .cells #[.slice BA p.bounds.length bc, .slice RA p.rules.length rc] 25 (0, 0)) :: L)) (fun x => if x.chg then openN x.s.b + 1 else 0)
    ⟨0, true, s0, p.bounds, m1, A0, c0, 0, [], .slice none 0 0, none⟩ ⟨⟨hle0, rfl, by rw [hs0], by rw [hs0], hI0, hS0, OwnRow.nil, by have := openN_le hI0.b.1; simp only; omega⟩, fun _ => rfl, fun h => by cases h⟩ (incl.lk (by repeat first | exact trivial | refine ⟨rfl, ?_⟩)) (fun w h => h) ?_
  rintro ⟨k1, chg1, s1, a1, m2, A1, c1, j1, xs1, v1, e1⟩ ⟨⟨hle1, hal1, hsb1, hsf1, hI1, hsl1, hrow1, hjn1⟩, hct1, hcf1⟩
  simp only at hle1 hal1 hsb1 hsf1 hI1 hsl1 hrow1 hjn1 hct1 hcf1 ⊢
  have htk (a : List Bd) (h : a.length = p.bounds.length) : (pad8 a).take p.bounds.length = a := by unfold pad8; rw [← h]; exact List.take_left' rfl
  cases chg1 with
  | false =>
    have hfin := hcf1 rfl
    repeat' (first | refine TC.seq ?_ | refine TC.region ?_ | refine TR.nil ?_ | refine Post.then_normal ?_ | refine TC.ret ?_ | refine TC.exit ?_ | (apply TC.cond_f; exact rfl) | refine Post.then_exit ?_ | refine Post.block_here ?_ | (apply TR.st1; exact rfl; exact rfl; exact rfl; (first | exact Wd.plain rfl | exact Wd.on rfl rfl rfl); (first | exact EvS.move rfl | exact EvS.assign rfl)))
    refine Post.body_ret _ (ResL.three rfl (ResV.tmp rfl) (ResV.tmp rfl) (ResV.tmp rfl)) ?_
    intro w h
    rw [hfin]
    refine ⟨(A1, c1, v1), rfl, by simp only; rw [hsb1, htk a1 hal1], m2, hle1, ?_, h.tail.tail⟩
    simp only
    rw [hsb1, htk a1 hal1]
    exact hsl1
  | true =>
  have hs01 := hct1 rfl
  clear hct1 hcf1
  repeat' (first | refine TC.seq ?_ | refine TC.region ?_ | refine TR.nil ?_ | refine Post.then_normal ?_ | refine TC.block ?_ | refine TC.skip ?_ | (apply TC.cond_t; exact rfl) | (apply TR.st1; exact rfl; exact rfl; exact rfl; (first | exact Wd.plain rfl | exact Wd.on rfl rfl rfl); (first | exact EvS.move rfl | exact EvS.assign rfl)))
  refine TC.loopP (X := Rr) (fun x => x.k ≤ p.rules.length ∧ Gd p.bounds.length m x ∧ Chg x s1 ∧ roundP p false (List.range' x.k (p.rules.length - x.k)) x.s = roundP p false (List.range p.rules.length) s1)
    (fun x => [(10, .int .i64 (x.k : Int)), (9, .bool x.chg), (8, x.v), (7, .slice x.A p.bounds.length x.c), (2, .pointer (some ⟨gp, 0, none⟩)), (1, .bool false)]) (fun x => St x.m (x.e :: some (gp, .cells #[.slice BA p.bounds.length bc, .slice RA p.rules.length rc] 25 (0, 0)) :: L)) (fun x => p.rules.length - x.k)
    ⟨0, false, s1, a1, m2, A1, c1, j1, xs1, v1, e1⟩ ⟨Nat.zero_le _, ⟨hle1, hal1, hsb1, hsf1, hI1, hsl1, hrow1, hjn1⟩, .inl ⟨rfl, rfl⟩, by rw [List.range_eq_range']; rfl⟩ (incl.lk (by repeat first | exact trivial | refine ⟨rfl, ?_⟩)) (fun w h => h) ?_
  clear hsl1 hrow1 hjn1 hle1 hal1 hsb1 hsf1
  clear hS0 hrow0 hle0
  rintro ⟨k, chg2, s2, a2, m3, A2, c2, j2, xs2, v2, e2⟩ ⟨hk, ⟨hle2, hal2, hsb2, hsf2, hI2, hsl2, hrow2, hjn2⟩, hch2, hro2⟩
  simp only at hk hle2 hal2 hsb2 hsf2 hI2 hsl2 hrow2 hjn2 hro2 ⊢
  by_cases hlt : k < p.rules.length
  rotate_left
  · have hd : decide ((k : Int) < (p.rules.length : Int)) = false := by simpa using hlt
    obtain rfl : k = p.rules.length := by omega
    rw [Nat.sub_self] at hro2
    have hro3 : roundP p false (List.range p.rules.length) s1 = (s2, none) := hro2.symm
    repeat' (first | refine TC.seq ?_ | refine TC.region ?_ | refine TR.nil ?_ | refine Post.then_normal ?_ | refine TC.exit ?_ | (apply TC.cond_bf; exact rfl; assumption) | refine Post.then_exit ?_ | refine Post.block_normal ?_ | refine Post.block_here ?_ | (apply TR.st1; exact rfl; exact rfl; exact rfl; (first | exact Wd.plain rfl | exact Wd.on rfl rfl rfl); (first | exact EvS.move rfl | exact EvS.fieldAddr rfl | (first | (apply EvS.load1; exact rfl; (first | exact Reads.mem (by assumption) | exact Reads.own (by repeat first | exact List.Mem.head _ | assumption | apply List.Mem.tail)); (first | assumption | exact nthL_arr rfl | exact rfl)) | (apply EvS.loadW; exact rfl; (first | exact Reads.mem (by assumption) | exact Reads.own (by repeat first | exact List.Mem.head _ | assumption | apply List.Mem.tail)); first | exact rfl | assumption) | (apply EvS.loadH; exact rfl; (first | exact Reads.mem (by assumption) | exact Reads.own (by repeat first | exact List.Mem.head _ | assumption | apply List.Mem.tail)); assumption; first | exact rfl | assumption)) | exact EvS.len rfl | exact EvS.ltI rfl rfl)))
    rcases hch2 with ⟨hc, hs⟩ | ⟨hc, hs⟩
    · simp only at hc hs
      subst hc hs
      refine Post.nextP ⟨0, false, s2, a2, m3, A2, c2, j2, xs2, v2, e2⟩ ⟨⟨hle2, hal2, hsb2, hsf2, hI2, hsl2, hrow2, hjn2⟩, (fun h => by cases h), fun _ => ?_⟩ (incl.lk (by repeat first | exact trivial | refine ⟨rfl, ?_⟩)) (fun w h => h) (by simp)
      rw [← hs01]
      exact runF_same hro3 rfl
    · simp only at hc hs
      subst hc
      obtain ⟨_, _, h3⟩ := runF_step hp hI1 hro3 (fun h => by rw [h] at hs; exact Nat.lt_irrefl _ hs)
      exact Post.nextP ⟨0, true, s2, a2, m3, A2, c2, j2, xs2, v2, e2⟩ ⟨⟨hle2, hal2, hsb2, hsf2, hI2, hsl2, hrow2, hjn2⟩, (fun _ => by simp only; rw [← h3, hs01]), fun h => by cases h⟩ (incl.lk (by repeat first | exact trivial | refine ⟨rfl, ?_⟩)) (fun w h => h) (by simp; exact hs)
  have hd : decide ((k : Int) < (p.rules.length : Int)) = true := by simpa using hlt
  obtain ⟨r, hr⟩ : ∃ r, p.rules[k]? = some r := ⟨_, List.getElem?_eq_getElem hlt⟩
  have hrm := List.mem_of_getElem? hr
  have hrD : p.rules.getD k default = r := by rw [List.getD_eq_getElem?_getD, hr]; rfl
  have hrok := hp.rl r hrm
  have hrv : ∀ v, v ∈ r.vars → 0 ≤ v ∧ v < p.bounds.length := by
    have h := hrl r hrm
    unfold ruleB at h
    split at h
    · cases h
    · split at h
      · cases h
      · rename_i h2
        have h3 : (r.vars.zipIdx.all fun x => okV r p.bounds.length x.1 x.2) = true := by simpa using h2
        rw [List.all_eq_true] at h3
        intro v hv
        obtain ⟨j, hj, rfl⟩ := List.mem_iff_getElem.1 hv
        have h4 := h3 (r.vars[j], j) (List.mk_mem_zipIdx_iff_getElem?.2 (List.getElem?_eq_getElem hj))
        unfold okV at h4
        rw [Bool.and_eq_true] at h4
        have := of_decide_eq_true h4.1
        simp only at this
        omega
  have hrk : 1 ≤ r.kind ∧ r.kind ≤ 6 ∧ (r.vars.length : Int) = varsZ r.kind := hrok.2
  obtain ⟨g3, o3, blk3, T3, fr3, B3, c3, hR1, hR2, hR3, hR4, hR5⟩ := (hRA.mono hle2).get hr
  have hrB : Sl m 1 B3 (ints r.vars) := by
    obtain ⟨g3', o3', blk3', T3', fr3', B3', c3', q1, q2, q3, q4, q5⟩ := hRA.get hr
    obtain ⟨rfl, rfl⟩ : g3 = g3' ∧ o3 = o3' := by have h := hR1.symm.trans q1; injection h with h; injection h with a b _; exact ⟨a, b⟩
    obtain rfl : blk3 = blk3' := by have h := hR2.symm.trans (hle2.blk _ _ q2); injection h with h; injection h
    have e1 := hR3 1 _ rfl
    have e2 := q3 1 _ rfl
    rw [e1] at e2
    injection e2 with e2
    injection e2 with e2 _ _
    rw [e2]; exact q4
  have hcan := fun (w : World) (L : Own) (hs : St m3 L w) => canR_c r B3 c3 a2 A2 c2 hrk (by rw [hal2]; exact hrv) (by omega) m3 hR4 hsl2 L w hs
  rw [hal2] at hcan
  unfold rlV at hcan
  rw [range_split hlt] at hro2
  have hpp : possB s2.b r = possB a2 r := by rw [hsb2]; exact possB_pad (by rw [hal2]; exact hrv)
  by_cases hps : possB a2 r = true
  rotate_left
  · rw [Bool.not_eq_true] at hps
    rw [hps] at hcan
    have hro3 : roundP p false (List.range p.rules.length) s1 = (s2, some k) := by
      rw [← hro2]; unfold roundP; rw [hrD, hpp, if_neg (by rw [hps]; simp)]
    have hfin : runF p false s0 = (s2, (k : Int)) := by rw [← hs01]; exact runF_bad hro3
    repeat' (first | (apply TR.ch1 (o := ⟨_, .call _, _, _, _, _⟩); exact rfl; exact rfl; exact rfl; (first | exact Wd.plain rfl | exact Wd.on rfl rfl rfl); exact EvC.callV rfl rfl (fun w hs => hcan w _ hs); rintro ⟨⟩) | refine TC.seq ?_ | refine TC.region ?_ | refine TR.nil ?_ | refine Post.then_normal ?_ | refine TC.block ?_ | refine TC.skip ?_ | refine TC.ret ?_ | (apply TC.cond_t; exact rfl) | (apply TC.cond_bt; exact rfl; assumption) | refine Post.then_ret ?_ | refine Post.block_ret ?_ | (apply TR.st1; exact rfl; exact rfl; exact rfl; (first | exact Wd.plain rfl | exact Wd.on rfl rfl rfl); (first | exact EvS.move rfl | exact EvS.assign rfl | exact EvS.fieldAddr rfl | (first | (apply EvS.load1; exact rfl; (first | exact Reads.mem (by assumption) | exact Reads.own (by repeat first | exact List.Mem.head _ | assumption | apply List.Mem.tail)); (first | assumption | exact nthL_arr rfl | exact rfl)) | (apply EvS.loadW; exact rfl; (first | exact Reads.mem (by assumption) | exact Reads.own (by repeat first | exact List.Mem.head _ | assumption | apply List.Mem.tail)); first | exact rfl | assumption) | (apply EvS.loadH; exact rfl; (first | exact Reads.mem (by assumption) | exact Reads.own (by repeat first | exact List.Mem.head _ | assumption | apply List.Mem.tail)); assumption; first | exact rfl | assumption)) | exact EvS.len rfl | (first | exact EvS.not rfl | exact EvS.neg64 rfl (by first | with_reducible exact U64.var _ | exact U64.lit rfl)) | exact EvS.ltI rfl rfl | (first | exact EvS.indexAddr rfl rfl (by first | exact rfl | assumption) (by omega) | exact EvS.indexAddrA rfl rfl (by omega)))) | (apply TR.ch1 (o := ⟨_, .alloc _, _, _, _, _⟩) ; exact rfl; exact rfl; exact rfl; (first | exact Wd.plain rfl | exact Wd.on rfl rfl rfl); exact EvC.alloc; intro g) | (apply TR.ch0 (o := ⟨_, .store _ _ _, _, _, _, _⟩) ; exact rfl; exact rfl; (first | exact Wd.plain rfl | exact Wd.on rfl rfl rfl); exact EvC.storeW rfl rfl (by first | exact rfl | assumption) (by first | exact bArr_one _ | exact rfl | (intro v hv; simp at hv; rcases hv with rfl | rfl | rfl | rfl | rfl | rfl | rfl | rfl <;> rfl)) (by repeat first | exact Upd.head | apply Upd.tail) (by first | exact rfl | assumption); rintro ⟨⟩))
    refine Post.body_ret _ (ResL.three rfl (ResV.tmp rfl) (ResV.tmp rfl) (ResV.tmp rfl)) ?_
    intro w h
    rw [hfin]
    refine ⟨(A2, c2, v2), rfl, by simp only; rw [hsb2, htk a2 hal2], m3, hle2, ?_, h.tail.tail.tail⟩
    simp only
    rw [hsb2, htk a2 hal2]
    exact hsl2
  rw [hps] at hcan
  have hro3 : roundP p false (List.range' (k + 1) (p.rules.length - (k + 1))) (ruleS p false k s2) = roundP p false (List.range p.rules.length) s1 := by
    rw [← hro2]; conv => rhs; unfold roundP
    rw [hrD, hpp, if_pos hps]
  have hvl : r.vars.length ≤ 3 := by
    have h := hrk.2.2
    have : varsZ r.kind ≤ 3 := by unfold varsZ; (repeat' split) <;> omega
    omega
  repeat' (first | (apply TR.ch1 (o := ⟨_, .call _, _, _, _, _⟩); exact rfl; exact rfl; exact rfl; (first | exact Wd.plain rfl | exact Wd.on rfl rfl rfl); exact EvC.callV rfl rfl (fun w hs => hcan w _ hs); rintro ⟨⟩) | refine TC.seq ?_ | refine TC.region ?_ | refine TR.nil ?_ | refine Post.then_normal ?_ | refine TC.block ?_ | refine TC.skip ?_ | (apply TC.cond_f; exact rfl) | (apply TC.cond_bt; exact rfl; assumption) | (apply TR.st1; exact rfl; exact rfl; exact rfl; (first | exact Wd.plain rfl | exact Wd.on rfl rfl rfl); (first | exact EvS.move rfl | exact EvS.assign rfl | exact EvS.fieldAddr rfl | (first | (apply EvS.load1; exact rfl; (first | exact Reads.mem (by assumption) | exact Reads.own (by repeat first | exact List.Mem.head _ | assumption | apply List.Mem.tail)); (first | assumption | exact nthL_arr rfl | exact rfl)) | (apply EvS.loadW; exact rfl; (first | exact Reads.mem (by assumption) | exact Reads.own (by repeat first | exact List.Mem.head _ | assumption | apply List.Mem.tail)); first | exact rfl | assumption) | (apply EvS.loadH; exact rfl; (first | exact Reads.mem (by assumption) | exact Reads.own (by repeat first | exact List.Mem.head _ | assumption | apply List.Mem.tail)); assumption; first | exact rfl | assumption)) | exact EvS.len rfl | (first | exact EvS.not rfl | exact EvS.neg64 rfl (by first | with_reducible exact U64.var _ | exact U64.lit rfl)) | exact EvS.ltI rfl rfl | (first | exact EvS.indexAddr rfl rfl (by first | exact rfl | assumption) (by omega) | exact EvS.indexAddrA rfl rfl (by omega)))) | (apply TR.ch1 (o := ⟨_, .alloc _, _, _, _, _⟩) ; exact rfl; exact rfl; exact rfl; (first | exact Wd.plain rfl | exact Wd.on rfl rfl rfl); exact EvC.alloc; intro g) | (apply TR.ch0 (o := ⟨_, .store _ _ _, _, _, _, _⟩) ; exact rfl; exact rfl; (first | exact Wd.plain rfl | exact Wd.on rfl rfl rfl); exact EvC.storeW rfl rfl (by first | exact rfl | assumption) (by first | exact bArr_one _ | exact rfl | (intro v hv; simp at hv; rcases hv with rfl | rfl | rfl | rfl | rfl | rfl | rfl | rfl <;> rfl)) (by repeat first | exact Upd.head | apply Upd.tail) (by first | exact rfl | assumption); rintro ⟨⟩))
  obtain ⟨g11, hg11⟩ : ∃ q, q = g := ⟨_, rfl⟩
  subst hg11
  refine TC.loopP (X := Rr) (fun x => x.k ≤ r.vars.length ∧ Gd p.bounds.length m x ∧ Chg x s1 ∧ x.s = (r.vars.take x.k).foldl (stepV p false k) s2)
    (fun x => [(12, .int .i64 (x.k : Int)), (11, .pointer (some ⟨g11, 0, none⟩)), (10, .int .i64 (k : Int)), (9, .bool x.chg), (8, x.v), (7, .slice x.A p.bounds.length x.c), (2, .pointer (some ⟨gp, 0, none⟩)), (1, .bool false)]) (fun x => St x.m (some (g11, .cells #[.int .i64 r.kind, .slice B3 r.vars.length c3, .int .i64 r.low, .int .i64 r.high] 44 (0, 0)) :: x.e :: some (gp, .cells #[.slice BA p.bounds.length bc, .slice RA p.rules.length rc] 25 (0, 0)) :: L)) (fun x => r.vars.length - x.k)
    ⟨0, chg2, s2, a2, m3, A2, c2, j2, xs2, v2, e2⟩ ⟨Nat.zero_le _, ⟨hle2, hal2, hsb2, hsf2, hI2, hsl2, hrow2, hjn2⟩, hch2, rfl⟩ (incl.lk (by repeat first | exact trivial | refine ⟨rfl, ?_⟩)) (fun w h => h) ?_
  clear hcan hsl2 hrow2 hjn2 hal2 hch2 hpp hsf2 hsb2
  clear hR1 hR2 hR3 hR4 hle2
  rintro ⟨i, chg3, s3, a3, m3', A3, cc3, j3, xs3, v3, e3⟩ ⟨hi, ⟨hle3, hal3, hsb3, hsf3, hI3, hsl3, hrow3, hjn3⟩, hch3, hst3⟩
  simp only at hi hle3 hal3 hsb3 hsf3 hI3 hsl3 hrow3 hjn3 hst3 ⊢
  by_cases hlt3 : i < r.vars.length
  rotate_left
  · have hd3 : decide ((i : Int) < (r.vars.length : Int)) = false := by simpa using hlt3
    obtain rfl : i = r.vars.length := by omega
    rw [List.take_length] at hst3
    have hru : s3 = ruleS p false k s2 := by rw [hst3]; unfold ruleS; rw [hrD]
    repeat' (first | refine TC.seq ?_ | refine TC.region ?_ | refine TR.nil ?_ | refine Post.then_normal ?_ | refine TC.exit ?_ | (apply TC.cond_bf; exact rfl; assumption) | refine Post.then_exit ?_ | refine Post.block_normal ?_ | refine Post.block_here ?_ | (apply TR.st1; exact rfl; exact rfl; exact rfl; (first | exact Wd.plain rfl | exact Wd.on rfl rfl rfl); (first | exact EvS.move rfl | exact EvS.assign rfl | exact EvS.fieldAddr rfl | (first | (apply EvS.load1; exact rfl; (first | exact Reads.mem (by assumption) | exact Reads.own (by repeat first | exact List.Mem.head _ | assumption | apply List.Mem.tail)); (first | assumption | exact nthL_arr rfl | exact rfl)) | (apply EvS.loadW; exact rfl; (first | exact Reads.mem (by assumption) | exact Reads.own (by repeat first | exact List.Mem.head _ | assumption | apply List.Mem.tail)); first | exact rfl | assumption) | (apply EvS.loadH; exact rfl; (first | exact Reads.mem (by assumption) | exact Reads.own (by repeat first | exact List.Mem.head _ | assumption | apply List.Mem.tail)); assumption; first | exact rfl | assumption)) | exact EvS.len rfl | exact EvS.ltI rfl rfl | (first | exact EvS.addI rfl rfl (by omega) | exact EvS.add64 rfl rfl (by first | with_reducible exact U64.var _ | exact U64.lit rfl) (by first | with_reducible exact U64.var _ | exact U64.lit rfl)))))
    exact Post.nextP ⟨k + 1, chg3, s3, a3, m3', A3, cc3, j3, xs3, v3, e3⟩ ⟨by simp only; omega, ⟨hle3, hal3, hsb3, hsf3, hI3, hsl3, hrow3, hjn3⟩, hch3, by simp only; rw [hru]; exact hro3⟩ (incl.lk (by repeat first | exact trivial | refine ⟨rfl, ?_⟩)) (fun w h => h.tail) (by simp only; omega)
  have hd3 : decide ((i : Int) < (r.vars.length : Int)) = true := by simpa using hlt3
  obtain ⟨v, hv⟩ : ∃ v, r.vars[i]? = some v := ⟨_, List.getElem?_eq_getElem hlt3⟩
  have hvn := hrv v (List.mem_of_getElem? hv)
  have hv8 : 0 ≤ v ∧ v < 8 := by omega
  obtain ⟨g6, o6, blk6, T6, fr6, hB6, hm6, hc6⟩ := (hrB.mono hle3).get1 (k := i) (v := .int .i64 v) (by simp [ints, hv])
  obtain ⟨ob, hob⟩ : ∃ ob, ob = openB (nth s3.b v) := ⟨_, rfl⟩
  have hobs : small ob := by rw [hob]; exact small_openB (nth_ok hI3.b hv8).2
  repeat' (first | refine TC.seq ?_ | refine TC.region ?_ | refine TR.nil ?_ | refine Post.then_normal ?_ | refine TC.block ?_ | refine TC.skip ?_ | (apply TC.cond_bt; exact rfl; assumption) | (apply TR.st1; exact rfl; exact rfl; exact rfl; (first | exact Wd.plain rfl | exact Wd.on rfl rfl rfl); (first | exact EvS.move rfl | exact EvS.assign rfl | exact EvS.fieldAddr rfl | (first | (apply EvS.load1; exact rfl; (first | exact Reads.mem (by assumption) | exact Reads.own (by repeat first | exact List.Mem.head _ | assumption | apply List.Mem.tail)); (first | assumption | exact nthL_arr rfl | exact rfl)) | (apply EvS.loadW; exact rfl; (first | exact Reads.mem (by assumption) | exact Reads.own (by repeat first | exact List.Mem.head _ | assumption | apply List.Mem.tail)); first | exact rfl | assumption) | (apply EvS.loadH; exact rfl; (first | exact Reads.mem (by assumption) | exact Reads.own (by repeat first | exact List.Mem.head _ | assumption | apply List.Mem.tail)); assumption; first | exact rfl | assumption)) | exact EvS.len rfl | exact EvS.ltI rfl rfl | (first | exact EvS.indexAddr rfl rfl (by first | exact rfl | assumption) (by omega) | exact EvS.indexAddrA rfl rfl (by omega)))))
  refine TC.loopP (X := Rr) (fun x => x.k ≤ 12 ∧ Gd p.bounds.length m x ∧ Chg x s1 ∧ x.s = ((List.range x.k).filter (has ob)).foldl (stepE p false k v) s3)
    (fun x => [(14, .int .i64 (x.k : Int)), (13, .int .i64 v), (12, .int .i64 (i : Int)), (11, .pointer (some ⟨g11, 0, none⟩)), (10, .int .i64 (k : Int)), (9, .bool x.chg), (8, x.v), (7, .slice x.A p.bounds.length x.c), (2, .pointer (some ⟨gp, 0, none⟩)), (1, .bool false)]) (fun x => St x.m (some (g11, .cells #[.int .i64 r.kind, .slice B3 r.vars.length c3, .int .i64 r.low, .int .i64 r.high] 44 (0, 0)) :: x.e :: some (gp, .cells #[.slice BA p.bounds.length bc, .slice RA p.rules.length rc] 25 (0, 0)) :: L)) (fun x => 12 - x.k)
    ⟨0, chg3, s3, a3, m3', A3, cc3, j3, xs3, v3, e3⟩ ⟨Nat.zero_le _, ⟨hle3, hal3, hsb3, hsf3, hI3, hsl3, hrow3, hjn3⟩, hch3, rfl⟩ (incl.lk (by repeat first | exact trivial | refine ⟨rfl, ?_⟩)) (fun w h => h) ?_
  clear hsl3 hrow3 hjn3 hal3 hch3 hsb3 hsf3 hm6 hc6 hB6 hle3
  rintro ⟨el, chg4, s4, a4, m4, A4, cc4, j4, xs4, v4, e4⟩ ⟨hel, ⟨hle4, hal4, hsb4, hsf4, hI4, hsl4, hrow4, hjn4⟩, hch4, hst4⟩
  simp only at hel hle4 hal4 hsb4 hsf4 hI4 hsl4 hrow4 hjn4 hst4 ⊢
  by_cases hel12 : el < 12
  rotate_left
  · have hd4 : decide ((el : Int) < 12) = false := by simp; omega
    obtain rfl : el = 12 := by omega
    repeat' (first | refine TC.seq ?_ | refine TC.region ?_ | refine TR.nil ?_ | refine Post.then_normal ?_ | refine TC.exit ?_ | (apply TC.cond_f; exact rfl) | refine Post.then_exit ?_ | refine Post.block_normal ?_ | refine Post.block_here ?_ | (apply TR.st1; exact rfl; exact rfl; exact rfl; (first | exact Wd.plain rfl | exact Wd.on rfl rfl rfl); (first | exact EvS.move rfl | exact EvS.assign rfl | exact EvS.ltI rfl rfl | (first | exact EvS.addI rfl rfl (by omega) | exact EvS.add64 rfl rfl (by first | with_reducible exact U64.var _ | exact U64.lit rfl) (by first | with_reducible exact U64.var _ | exact U64.lit rfl)))))
    refine Post.nextP ⟨i + 1, chg4, s4, a4, m4, A4, cc4, j4, xs4, v4, e4⟩ ⟨by simp only; omega, ⟨hle4, hal4, hsb4, hsf4, hI4, hsl4, hrow4, hjn4⟩, hch4, ?_⟩ (incl.lk (by repeat first | exact trivial | refine ⟨rfl, ?_⟩)) (fun w h => h) (by simp only; omega)
    simp only
    rw [List.take_add_one, hv, Option.toList_some, List.foldl_append, ← hst3, hst4]
    simp only [List.foldl_cons, List.foldl_nil, stepV]
    rw [← hob, elems12 hobs]
  have hd4 : decide ((el : Int) < 12) = true := by simp; omega
  have hopen : has (openB (nth s4.b v)) el = has ob el := by
    have := (Iv.fold (p := p) (re := false) (n := k) hv8 ((List.range el).filter (has ob)) s3 hI3 (List.Pairwise.filter _ List.nodup_range) (fun e he => by
      obtain ⟨h1, h2⟩ := List.mem_filter.1 he
      have h3 : e < el := by simpa using h1
      exact ⟨by omega, by rw [← hob]; exact h2⟩)).2 el (by omega) (fun h => by have := (List.mem_filter.1 h).1; simp at this)
    rw [← hst4] at this
    rw [this, hob]
  obtain ⟨y, hy⟩ : ∃ y, a4[v.toNat]? = some y := ⟨_, List.getElem?_eq_getElem (by omega)⟩
  have hny : nth s4.b v = y := by rw [hsb4, nth_pad (by rw [hal4]; exact hvn)]; unfold nth; rw [List.getD_eq_getElem?_getD, hy]; rfl
  obtain ⟨g7, o7, blk7, T7, fr7, hA7, hm7, hc7⟩ := hsl4.get (k := v.toNat) (cs := bdC y) (by simp [bds, hy])
  rw [Int.toNat_natCast] at hc7
  have hlo : blk7[o7 + v.toNat * 2 + 0]? = some (.int .u64 (y.lo.toNat : Int)) := hc7 0 _ rfl
  have hca : blk7[o7 + v.toNat * 2 + 1]? = some (.int .u64 (y.can.toNat : Int)) := hc7 1 _ rfl
  clear hc7
  have hhc := fun (w : World) (L : Own) (hs : St m4 L w) => has_c y.can el hel12 m4 L w hs
  have hhl := fun (w : World) (L : Own) (hs : St m4 L w) => has_c y.lo el hel12 m4 L w hs
  rw [hny, has_openB] at hopen
  cases hop : has ob el with
  | false =>
    rw [hop] at hopen
    have hnext : ∀ x : Rr, x = ⟨el + 1, chg4, s4, a4, m4, A4, cc4, j4, xs4, v4, e4⟩ → (x.k ≤ 12 ∧ Gd p.bounds.length m x ∧ Chg x s1 ∧ x.s = ((List.range x.k).filter (has ob)).foldl (stepE p false k v) s3) := by
      rintro x rfl
      exact ⟨by simp only; omega, ⟨hle4, hal4, hsb4, hsf4, hI4, hsl4, hrow4, hjn4⟩, hch4, by simp only; rw [filter_step, hop, hst4]; simp⟩
    cases hcn : has y.can el with
    | false =>
      rw [hcn] at hhc
      repeat' (first | (apply TR.ch1 (o := ⟨_, .call _, _, _, _, _⟩); exact rfl; exact rfl; exact rfl; (first | exact Wd.plain rfl | exact Wd.on rfl rfl rfl); exact EvC.callV rfl rfl (fun w hs => hhc w _ hs); rintro ⟨⟩) | refine TC.seq ?_ | refine TC.region ?_ | refine TR.nil ?_ | refine Post.then_normal ?_ | refine TC.block ?_ | refine TC.skip ?_ | refine TC.exit ?_ | (apply TC.cond_t; exact rfl) | (apply TC.cond_bt; exact rfl; assumption) | refine Post.then_exit ?_ | refine Post.block_here ?_ | (apply TR.sk1 (o := ⟨_, _, _, _, _, some _⟩); exact rfl; exact rfl; (first | exact Wd.off rfl rfl rfl rfl | exact Wd.offU rfl rfl rfl)) | (apply TR.gs_t (o := ⟨_, .move _, _, _, _, _⟩); exact rfl; exact rfl; exact rfl; exact rfl; (first | exact Wd.plain rfl | exact Wd.on rfl rfl rfl); exact EvS.move rfl; (first | exact rfl | assumption)) | (apply TR.st1; exact rfl; exact rfl; exact rfl; (first | exact Wd.plain rfl | exact Wd.on rfl rfl rfl); (first | exact EvS.move rfl | exact EvS.assign rfl | exact EvS.fieldAddr rfl | (first | (apply EvS.load1; exact rfl; (first | exact Reads.mem (by assumption) | exact Reads.own (by repeat first | exact List.Mem.head _ | assumption | apply List.Mem.tail)); (first | assumption | exact nthL_arr rfl | exact rfl)) | (apply EvS.loadW; exact rfl; (first | exact Reads.mem (by assumption) | exact Reads.own (by repeat first | exact List.Mem.head _ | assumption | apply List.Mem.tail)); first | exact rfl | assumption) | (apply EvS.loadH; exact rfl; (first | exact Reads.mem (by assumption) | exact Reads.own (by repeat first | exact List.Mem.head _ | assumption | apply List.Mem.tail)); assumption; first | exact rfl | assumption)) | (first | exact EvS.not rfl | exact EvS.neg64 rfl (by first | with_reducible exact U64.var _ | exact U64.lit rfl)) | exact EvS.ltI rfl rfl | (first | exact EvS.addI rfl rfl (by omega) | exact EvS.add64 rfl rfl (by first | with_reducible exact U64.var _ | exact U64.lit rfl) (by first | with_reducible exact U64.var _ | exact U64.lit rfl)) | (first | exact EvS.pick_t rfl rfl | exact EvS.pick_f rfl rfl) | (first | exact EvS.indexAddr rfl rfl (by first | exact rfl | assumption) (by omega) | exact EvS.indexAddrA rfl rfl (by omega)))))
      exact Post.nextP _ (hnext _ rfl) (incl.lk (by repeat first | exact trivial | refine ⟨rfl, ?_⟩)) (fun w h => h) (by simp only; omega)
    | true =>
      have hlt' : has y.lo el = true := by rw [hcn] at hopen; simpa using hopen
      rw [hcn] at hhc
      rw [hlt'] at hhl
      repeat' (first | (apply TR.ch1; exact rfl; exact rfl; exact rfl; (first | exact Wd.plain rfl | exact Wd.on rfl rfl rfl); (first | exact EvC.callV rfl rfl (fun w hs => hhc w _ hs) | exact EvC.callV rfl rfl (fun w hs => hhl w _ hs)); rintro ⟨⟩) | refine TC.seq ?_ | refine TC.region ?_ | refine TR.nil ?_ | refine Post.then_normal ?_ | refine TC.block ?_ | refine TC.skip ?_ | refine TC.exit ?_ | (apply TC.cond_t; exact rfl) | (apply TC.cond_bt; exact rfl; assumption) | refine Post.then_exit ?_ | refine Post.block_here ?_ | (apply TR.gs_f (o := ⟨_, .move _, _, _, _, _⟩); exact rfl; exact rfl; exact rfl; exact rfl; (first | exact Wd.plain rfl | exact Wd.on rfl rfl rfl); exact EvS.move rfl; (first | exact rfl | assumption)) | (apply TR.st1; exact rfl; exact rfl; exact rfl; (first | exact Wd.plain rfl | exact Wd.on rfl rfl rfl); (first | exact EvS.move rfl | exact EvS.assign rfl | exact EvS.fieldAddr rfl | (first | (apply EvS.load1; exact rfl; (first | exact Reads.mem (by assumption) | exact Reads.own (by repeat first | exact List.Mem.head _ | assumption | apply List.Mem.tail)); (first | assumption | exact nthL_arr rfl | exact rfl)) | (apply EvS.loadW; exact rfl; (first | exact Reads.mem (by assumption) | exact Reads.own (by repeat first | exact List.Mem.head _ | assumption | apply List.Mem.tail)); first | exact rfl | assumption) | (apply EvS.loadH; exact rfl; (first | exact Reads.mem (by assumption) | exact Reads.own (by repeat first | exact List.Mem.head _ | assumption | apply List.Mem.tail)); assumption; first | exact rfl | assumption)) | (first | exact EvS.not rfl | exact EvS.neg64 rfl (by first | with_reducible exact U64.var _ | exact U64.lit rfl)) | exact EvS.ltI rfl rfl | (first | exact EvS.addI rfl rfl (by omega) | exact EvS.add64 rfl rfl (by first | with_reducible exact U64.var _ | exact U64.lit rfl) (by first | with_reducible exact U64.var _ | exact U64.lit rfl)) | (first | exact EvS.pick_t rfl rfl | exact EvS.pick_f rfl rfl) | (first | exact EvS.indexAddr rfl rfl (by first | exact rfl | assumption) (by omega) | exact EvS.indexAddrA rfl rfl (by omega)))))
      exact Post.nextP _ (hnext _ rfl) (incl.lk (by repeat first | exact trivial | refine ⟨rfl, ?_⟩)) (fun w h => h) (by simp only; omega)
  | true =>
  rw [hop] at hopen
  have hcn : has y.can el = true := by cases h : has y.can el <;> simp_all
  have hlf : has y.lo el = false := by cases h : has y.lo el <;> simp_all
  rw [hcn] at hhc
  rw [hlf] at hhl
  have hR44 := hrB.mono hle4
  have hopen2 : has (openB (nth s4.b v)) el = true := by rw [hny, has_openB, hcn, hlf]; rfl
  have hopn := openN_with hI4.b.1 hv8 hel12 true hopen2
  have hopn2 := openN_with hI4.b.1 hv8 hel12 false hopen2
  have hch4' : openN s4.b ≤ openN s1.b := by
    rcases hch4 with ⟨_, h⟩ | ⟨_, h⟩
    · simp only at h; rw [h]; exact Nat.le_refl _
    · simp only at h; omega
  have hfol (b : Bool) := fun (w : World) (L : Own) (hs : St m4 L w) => followsR_c r B3 c3 a4 A4 cc4 v el b (k : Int) none 0 0 hrk (by rw [hal4]; exact hrv) (by omega) (by rw [hal4]; exact hvn) hel12 m4 hR44 hsl4 L w hs
  rw [hal4] at hfol
  unfold rlV fcC at hfol
  have hwith (b : Bool) := fun (w : World) (L : Own) (hs : St m4 L w) => withR_c a4 A4 cc4 v el b (by rw [hal4]; exact hvn) hel12 (by omega) m4 hsl4 L w hs
  rw [hal4] at hwith
  have hfp (b : Bool) : folB s4.b r v el b = folB a4 r v el b := by rw [hsb4]; exact folB_pad (by rw [hal4]; exact hrv) (by rw [hal4]; exact hvn) el b
  clear hopen
  cases hq1 : folB a4 r v el true with
  | true =>
    have hdir : dirB s4.b r v el = some true := by unfold dirB; rw [hfp, if_pos hq1]
    have hfolt := hfol true
    rw [hq1] at hfolt
    have hwt := hwith true
    repeat' (first | (apply TR.ch1; exact rfl; exact rfl; exact rfl; (first | exact Wd.plain rfl | exact Wd.on rfl rfl rfl); (first | exact EvC.callV rfl rfl (fun w hs => hhc w _ hs) | exact EvC.callV rfl rfl (fun w hs => hhl w _ hs) | exact EvC.callV rfl rfl (fun w hs => hfolt w _ hs)); rintro ⟨⟩) | refine TC.seq ?_ | refine TC.region ?_ | refine TR.nil ?_ | refine Post.then_normal ?_ | refine TC.block ?_ | refine TC.skip ?_ | (apply TC.cond_f; exact rfl) | (apply TC.cond_bt; exact rfl; assumption) | (apply TR.gs_f (o := ⟨_, .move _, _, _, _, _⟩); exact rfl; exact rfl; exact rfl; exact rfl; (first | exact Wd.plain rfl | exact Wd.on rfl rfl rfl); exact EvS.move rfl; (first | exact rfl | assumption)) | (apply TR.st1; exact rfl; exact rfl; exact rfl; (first | exact Wd.plain rfl | exact Wd.on rfl rfl rfl); (first | exact EvS.buildC (cells := #[.int .i64 v, .int .i64 (el : Int), .bool true, .int .i64 (k : Int), .slice none 0 0]) rfl (by kernel_rfl) | exact EvS.move rfl | exact EvS.fieldAddr rfl | (first | (apply EvS.load1; exact rfl; (first | exact Reads.mem (by assumption) | exact Reads.own (by repeat first | exact List.Mem.head _ | assumption | apply List.Mem.tail)); (first | assumption | exact nthL_arr rfl | exact rfl)) | (apply EvS.loadW; exact rfl; (first | exact Reads.mem (by assumption) | exact Reads.own (by repeat first | exact List.Mem.head _ | assumption | apply List.Mem.tail)); first | exact rfl | assumption) | (apply EvS.loadH; exact rfl; (first | exact Reads.mem (by assumption) | exact Reads.own (by repeat first | exact List.Mem.head _ | assumption | apply List.Mem.tail)); assumption; first | exact rfl | assumption)) | (first | exact EvS.not rfl | exact EvS.neg64 rfl (by first | with_reducible exact U64.var _ | exact U64.lit rfl)) | exact EvS.ltI rfl rfl | (first | exact EvS.pick_t rfl rfl | exact EvS.pick_f rfl rfl) | (first | exact EvS.indexAddr rfl rfl (by first | exact rfl | assumption) (by omega) | exact EvS.indexAddrA rfl rfl (by omega)))) | (apply TR.ch1 (o := ⟨_, .alloc _, _, _, _, _⟩) ; exact rfl; exact rfl; exact rfl; (first | exact Wd.plain rfl | exact Wd.on rfl rfl rfl); exact EvC.alloc; intro g) | (apply TR.ch0 (o := ⟨_, .store _ _ _, _, _, _, _⟩) ; exact rfl; exact rfl; (first | exact Wd.plain rfl | exact Wd.on rfl rfl rfl); exact EvC.storeW rfl rfl (by first | exact rfl | assumption) (by first | exact bArr_one _ | exact rfl | (intro v hv; simp at hv; rcases hv with rfl | rfl | rfl | rfl | rfl | rfl | rfl | rfl <;> rfl)) (by repeat first | exact Upd.head | apply Upd.tail) (by first | exact rfl | assumption); rintro ⟨⟩) | (apply TR.ch1 (o := ⟨_, .buildSlice _ _ _, _, _, _, _⟩) ; exact rfl; exact rfl; exact rfl; (first | exact Wd.plain rfl | exact Wd.on rfl rfl rfl); exact EvC.buildA rfl (by exact rfl) (by exact rfl) (by decide) (by decide); intro g))
    (apply TR.ch1 (o := ⟨_, .call _, _, _, _, _⟩); exact rfl; exact rfl; exact rfl; (first | exact Wd.plain rfl | exact Wd.on rfl rfl rfl); (apply EvC.append; exact rfl; exact rfl; exact hrow4; exact Rep1.tail (Rep1.tail (Rep1.tail (Rep1.head))); (apply RdC.whole; (first | exact Reads.mem (by assumption) | exact Reads.own (by repeat first | exact List.Mem.head _ | assumption | apply List.Mem.tail))); exact rfl; exact (by first | exact (fun v hv => by simp at hv; rcases hv with rfl | rfl | rfl | rfl | rfl | rfl | rfl | rfl <;> rfl) | exact (fun v hv => by simp at hv; rcases hv with rfl | rfl | rfl | rfl | rfl | rfl | rfl <;> rfl) | exact (fun v hv => by simp at hv; rcases hv with rfl | rfl | rfl | rfl <;> rfl) | exact (fun v hv => by simp at hv; rcases hv with rfl | rfl <;> rfl) | exact (fun v hv => by simp at hv; subst hv; rfl)); exact rfl; decide; omega; (intro e2; exact Rep1.tail (Rep1.tail (Rep1.tail (Rep1.head))))); intro p)
    obtain ⟨⟨v5, e5⟩, hrow5⟩ := p
    simp only at hrow5 ⊢
    repeat' (first | refine TC.seq ?_ | refine TC.region ?_ | refine TR.nil ?_ | refine Post.then_normal ?_ | (apply TR.st1; exact rfl; exact rfl; exact rfl; (first | exact Wd.plain rfl | exact Wd.on rfl rfl rfl); (first | exact EvS.move rfl | exact EvS.assign rfl | exact EvS.fieldAddr rfl | (first | (apply EvS.load1; exact rfl; (first | exact Reads.mem (by assumption) | exact Reads.own (by repeat first | exact List.Mem.head _ | assumption | apply List.Mem.tail)); (first | assumption | exact nthL_arr rfl | exact rfl)) | (apply EvS.loadW; exact rfl; (first | exact Reads.mem (by assumption) | exact Reads.own (by repeat first | exact List.Mem.head _ | assumption | apply List.Mem.tail)); first | exact rfl | assumption) | (apply EvS.loadH; exact rfl; (first | exact Reads.mem (by assumption) | exact Reads.own (by repeat first | exact List.Mem.head _ | assumption | apply List.Mem.tail)); assumption; first | exact rfl | assumption)))))
    (apply TR.ch1 (o := ⟨_, .call _, _, _, _, _⟩); exact rfl; exact rfl; exact rfl; exact Wd.plain rfl; exact EvC.callX rfl rfl (fun w hs => hwt w _ hs); rintro ⟨A5, c5⟩)
    refine TR.of_exists (X := { m5 : Mem // m4.Le m5 ∧ Sl m5 2 A5 (bds (withB a4 v el true)) }) (S' := fun y => St y.1 _) (fun w h => by obtain ⟨m5, k1, k2, k3⟩ := h; exact ⟨⟨m5, k1, k2⟩, k3⟩) ?_
    rintro ⟨m5, hle5, hsl5⟩
    simp only at hle5 hsl5 ⊢
    repeat' (first | refine TC.region ?_ | refine TR.nil ?_ | refine Post.then_normal ?_ | refine Post.block_normal ?_ | (apply TR.st1; exact rfl; exact rfl; exact rfl; (first | exact Wd.plain rfl | exact Wd.on rfl rfl rfl); (first | exact EvS.move rfl | exact EvS.assign rfl | (first | exact EvS.addI rfl rfl (by omega) | exact EvS.add64 rfl rfl (by first | with_reducible exact U64.var _ | exact U64.lit rfl) (by first | with_reducible exact U64.var _ | exact U64.lit rfl)))))
    have hs5 : stepE p false k v s4 el = addP p false k v el true s4 := by unfold stepE; rw [hrD, hdir]
    refine Post.nextP ⟨el + 1, true, addP p false k v el true s4, withB a4 v el true, m5, A5, c5, j4 + 1, _, v5, e5⟩ ⟨by simp only; omega, ⟨hle4.trans hle5, by simp only; rw [nth_len]; exact hal4, by simp only [addP]; rw [hsb4, withB_pad (by rw [hal4]; exact hvn)], by simp only [addP]; exact hsf4, hI4.add hv8 hel12 hopen2, hsl5, hrow5, by simp only [addP]; omega⟩, .inr ⟨rfl, by simp only [addP]; omega⟩, by simp only; rw [filter_step, hop, if_pos rfl, List.foldl_append, ← hst4]; simp only [List.foldl_cons, List.foldl_nil]; exact hs5.symm⟩ (incl.lk (by repeat first | exact trivial | refine ⟨rfl, ?_⟩)) (fun w h => ?_) (by simp only; omega)
    exact h.tail.tail
  | false =>
    have hfolt := hfol true
    have hfolf := hfol false
    rw [hq1] at hfolt
    cases hq2 : folB a4 r v el false with
    | true =>
      rw [hq2] at hfolf
      have hwt := hwith false
      have hdir : dirB s4.b r v el = some false := by unfold dirB; rw [hfp, hfp, if_neg (by rw [hq1]; simp), if_pos hq2]
      repeat' (first | (apply TR.ch1; exact rfl; exact rfl; exact rfl; (first | exact Wd.plain rfl | exact Wd.on rfl rfl rfl); (first | exact EvC.callV rfl rfl (fun w hs => hhc w _ hs) | exact EvC.callV rfl rfl (fun w hs => hhl w _ hs) | exact EvC.callV rfl rfl (fun w hs => hfolt w _ hs) | exact EvC.callV rfl rfl (fun w hs => hfolf w _ hs)); rintro ⟨⟩) | refine TC.seq ?_ | refine TC.region ?_ | refine TR.nil ?_ | refine Post.then_normal ?_ | refine TC.block ?_ | refine TC.skip ?_ | (apply TC.cond_t; exact rfl) | (apply TC.cond_f; exact rfl) | (apply TC.cond_bt; exact rfl; assumption) | (apply TR.gs_f (o := ⟨_, .move _, _, _, _, _⟩); exact rfl; exact rfl; exact rfl; exact rfl; (first | exact Wd.plain rfl | exact Wd.on rfl rfl rfl); exact EvS.move rfl; (first | exact rfl | assumption)) | (apply TR.st1; exact rfl; exact rfl; exact rfl; (first | exact Wd.plain rfl | exact Wd.on rfl rfl rfl); (first | exact EvS.buildC (cells := #[.int .i64 v, .int .i64 (el : Int), .bool true, .int .i64 (k : Int), .slice none 0 0]) rfl (by kernel_rfl) | exact EvS.move rfl | exact EvS.fieldAddr rfl | (first | (apply EvS.load1; exact rfl; (first | exact Reads.mem (by assumption) | exact Reads.own (by repeat first | exact List.Mem.head _ | assumption | apply List.Mem.tail)); (first | assumption | exact nthL_arr rfl | exact rfl)) | (apply EvS.loadW; exact rfl; (first | exact Reads.mem (by assumption) | exact Reads.own (by repeat first | exact List.Mem.head _ | assumption | apply List.Mem.tail)); first | exact rfl | assumption) | (apply EvS.loadH; exact rfl; (first | exact Reads.mem (by assumption) | exact Reads.own (by repeat first | exact List.Mem.head _ | assumption | apply List.Mem.tail)); assumption; first | exact rfl | assumption)) | (first | exact EvS.not rfl | exact EvS.neg64 rfl (by first | with_reducible exact U64.var _ | exact U64.lit rfl)) | exact EvS.ltI rfl rfl | (first | exact EvS.pick_t rfl rfl | exact EvS.pick_f rfl rfl) | (first | exact EvS.indexAddr rfl rfl (by first | exact rfl | assumption) (by omega) | exact EvS.indexAddrA rfl rfl (by omega)))) | (apply TR.ch1 (o := ⟨_, .alloc _, _, _, _, _⟩) ; exact rfl; exact rfl; exact rfl; (first | exact Wd.plain rfl | exact Wd.on rfl rfl rfl); exact EvC.alloc; intro g) | (apply TR.ch0 (o := ⟨_, .store _ _ _, _, _, _, _⟩) ; exact rfl; exact rfl; (first | exact Wd.plain rfl | exact Wd.on rfl rfl rfl); exact EvC.store1 rfl rfl rfl (by repeat first | exact Upd.head | apply Upd.tail) (by first | assumption | exact Nat.lt_of_sub_eq_succ rfl | (simp; omega) | simp); rintro ⟨⟩) | (apply TR.ch0 (o := ⟨_, .store _ _ _, _, _, _, _⟩) ; exact rfl; exact rfl; (first | exact Wd.plain rfl | exact Wd.on rfl rfl rfl); exact EvC.storeW rfl rfl (by first | exact rfl | assumption) (by first | exact bArr_one _ | exact rfl | (intro v hv; simp at hv; rcases hv with rfl | rfl | rfl | rfl | rfl | rfl | rfl | rfl <;> rfl)) (by repeat first | exact Upd.head | apply Upd.tail) (by first | exact rfl | assumption); rintro ⟨⟩) | (apply TR.ch1 (o := ⟨_, .buildSlice _ _ _, _, _, _, _⟩) ; exact rfl; exact rfl; exact rfl; (first | exact Wd.plain rfl | exact Wd.on rfl rfl rfl); exact EvC.buildA rfl (by exact rfl) (by exact rfl) (by decide) (by decide); intro g))
      rw [show (#[.int .i64 v, .int .i64 (el : Int), .bool true, .int .i64 (k : Int), .slice none 0 0] : Array Value).setIfInBounds (0 + 2) (.bool false) = #[.int .i64 v, .int .i64 (el : Int), .bool false, .int .i64 (k : Int), .slice none 0 0] from rfl]
      (apply TR.ch1 (o := ⟨_, .call _, _, _, _, _⟩); exact rfl; exact rfl; exact rfl; (first | exact Wd.plain rfl | exact Wd.on rfl rfl rfl); (apply EvC.append; exact rfl; exact rfl; exact hrow4; exact Rep1.tail (Rep1.tail (Rep1.tail (Rep1.head))); (apply RdC.whole; (first | exact Reads.mem (by assumption) | exact Reads.own (by repeat first | exact List.Mem.head _ | assumption | apply List.Mem.tail))); exact rfl; exact (by first | exact (fun v hv => by simp at hv; rcases hv with rfl | rfl | rfl | rfl | rfl | rfl | rfl | rfl <;> rfl) | exact (fun v hv => by simp at hv; rcases hv with rfl | rfl | rfl | rfl | rfl | rfl | rfl <;> rfl) | exact (fun v hv => by simp at hv; rcases hv with rfl | rfl | rfl | rfl <;> rfl) | exact (fun v hv => by simp at hv; rcases hv with rfl | rfl <;> rfl) | exact (fun v hv => by simp at hv; subst hv; rfl)); exact rfl; decide; omega; (intro e2; exact Rep1.tail (Rep1.tail (Rep1.tail (Rep1.head))))); intro p)
      obtain ⟨⟨v5, e5⟩, hrow5⟩ := p
      simp only at hrow5 ⊢
      repeat' (first | refine TC.seq ?_ | refine TC.region ?_ | refine TR.nil ?_ | refine Post.then_normal ?_ | (apply TR.st1; exact rfl; exact rfl; exact rfl; (first | exact Wd.plain rfl | exact Wd.on rfl rfl rfl); (first | exact EvS.move rfl | exact EvS.assign rfl | exact EvS.fieldAddr rfl | (first | (apply EvS.load1; exact rfl; (first | exact Reads.mem (by assumption) | exact Reads.own (by repeat first | exact List.Mem.head _ | assumption | apply List.Mem.tail)); (first | assumption | exact nthL_arr rfl | exact rfl)) | (apply EvS.loadW; exact rfl; (first | exact Reads.mem (by assumption) | exact Reads.own (by repeat first | exact List.Mem.head _ | assumption | apply List.Mem.tail)); first | exact rfl | assumption) | (apply EvS.loadH; exact rfl; (first | exact Reads.mem (by assumption) | exact Reads.own (by repeat first | exact List.Mem.head _ | assumption | apply List.Mem.tail)); assumption; first | exact rfl | assumption)))))
      (apply TR.ch1 (o := ⟨_, .call _, _, _, _, _⟩); exact rfl; exact rfl; exact rfl; exact Wd.plain rfl; exact EvC.callX rfl rfl (fun w hs => hwt w _ hs); rintro ⟨A5, c5⟩)
      refine TR.of_exists (X := { m5 : Mem // m4.Le m5 ∧ Sl m5 2 A5 (bds (withB a4 v el false)) }) (S' := fun y => St y.1 _) (fun w h => by obtain ⟨m5, k1, k2, k3⟩ := h; exact ⟨⟨m5, k1, k2⟩, k3⟩) ?_
      rintro ⟨m5, hle5, hsl5⟩
      simp only at hle5 hsl5 ⊢
      repeat' (first | refine TC.region ?_ | refine TR.nil ?_ | refine Post.then_normal ?_ | refine Post.block_normal ?_ | (apply TR.st1; exact rfl; exact rfl; exact rfl; (first | exact Wd.plain rfl | exact Wd.on rfl rfl rfl); (first | exact EvS.move rfl | exact EvS.assign rfl | (first | exact EvS.addI rfl rfl (by omega) | exact EvS.add64 rfl rfl (by first | with_reducible exact U64.var _ | exact U64.lit rfl) (by first | with_reducible exact U64.var _ | exact U64.lit rfl)))))
      have hs5 : stepE p false k v s4 el = addP p false k v el false s4 := by unfold stepE; rw [hrD, hdir]
      refine Post.nextP ⟨el + 1, true, addP p false k v el false s4, withB a4 v el false, m5, A5, c5, j4 + 1, _, v5, e5⟩ ⟨by simp only; omega, ⟨hle4.trans hle5, by simp only; rw [nth_len]; exact hal4, by simp only [addP]; rw [hsb4, withB_pad (by rw [hal4]; exact hvn)], by simp only [addP]; exact hsf4, hI4.add hv8 hel12 hopen2, hsl5, hrow5, by simp only [addP]; omega⟩, .inr ⟨rfl, by simp only [addP]; omega⟩, by simp only; rw [filter_step, hop, if_pos rfl, List.foldl_append, ← hst4]; simp only [List.foldl_cons, List.foldl_nil]; exact hs5.symm⟩ (incl.lk (by repeat first | exact trivial | refine ⟨rfl, ?_⟩)) (fun w h => ?_) (by simp only; omega)
      exact h.tail.tail
    | false =>
      rw [hq2] at hfolf
      have hdir : dirB s4.b r v el = none := by unfold dirB; rw [hfp, hfp, if_neg (by rw [hq1]; simp), if_neg (by rw [hq2]; simp)]
      repeat' (first | (apply TR.ch1; exact rfl; exact rfl; exact rfl; (first | exact Wd.plain rfl | exact Wd.on rfl rfl rfl); (first | exact EvC.callV rfl rfl (fun w hs => hhc w _ hs) | exact EvC.callV rfl rfl (fun w hs => hhl w _ hs) | exact EvC.callV rfl rfl (fun w hs => hfolt w _ hs) | exact EvC.callV rfl rfl (fun w hs => hfolf w _ hs)); rintro ⟨⟩) | refine TC.seq ?_ | refine TC.region ?_ | refine TR.nil ?_ | refine Post.then_normal ?_ | refine TC.block ?_ | refine TC.skip ?_ | refine TC.exit ?_ | (apply TC.cond_t; exact rfl) | (apply TC.cond_f; exact rfl) | (apply TC.cond_bt; exact rfl; assumption) | refine Post.then_exit ?_ | refine Post.block_here ?_ | (apply TR.gs_f (o := ⟨_, .move _, _, _, _, _⟩); exact rfl; exact rfl; exact rfl; exact rfl; (first | exact Wd.plain rfl | exact Wd.on rfl rfl rfl); exact EvS.move rfl; (first | exact rfl | assumption)) | (apply TR.st1; exact rfl; exact rfl; exact rfl; (first | exact Wd.plain rfl | exact Wd.on rfl rfl rfl); (first | exact EvS.buildC (cells := #[.int .i64 v, .int .i64 (el : Int), .bool true, .int .i64 (k : Int), .slice none 0 0]) rfl (by kernel_rfl) | exact EvS.move rfl | exact EvS.assign rfl | exact EvS.fieldAddr rfl | (first | (apply EvS.load1; exact rfl; (first | exact Reads.mem (by assumption) | exact Reads.own (by repeat first | exact List.Mem.head _ | assumption | apply List.Mem.tail)); (first | assumption | exact nthL_arr rfl | exact rfl)) | (apply EvS.loadW; exact rfl; (first | exact Reads.mem (by assumption) | exact Reads.own (by repeat first | exact List.Mem.head _ | assumption | apply List.Mem.tail)); first | exact rfl | assumption) | (apply EvS.loadH; exact rfl; (first | exact Reads.mem (by assumption) | exact Reads.own (by repeat first | exact List.Mem.head _ | assumption | apply List.Mem.tail)); assumption; first | exact rfl | assumption)) | (first | exact EvS.not rfl | exact EvS.neg64 rfl (by first | with_reducible exact U64.var _ | exact U64.lit rfl)) | exact EvS.ltI rfl rfl | (first | exact EvS.addI rfl rfl (by omega) | exact EvS.add64 rfl rfl (by first | with_reducible exact U64.var _ | exact U64.lit rfl) (by first | with_reducible exact U64.var _ | exact U64.lit rfl)) | (first | exact EvS.pick_t rfl rfl | exact EvS.pick_f rfl rfl) | (first | exact EvS.indexAddr rfl rfl (by first | exact rfl | assumption) (by omega) | exact EvS.indexAddrA rfl rfl (by omega)))) | (apply TR.ch1 (o := ⟨_, .alloc _, _, _, _, _⟩) ; exact rfl; exact rfl; exact rfl; (first | exact Wd.plain rfl | exact Wd.on rfl rfl rfl); exact EvC.alloc; intro g) | (apply TR.ch0 (o := ⟨_, .store _ _ _, _, _, _, _⟩) ; exact rfl; exact rfl; (first | exact Wd.plain rfl | exact Wd.on rfl rfl rfl); exact EvC.store1 rfl rfl rfl (by repeat first | exact Upd.head | apply Upd.tail) (by first | assumption | exact Nat.lt_of_sub_eq_succ rfl | (simp; omega) | simp); rintro ⟨⟩) | (apply TR.ch0 (o := ⟨_, .store _ _ _, _, _, _, _⟩) ; exact rfl; exact rfl; (first | exact Wd.plain rfl | exact Wd.on rfl rfl rfl); exact EvC.storeW rfl rfl (by first | exact rfl | assumption) (by first | exact bArr_one _ | exact rfl | (intro v hv; simp at hv; rcases hv with rfl | rfl | rfl | rfl | rfl | rfl | rfl | rfl <;> rfl)) (by repeat first | exact Upd.head | apply Upd.tail) (by first | exact rfl | assumption); rintro ⟨⟩))
      have hs5 : stepE p false k v s4 el = s4 := by unfold stepE; rw [hrD, hdir]
      refine Post.nextP ⟨el + 1, chg4, s4, a4, m4, A4, cc4, j4, xs4, v4, e4⟩ ⟨by simp only; omega, ⟨hle4, hal4, hsb4, hsf4, hI4, hsl4, hrow4, hjn4⟩, hch4, ?_⟩ (incl.lk (by repeat first | exact trivial | refine ⟨rfl, ?_⟩)) (fun w h => h.tail) (by simp only; omega)
      simp only
      rw [filter_step, hop, if_pos rfl, List.foldl_append, ← hst4]
      simp only [List.foldl_cons, List.foldl_nil]
      exact hs5.symm
end Go.Proofs.YtgpgjpcebajofaaDoor
set_option maxHeartbeats 4000000
set_option linter.unusedVariables false
set_option linter.unusedSimpArgs false
set_option maxRecDepth 100000
namespace Go.Proofs.YtgpgjpcebajofaaDoor
open Go Go.XC Go.RowKit Go.SetsP
attribute [local irreducible] Post TC TR D WL EvS EvC Wd ResL Code.wpIn Exit.then Exit.inBlock Exit.noGoto LoopK LoopP bodyPostM Reads Calls

/-! ### The rules alone matter -/
theorem stepE_rules {p q : Pb} (h : p.rules = q.rules) (n : Nat) (v : Int) : stepE p false n v = stepE q false n v := by
  funext s e
  unfold stepE addP
  rw [h]
  rfl
theorem stepV_rules {p q : Pb} (h : p.rules = q.rules) (n : Nat) : stepV p false n = stepV q false n := by
  funext s v
  unfold stepV
  rw [stepE_rules h]
theorem ruleS_rules {p q : Pb} (h : p.rules = q.rules) (n : Nat) (s : Ps) : ruleS p false n s = ruleS q false n s := by
  unfold ruleS
  rw [stepV_rules h, h]
theorem roundP_rules {p q : Pb} (h : p.rules = q.rules) : ∀ (l : List Nat) (s : Ps), roundP p false l s = roundP q false l s := by
  intro l
  induction l with
  | nil => intro s; rfl
  | cons n l ih => intro s; unfold roundP; rw [ruleS_rules h, ih, h]
theorem runP_rules {p q : Pb} (h : p.rules = q.rules) : ∀ (k : Nat) (s : Ps), runP p false k s = runP q false k s := by
  intro k
  induction k with
  | zero => intro s; rfl
  | succ k ih => intro s; unfold runP; rw [roundP_rules h, h]; simp only [ih]
theorem runF_rules {p q : Pb} (h : p.rules = q.rules) (s : Ps) : runF p false s = runF q false s := runP_rules h 98 s
/-- A search goes on just if it is not open and more is asked for. -/
theorem nodeP_go {p : Pb} {most : Int} : ∀ (k : Nat) (b : List Bd) (o : Fo), 201 ≤ k + o.nodes → o.nodes ≤ 200 → o.sols.length ≤ o.nodes → o.op = false → (o.sols.length : Int) < most →
    (nodeP p most k b o).1 = (!(nodeP p most k b o).2.op && decide (((nodeP p most k b o).2.sols.length : Int) < most)) := by
  intro k
  induction k with
  | zero => intro b o h h2; omega
  | succ k ih =>
    intro b o h h2 h3 hop hlt
    unfold nodeP
    split
    · rfl
    · rename_i hne
      simp only
      split
      · simp [hop, hlt]
      · split
        · simp [hop]
        · rename_i v hv
          have i1 := ih (withB (runF p false ⟨b, []⟩).1.b v (tz (openB (List.getD (List.take p.bounds.length (runF p false ⟨b, []⟩).1.b) v default))) true) { o with nodes := o.nodes + 1 } (by simp only; omega) (by simp only; omega) (by simp only; omega) hop hlt
          obtain ⟨n1, n2, n3⟩ := nodeP_nodes (p := p) (most := most) k (withB (runF p false ⟨b, []⟩).1.b v (tz (openB (List.getD (List.take p.bounds.length (runF p false ⟨b, []⟩).1.b) v default))) true) { o with nodes := o.nodes + 1 } (by simp only; omega) (by simp only; omega)
          split
          · rename_i hg
            rw [hg] at i1
            have i2 := i1.symm
            rw [Bool.and_eq_true, decide_eq_true_eq, Bool.not_eq_true'] at i2
            exact ih _ _ (by simp only at n1; omega) n2 n3 i2.1 i2.2
          · rename_i hg
            rw [Bool.not_eq_true] at hg
            rw [hg] at i1
            exact i1
theorem tz_of {s : BV} {e : Nat} (he : e < 64) (h : has s e = true) (hno : ∀ j, j < e → has s j = false) : tz s = e := by
  unfold tz elems
  have h1 : (List.range e).filter (has s) = [] := by
    rw [List.filter_eq_nil_iff]
    intro j hj
    rw [hno j (by simpa using hj)]
    simp
  rw [show (64 : Nat) = e + ((63 - e) + 1) by omega, List.range_add, List.filter_append, h1, List.nil_append, List.range_succ_eq_map, List.map_cons, List.filter_cons, if_pos (by simpa using h)]
  simp
theorem pad8_take {a : List Bd} {n : Nat} (h : a.length = n) : (pad8 a).take n = a := by unfold pad8; rw [← h]; exact List.take_left' rfl
theorem findIdx_at {α : Type} {f : α → Bool} {l : List α} {k : Nat} {x : α} (hk : l[k]? = some x) (hx : f x = true) (hno : ∀ j y, j < k → l[j]? = some y → f y = false) : l.findIdx? f = some k := by
  have hl := (List.getElem?_eq_some_iff.1 hk).1
  rw [List.findIdx?_eq_some_iff_getElem]
  refine ⟨hl, ?_, fun j hj => ?_⟩
  · rw [List.getElem?_eq_getElem hl] at hk; injection hk with hk; rw [hk]; exact hx
  · rw [hno j _ hj (List.getElem?_eq_getElem (by omega))]; simp
theorem findIdx_no {α : Type} {f : α → Bool} {l : List α} (hno : ∀ j y, j < l.length → l[j]? = some y → f y = false) : l.findIdx? f = none := by
  rw [List.findIdx?_eq_none_iff]
  intro x hx
  obtain ⟨j, hj, rfl⟩ := List.mem_iff_getElem.1 hx
  exact hno j _ hj (List.getElem?_eq_getElem hj)

/-! ### The search's state by value -/
def QS (m : Mem) (L : Own) (sols : List (List BV)) (v : Value) (w : World) : Prop := ∃ m' e, m.Le m' ∧ SRow m' v sols e ∧ St m' (e :: L) w
def QW (m : Mem) (L : Own) (sols : List (List BV)) (v : Value) (b : List Bd) (p : Option Addr × Nat) (w : World) : Prop := ∃ m' e, m.Le m' ∧ SRow m' v sols e ∧ Sl m' 2 p.1 (bds b) ∧ St m' (e :: L) w
theorem QS.stx {m : Mem} {L : Own} {sols : List (List BV)} {v : Value} {w : World} (h : QS m L sols v w) : StX m L w := let ⟨m', e, h1, h2, h3⟩ := h; StX.of_le (L' := [_]) h1 h3
theorem QW.stx {m : Mem} {L : Own} {sols : List (List BV)} {v : Value} {b : List Bd} {p : Option Addr × Nat} {w : World} (h : QW m L sols v b p w) : StX m L w := let ⟨m', e, h1, h2, _, h3⟩ := h; StX.of_le (L' := [_]) h1 h3
theorem QS.drew {m : Mem} {L : Own} {sols : List (List BV)} {v : Value} {w : World} (h : QS m L sols v w) (d : Nat) : QS m L sols v { w with drawn := d } := let ⟨m', e, h1, h2, h3⟩ := h; ⟨m', e, h1, h2, h3.drew d⟩
theorem EvC.callXS {r : Option Nat} {P : Program} {N : Nat} {E : Env} {S0 : World → Prop} {d : Option Tmp} {ty : TypeId} {pos : String} {aft : Array Edge} {gd : Option (Nat × Bool)} {f : FuncId} {fo : Operand} {args : Array Operand} {ats : Array TypeId} {vs : List Value} {X : Type} {val : X → Value} {S' : X → World → Prop}
    [hf : EntersF P f] (hfo : evE E fo = some (.func (.func f) #[] #[])) (hargs : evArgs E args.toList = some vs)
    (hc : ∀ w, S0 w → Calls P f vs.toArray w (fun e w' => ∃ x, e = .returned (val x) ∧ S' x w')) :
    EvC r P N ⟨d, .call { callee := .value fo, args := args, argTypes := ats }, ty, pos, aft, gd⟩ E S0 (fun u w => ∃ x, u = val x ∧ S' x w) :=
  EvC.call (S := S') hfo hargs fun w hs => by
    simp only [Array.empty_append, Array.append_empty]
    exact hc w hs

theorem nodeR_c (p : Pb) (hp : okP p) (hrl : ∀ r, r ∈ p.rules → ruleB r p.bounds.length = true) (most : Int) : ∀ (k : Nat) (a : List Bd) (o : Fo) (pcs : Array Value) (v : Value) (e : Option (Nat × Obj)) (L : Own) (m : Mem) (w : World),
    201 ≤ k + o.nodes → o.nodes ≤ 200 → o.sols.length ≤ o.nodes → o.op = false → (o.sols.length : Int) < most → a.length = p.bounds.length → okB (pad8 a) → Cn (pad8 a) → PbC m ⟨a, p.rules⟩ pcs → SRow m v o.sols e → St m (e :: L) w →
    Calls Tryd.prog 30 #[.agg #[v, .int .i64 (o.nodes : Int), .bool o.op], .agg pcs, .int .i64 most] w fun x w' => ∃ v' : Value,
      x = .returned (.agg #[v', .int .i64 ((nodeP p most k (pad8 a) o).2.nodes : Int), .bool (nodeP p most k (pad8 a) o).2.op]) ∧ QS m L (nodeP p most k (pad8 a) o).2.sols v' w' := by
  intro k
  induction k with
  | zero => intro a o pcs v e L m w h1 h2; omega
  | succ k ih =>
  intro a o pcs v e L m w hfu hn2 hsl hop hlt han hbo hcn hpc hrow hs
  have hv1 := hrow.one
  have hpc0 := hpc
  obtain ⟨BA, bc, RA, rc, rfl, hBA, hRA⟩ := hpc
  simp only at hBA hRA hpc0 ⊢
  rw [han] at hpc0 ⊢
  obtain ⟨sss, hsr1, hsr2, hsr3⟩ := id hrow
  obtain ⟨sA, sc, rfl, hsc⟩ := ownRow_slice hsr1
  by_cases h200 : o.nodes = 200
  · have hd : decide ((o.nodes : Int) ≥ 200) = true := by rw [h200]; rfl
    have hn : nodeP p most (k + 1) (pad8 a) o = (false, { o with op := true }) := by unfold nodeP; rw [if_pos h200]
    rw [hn]
    refine calls_of_TC (args := [_, _, _]) Tryd.func30 rfl Tryd.ntmps30 (Nat.le_of_ble_eq_true rfl) hs ?_
    repeat' (first | refine TC.seq ?_ | refine TC.region ?_ | refine TR.nil ?_ | refine Post.then_normal ?_ | refine TC.ret ?_ | (apply TC.cond_bt; exact rfl; assumption) | refine Post.then_ret ?_ | (apply TR.st1; exact rfl; exact rfl; exact rfl; (first | exact Wd.plain rfl | exact Wd.on rfl rfl rfl); (first | exact EvS.fieldAddr rfl | (first | (apply EvS.load1; exact rfl; (first | exact Reads.mem (by assumption) | exact Reads.own (by repeat first | exact List.Mem.head _ | assumption | apply List.Mem.tail)); (first | assumption | exact nthL_arr rfl | exact rfl)) | (apply EvS.loadW; exact rfl; (first | exact Reads.mem (by assumption) | exact Reads.own (by repeat first | exact List.Mem.head _ | assumption | apply List.Mem.tail)); first | exact rfl | assumption) | (apply EvS.loadH; exact rfl; (first | exact Reads.mem (by assumption) | exact Reads.own (by repeat first | exact List.Mem.head _ | assumption | apply List.Mem.tail)); assumption; first | exact rfl | assumption)) | exact EvS.geI rfl rfl)) | (apply TR.ch1 (o := ⟨_, .box _ _, _, _, _, _⟩) ; exact rfl; exact rfl; exact rfl; (first | exact Wd.plain rfl | exact Wd.on rfl rfl rfl); exact EvC.boxA rfl; intro g) | (apply TR.ch1 (o := ⟨_, .alloc _, _, _, _, _⟩) ; exact rfl; exact rfl; exact rfl; (first | exact Wd.plain rfl | exact Wd.on rfl rfl rfl); exact EvC.alloc; intro g) | (apply TR.ch0 (o := ⟨_, .store _ _ _, _, _, _, _⟩) ; exact rfl; exact rfl; (first | exact Wd.plain rfl | exact Wd.on rfl rfl rfl); exact EvC.store1 rfl rfl rfl (by repeat first | exact Upd.head | apply Upd.tail) (by first | assumption | exact Nat.lt_of_sub_eq_succ rfl | (simp; omega) | simp); rintro ⟨⟩) | (apply TR.ch0 (o := ⟨_, .store _ _ _, _, _, _, _⟩) ; exact rfl; exact rfl; (first | exact Wd.plain rfl | exact Wd.on rfl rfl rfl); exact EvC.storeW rfl rfl (by first | exact rfl | assumption) (by first | exact bArr_one _ | exact rfl | (intro v hv; simp at hv; rcases hv with rfl | rfl | rfl | rfl | rfl | rfl | rfl | rfl <;> rfl)) (by repeat first | exact Upd.head | apply Upd.tail) (by first | exact rfl | assumption); rintro ⟨⟩))
    refine Post.body_ret _ (ResL.one rfl (ResV.cellW (n := 3) rfl (Reads.own (by repeat first | exact List.Mem.head _ | apply List.Mem.tail)) rfl)) ?_
    intro w h
    exact ⟨_, rfl, m, e, Mem.Le.refl _, hrow, h.tail.tail.tail⟩
  have hd : decide ((o.nodes : Int) ≥ 200) = false := by simp; omega
  obtain ⟨o1, ho1⟩ : ∃ o1 : Fo, o1 = { o with nodes := o.nodes + 1 } := ⟨_, rfl⟩
  obtain ⟨q, hq⟩ : ∃ q : Pb, q = ⟨a, p.rules⟩ := ⟨_, rfl⟩
  have hqb : q.bounds = a := by rw [hq]
  have hqr : q.rules = p.rules := by rw [hq]
  have hqo : okP q := by
    refine ⟨by rw [hqb, han]; exact hp.b1, by rw [hqb, han]; exact hp.b8, by rw [hqr]; exact hp.r12, fun x hx => hbo.2 x (List.mem_append_left _ (by rw [← hqb]; exact hx)), by rw [hqr]; exact hp.rl⟩
  obtain ⟨R, hR⟩ : ∃ R, R = runF p false ⟨pad8 a, []⟩ := ⟨_, rfl⟩
  have hI : Iv ⟨pad8 a, []⟩ := ⟨hbo, fun x h => (by cases h), (by have := openN_le hbo.1; show 0 + openN (pad8 a) ≤ 96; omega)⟩
  have hRI : Iv R.1 := by rw [hR]; exact runF_ok hp hI
  have hRb := hRI.b.1
  have hRc : Cn R.1.b := by rw [hR]; exact Cn.runP hp 98 _ hI hcn
  have hrun := fun (w : World) (L : Own) (hs : St m L w) => runR_c q _ hqo (by rw [hqr, hqb, han]; exact hrl) m (by rw [hq]; exact hpc0) L w hs
  rw [hqb, runF_rules hqr, ← hR, han] at hrun
  obtain ⟨l, hl⟩ : ∃ l, l = R.1.b.take p.bounds.length := ⟨_, rfl⟩
  rw [← hl] at hrun
  refine calls_of_TC (args := [_, _, _]) Tryd.func30 rfl Tryd.ntmps30 (Nat.le_of_ble_eq_true rfl) hs ?_
  repeat' (first | refine TC.seq ?_ | refine TC.region ?_ | refine TR.nil ?_ | refine Post.then_normal ?_ | refine TC.skip ?_ | (apply TC.cond_bf; exact rfl; assumption) | (apply TR.st1; exact rfl; exact rfl; exact rfl; (first | exact Wd.plain rfl | exact Wd.on rfl rfl rfl); (first | exact EvS.fieldAddr rfl | (first | (apply EvS.load1; exact rfl; (first | exact Reads.mem (by assumption) | exact Reads.own (by repeat first | exact List.Mem.head _ | assumption | apply List.Mem.tail)); (first | assumption | exact nthL_arr rfl | exact rfl)) | (apply EvS.loadW; exact rfl; (first | exact Reads.mem (by assumption) | exact Reads.own (by repeat first | exact List.Mem.head _ | assumption | apply List.Mem.tail)); first | exact rfl | assumption) | (apply EvS.loadH; exact rfl; (first | exact Reads.mem (by assumption) | exact Reads.own (by repeat first | exact List.Mem.head _ | assumption | apply List.Mem.tail)); assumption; first | exact rfl | assumption)) | exact EvS.geI rfl rfl | (first | exact EvS.addI rfl rfl (by omega) | exact EvS.add64 rfl rfl (by first | with_reducible exact U64.var _ | exact U64.lit rfl) (by first | with_reducible exact U64.var _ | exact U64.lit rfl)))) | (apply TR.ch1 (o := ⟨_, .box _ _, _, _, _, _⟩) ; exact rfl; exact rfl; exact rfl; (first | exact Wd.plain rfl | exact Wd.on rfl rfl rfl); exact EvC.boxA rfl; intro g) | (apply TR.ch1 (o := ⟨_, .alloc _, _, _, _, _⟩) ; exact rfl; exact rfl; exact rfl; (first | exact Wd.plain rfl | exact Wd.on rfl rfl rfl); exact EvC.alloc; intro g) | (apply TR.ch0 (o := ⟨_, .store _ _ _, _, _, _, _⟩) ; exact rfl; exact rfl; (first | exact Wd.plain rfl | exact Wd.on rfl rfl rfl); exact EvC.store1 rfl rfl rfl (by repeat first | exact Upd.head | apply Upd.tail) (by first | assumption | exact Nat.lt_of_sub_eq_succ rfl | (simp; omega) | simp); rintro ⟨⟩))
  rename_i gs gp
  obtain ⟨gr, hgr⟩ : ∃ x, x = g := ⟨_, rfl⟩
  subst hgr
  (apply TR.ch1 (o := ⟨_, .call _, _, _, _, _⟩); exact rfl; exact rfl; exact rfl; exact Wd.plain rfl; exact EvC.callX rfl rfl (fun w hs => hrun w _ hs); rintro ⟨A2, c2, v2⟩)
  refine TR.pull (fun w h => h.1) fun hpad => ?_
  refine TR.of_exists (X := { m2 : Mem // m.Le m2 ∧ Sl m2 2 A2 (bds l) }) (S' := fun y => St y.1 _) (fun w h => by obtain ⟨_, m5, k1, k2, k3⟩ := h; exact ⟨⟨m5, k1, k2⟩, k3⟩) ?_
  rintro ⟨m2, hle2, hSl⟩
  simp only at hle2 hSl ⊢
  have hln : l.length = p.bounds.length := by rw [hl, List.length_take, hRb]; have := hp.b8; omega
  by_cases hR2 : R.2 ≥ 0
  · have hdR : decide (R.2 ≥ 0) = true := by simpa using hR2
    have hn : nodeP p most (k + 1) (pad8 a) o = (true, o1) := by unfold nodeP; rw [if_neg h200]; simp only [← hR, ← ho1]; rw [if_pos hR2]
    rw [hn]
    repeat' (first | refine TC.seq ?_ | refine TC.region ?_ | refine TR.nil ?_ | refine Post.then_normal ?_ | refine TC.ret ?_ | (apply TC.cond_bt; exact rfl; assumption) | refine Post.then_ret ?_ | (apply TR.st1; exact rfl; exact rfl; exact rfl; (first | exact Wd.plain rfl | exact Wd.on rfl rfl rfl); (first | exact EvS.move rfl | exact EvS.assign rfl | (first | (apply EvS.load1; exact rfl; (first | exact Reads.mem (by assumption) | exact Reads.own (by repeat first | exact List.Mem.head _ | assumption | apply List.Mem.tail)); (first | assumption | exact nthL_arr rfl | exact rfl)) | (apply EvS.loadW; exact rfl; (first | exact Reads.mem (by assumption) | exact Reads.own (by repeat first | exact List.Mem.head _ | assumption | apply List.Mem.tail)); first | exact rfl | assumption) | (apply EvS.loadH; exact rfl; (first | exact Reads.mem (by assumption) | exact Reads.own (by repeat first | exact List.Mem.head _ | assumption | apply List.Mem.tail)); assumption; first | exact rfl | assumption)) | exact EvS.geI rfl rfl | exact EvS.extract rfl rfl)) | (apply TR.ch0 (o := ⟨_, .store _ _ _, _, _, _, _⟩) ; exact rfl; exact rfl; (first | exact Wd.plain rfl | exact Wd.on rfl rfl rfl); exact EvC.storeW rfl rfl (by first | exact rfl | assumption) (by first | exact bArr_one _ | exact rfl | (intro v hv; simp at hv; rcases hv with rfl | rfl | rfl | rfl | rfl | rfl | rfl | rfl <;> rfl)) (by repeat first | exact Upd.head | apply Upd.tail) (by first | exact rfl | assumption); rintro ⟨⟩))
    refine Post.body_ret _ (ResL.one rfl (ResV.cellW (n := 3) rfl (Reads.own (by repeat first | exact List.Mem.head _ | apply List.Mem.tail)) rfl)) ?_
    intro w h
    exact ⟨_, by rw [ho1]; rfl, m2, e, hle2, by rw [ho1]; exact hrow.mono hle2, h.tail.tail.tail⟩
  have hdR : decide (R.2 ≥ 0) = false := by simpa using hR2
  have hb8 := hp.b8
  repeat' (first | refine TC.seq ?_ | refine TC.region ?_ | refine TR.nil ?_ | refine Post.then_normal ?_ | refine TC.block ?_ | refine TC.skip ?_ | (apply TC.cond_bf; exact rfl; assumption) | (apply TR.st1; exact rfl; exact rfl; exact rfl; (first | exact Wd.plain rfl | exact Wd.on rfl rfl rfl); (first | exact EvS.move rfl | exact EvS.assign rfl | exact EvS.geI rfl rfl | exact EvS.extract rfl rfl)))
  refine TC.loopP (X := Nat) (fun k => k ≤ p.bounds.length ∧ ∀ j y, j < k → l[j]? = some y → y.lo = y.can)
    (fun k => [(10, .int .i64 (k : Int)), (7, .slice A2 p.bounds.length c2), (6, .pointer (some ⟨gr, 0, none⟩)), (4, .pointer (some ⟨gp, 0, none⟩)), (3, .pointer (some ⟨gs, 0, none⟩)), (2, .int .i64 most)])
    (fun _ => St m2 (some (gr, .cells #[.slice none 0 0, .int .i64 0, .bool false] 37 (0, 0)) :: some (gp, .cells #[.slice BA p.bounds.length bc, .slice RA p.rules.length rc] 25 (0, 0)) :: some (gs, .cells #[.slice sA o.sols.length sc, .int .i64 (o1.nodes : Int), .bool o.op] 37 (0, 0)) :: e :: L)) (fun k => p.bounds.length - k) 0 ⟨Nat.zero_le _, fun j y h => absurd h (Nat.not_lt_zero _)⟩ (incl.lk (by repeat first | exact trivial | refine ⟨rfl, ?_⟩)) (fun w h => by rw [ho1]; exact h) ?_
  rintro v ⟨hvn, heq⟩
  repeat' (first | refine TC.seq ?_)
  by_cases hvl : v < p.bounds.length
  · have hdv : decide ((v : Int) < (p.bounds.length : Int)) = true := by simpa using hvl
    obtain ⟨y, hy⟩ : ∃ y, l[v]? = some y := ⟨_, List.getElem?_eq_getElem (by omega)⟩
    obtain ⟨g7, o7, blk7, T7, fr7, hA7, hm7, hc7⟩ := hSl.get (k := v) (cs := bdC y) (by simp [bds, hy])
    have hlo : blk7[o7 + (v : Int).toNat * 2 + 0]? = some (.int .u64 (y.lo.toNat : Int)) := hc7 0 _ rfl
    have hca : blk7[o7 + (v : Int).toNat * 2 + 1]? = some (.int .u64 (y.can.toNat : Int)) := hc7 1 _ rfl
    clear hc7
    by_cases hye : y.lo = y.can
    · have hyb : (y.lo == y.can) = true := by simpa using hye
      refine TC.draw_ [.st, .st, .st, .st, .st, .st, .st, .st, .st, .st, .st, .st, .st, .st, .st, .st, .st] mixed rfl (by kernel_rfl) ?_
      repeat' (first | rw [hdv] | (apply D.st1; exact rfl; (first | exact Wd.plain rfl | exact Wd.on rfl rfl rfl); (first | exact EvS.move rfl | exact EvS.fieldAddr rfl | (first | (apply EvS.load1; exact rfl; (first | exact Reads.memX (by assumption) | exact Reads.ownX (by repeat first | exact List.Mem.head _ | assumption | apply List.Mem.tail)); (first | assumption | exact nthL_arr rfl | exact rfl)) | (apply EvS.loadW; exact rfl; (first | exact Reads.memX (by assumption) | exact Reads.ownX (by repeat first | exact List.Mem.head _ | assumption | apply List.Mem.tail)); first | exact rfl | assumption) | (apply EvS.loadH; exact rfl; (first | exact Reads.memX (by assumption) | exact Reads.ownX (by repeat first | exact List.Mem.head _ | assumption | apply List.Mem.tail)); assumption; first | exact rfl | assumption)) | exact EvS.len rfl | (first | exact EvS.eq64 rfl rfl (by first | with_reducible exact U64.var _ | exact U64.lit rfl) (by first | with_reducible exact U64.var _ | exact U64.lit rfl) | exact EvS.eqI rfl rfl | exact EvS.eqB rfl rfl) | exact EvS.ltI rfl rfl | (first | exact EvS.pick_t rfl rfl | exact EvS.pick_f rfl rfl) | (first | exact EvS.indexAddr rfl rfl (by first | exact rfl | assumption) (by omega) | exact EvS.indexAddrA rfl rfl (by omega)))) | refine D.tail_ ?_)
      repeat' (first | refine TC.region ?_ | refine TR.nil ?_ | refine Post.then_normal ?_ | refine TC.block ?_ | refine TC.skip ?_ | (apply TC.cond_bt; exact rfl; assumption) | refine Post.block_normal ?_ | (apply TR.st1; exact rfl; exact rfl; exact rfl; (first | exact Wd.plain rfl | exact Wd.on rfl rfl rfl); (first | exact EvS.move rfl | exact EvS.assign rfl | (first | exact EvS.addI rfl rfl (by omega) | exact EvS.add64 rfl rfl (by first | with_reducible exact U64.var _ | exact U64.lit rfl) (by first | with_reducible exact U64.var _ | exact U64.lit rfl)))))
      exact Post.nextP (v + 1) ⟨by omega, fun j z hj hz => by
        by_cases e0 : j = v
        · subst e0; rw [hy] at hz; cases hz; exact hye
        · exact heq j z (by omega) hz⟩ (incl.lk (by repeat first | exact trivial | refine ⟨rfl, ?_⟩)) (fun w h => h) (by omega)
    have hyb : (y.lo == y.can) = false := by simpa using hye
    have hdn : ((v : Int) == (p.bounds.length : Int)) = false := by simp; omega
    have hfi : l.findIdx? (fun x => x.lo != x.can) = some v := findIdx_at hy (by simpa using hye) (fun j z hj hz => by simp [heq j z hj hz])
    have hbl : R.1.b[v]? = some y := by
      rw [hl, List.getElem?_take] at hy
      rw [if_pos hvl] at hy
      exact hy
    have hym : y ∈ R.1.b := List.mem_of_getElem? hbl
    have hyD : l.getD v default = y := by rw [List.getD_eq_getElem?_getD, hy]; rfl
    have hys : small (openB y) := small_openB (hRI.b.2 y hym).2
    have hy0 : openB y ≠ 0#64 := cn_ne (hRc y hym) hye
    have htz : tz (openB y) < 12 ∧ has (openB y) (tz (openB y)) = true := elems_lt hys (by rw [(elems_step hys hy0).1]; exact List.mem_cons_self)
    obtain ⟨te, hte⟩ : ∃ te, te = tz (openB y) := ⟨_, rfl⟩
    rw [← hte] at htz
    have hvI : 0 ≤ (v : Int) ∧ (v : Int) < 8 := by omega
    have hny : nth R.1.b (v : Int) = y := by unfold nth; rw [Int.toNat_natCast, List.getD_eq_getElem?_getD, hbl]; rfl
    have hopen : has (openB (nth R.1.b (v : Int))) te = true := by rw [hny]; exact htz.2
    have hvl2 : 0 ≤ (v : Int) ∧ (v : Int) < l.length := by omega
    have hbw (i : Bool) : withB R.1.b v te i = pad8 (withB l v te i) := by rw [hpad, withB_pad hvl2]
    have hbo (i : Bool) : okB (pad8 (withB l v te i)) := by rw [← hbw]; exact okB_with hRI.b hvI htz.1 i
    have hbc (i : Bool) : Cn (pad8 (withB l v te i)) := by rw [← hbw]; exact hRc.with hRb hvI (by omega) i hopen
    have hwl (i : Bool) : (withB l v te i).length = p.bounds.length := by rw [nth_len, hln]
    have hn : nodeP p most (k + 1) (pad8 a) o = if (nodeP p most k (pad8 (withB l v te true)) o1).1 then nodeP p most k (pad8 (withB l v te false)) (nodeP p most k (pad8 (withB l v te true)) o1).2 else (false, (nodeP p most k (pad8 (withB l v te true)) o1).2) := by
      conv => lhs; unfold nodeP
      rw [if_neg h200]; simp only [← hR, ← ho1, ← hl]; rw [if_neg hR2, hfi]; simp only [hyD, ← hte, hbw]
    obtain ⟨n1, n2, n3⟩ := nodeP_nodes (p := p) (most := most) k (pad8 (withB l v te true)) o1 (by rw [ho1]; simp only; omega) (by rw [ho1]; simp only; omega)
    have hgo := nodeP_go (p := p) (most := most) k (pad8 (withB l v te true)) o1 (by rw [ho1]; simp only; omega) (by rw [ho1]; simp only; omega) (by rw [ho1]; simp only; omega) (by rw [ho1]; exact hop) (by rw [ho1]; exact hlt)
    have hfu1 : 201 ≤ k + o1.nodes := by rw [ho1]; simp only; omega
    have hn1 : o1.nodes ≤ 200 := by rw [ho1]; simp only; omega
    have hs1 : o1.sols.length ≤ o1.nodes := by rw [ho1]; simp only; omega
    have hw := fun (i : Bool) (mm : Mem) (hmm : m2.Le mm) (Lb : Own) (sols : List (List BV)) (sv : Value) (w : World) (h : QS mm Lb sols sv w) => (show Calls Tryd.prog 51 #[.slice A2 p.bounds.length c2, .int .i64 (v : Int), .int .i64 (te : Int), .bool i] w fun q w' => ∃ P : Option Addr × Nat, q = .returned (.slice P.1 p.bounds.length P.2) ∧ QW mm Lb sols sv (withB l v te i) P w' from by
      obtain ⟨m', e', k1, k2, k3⟩ := h
      have := withR_c l A2 c2 (v : Int) te i hvl2 htz.1 (by omega) m' ((hSl.mono hmm).mono k1) (e' :: Lb) w k3
      rw [hln] at this
      exact this.mono fun q w' ⟨P, a1, m5, a2, a3, a4⟩ => ⟨P, a1, m5, e', k1.trans a2, k2.mono a2, a3, a4⟩)
    have hc := fun (i : Bool) (ox : Fo) (f1 : 201 ≤ k + ox.nodes) (f2 : ox.nodes ≤ 200) (f3 : ox.sols.length ≤ ox.nodes) (f4 : ox.op = false) (f5 : (ox.sols.length : Int) < most) (mm : Mem) (hmm : m2.Le mm) (Lb : Own) (sv : Value) (P : Option Addr × Nat) (w : World) (h : QW mm Lb ox.sols sv (withB l v te i) P w) => (show Calls Tryd.prog 30 #[.agg #[sv, .int .i64 (ox.nodes : Int), .bool ox.op], .agg #[.slice P.1 p.bounds.length P.2, .slice RA p.rules.length rc], .int .i64 most] w fun x w' => ∃ v' : Value,
      x = .returned (.agg #[v', .int .i64 ((nodeP p most k (pad8 (withB l v te i)) ox).2.nodes : Int), .bool (nodeP p most k (pad8 (withB l v te i)) ox).2.op]) ∧ QS mm Lb (nodeP p most k (pad8 (withB l v te i)) ox).2.sols v' w' from by
      obtain ⟨m', e', k1, k2, k3, k4⟩ := h
      have := ih (withB l v te i) ox #[.slice P.1 p.bounds.length P.2, .slice RA p.rules.length rc] sv e' Lb m' w f1 f2 f3 f4 f5 (hwl i) (hbo i) (hbc i) ⟨P.1, P.2, RA, rc, by rw [hwl i], k3, ((hRA.mono hle2).mono hmm).mono k1⟩ k2 k4
      exact this.mono fun q w' ⟨v', a1, m5, e5, a2, a3, a4⟩ => ⟨v', a1, m5, e5, k1.trans a2, a3, a4⟩)
    have hhc := fun (j : Nat) (hj : j < 12) (w : World) (L : Own) (hs : St m2 L w) => has_c (y.can &&& ~~~y.lo) j hj m2 L w hs
    refine TC.draw_ [.st, .st, .st, .st, .st, .st, .st, .st, .st, .st, .st, .st, .st, .st, .st, .st, .st] mixed rfl (by kernel_rfl) ?_
    repeat' (first | rw [hdv] | (apply D.st1; exact rfl; (first | exact Wd.plain rfl | exact Wd.on rfl rfl rfl); (first | exact EvS.move rfl | exact EvS.fieldAddr rfl | (first | (apply EvS.load1; exact rfl; (first | exact Reads.memX (by assumption) | exact Reads.ownX (by repeat first | exact List.Mem.head _ | assumption | apply List.Mem.tail)); (first | assumption | exact nthL_arr rfl | exact rfl)) | (apply EvS.loadW; exact rfl; (first | exact Reads.memX (by assumption) | exact Reads.ownX (by repeat first | exact List.Mem.head _ | assumption | apply List.Mem.tail)); first | exact rfl | assumption) | (apply EvS.loadH; exact rfl; (first | exact Reads.memX (by assumption) | exact Reads.ownX (by repeat first | exact List.Mem.head _ | assumption | apply List.Mem.tail)); assumption; first | exact rfl | assumption)) | exact EvS.len rfl | (first | exact EvS.eq64 rfl rfl (by first | with_reducible exact U64.var _ | exact U64.lit rfl) (by first | with_reducible exact U64.var _ | exact U64.lit rfl) | exact EvS.eqI rfl rfl | exact EvS.eqB rfl rfl) | exact EvS.ltI rfl rfl | (first | exact EvS.pick_t rfl rfl | exact EvS.pick_f rfl rfl) | (first | exact EvS.indexAddr rfl rfl (by first | exact rfl | assumption) (by omega) | exact EvS.indexAddrA rfl rfl (by omega)))) | refine D.tail_ ?_)
    repeat' (first | refine TC.seq ?_ | refine TC.region ?_ | refine TR.nil ?_ | refine Post.then_normal ?_ | refine TC.block ?_ | refine TC.skip ?_ | refine TC.exit ?_ | (apply TC.cond_bf; exact rfl; assumption) | refine Post.then_exit ?_ | refine Post.block_here ?_ | (apply TR.st1; exact rfl; exact rfl; exact rfl; (first | exact Wd.plain rfl | exact Wd.on rfl rfl rfl); (first | exact EvS.move rfl | exact EvS.assign rfl | exact EvS.len rfl | (first | exact EvS.eq64 rfl rfl (by first | with_reducible exact U64.var _ | exact U64.lit rfl) (by first | with_reducible exact U64.var _ | exact U64.lit rfl) | exact EvS.eqI rfl rfl | exact EvS.eqB rfl rfl))))
    refine TC.loopP (X := Nat) (fun j => j ≤ te ∧ ∀ i, i < j → has (openB y) i = false)
      (fun j => [(13, .int .i64 (j : Int)), (10, .int .i64 (v : Int)), (7, .slice A2 p.bounds.length c2), (6, .pointer (some ⟨gr, 0, none⟩)), (4, .pointer (some ⟨gp, 0, none⟩)), (3, .pointer (some ⟨gs, 0, none⟩)), (2, .int .i64 most)])
      (fun _ => St m2 (some (gr, .cells #[.slice none 0 0, .int .i64 0, .bool false] 37 (0, 0)) :: some (gp, .cells #[.slice BA p.bounds.length bc, .slice RA p.rules.length rc] 25 (0, 0)) :: some (gs, .cells #[.slice sA o.sols.length sc, .int .i64 (o1.nodes : Int), .bool o.op] 37 (0, 0)) :: e :: L)) (fun j => te - j) 0 ⟨Nat.zero_le _, fun j h => absurd h (Nat.not_lt_zero _)⟩ (incl.lk (by repeat first | exact trivial | refine ⟨rfl, ?_⟩)) (fun w h => h) ?_
    rintro j ⟨hj, hjn⟩
    have hhj := hhc j (by omega)
    by_cases hjb : has (openB y) j = true
    rotate_left
    · rw [Bool.not_eq_true] at hjb
      have hjt : j < te := by
        by_cases e0 : j = te
        · rw [e0, htz.2] at hjb; cases hjb
        · omega
      rw [show has (y.can &&& ~~~y.lo) j = false from hjb] at hhj
      repeat' (first | refine TC.seq ?_)
      refine TC.draw_ [.st, .st, .st, .st, .st, .st, .st, .st, .st, .st, .st, .st, .ch, .st] mixed rfl (by kernel_rfl) ?_
      repeat' (first | (apply D.chx (o := ⟨_, .call _, _, _, _, _⟩); exact rfl; (first | exact Wd.plain rfl | exact Wd.on rfl rfl rfl); exact EvC.callV rfl rfl (fun w hs => hhj w _ hs); exact inferInstance; exact (by first | exact fun _ _ h => StX.of0 h | exact fun _ _ h => StX.of1 h | exact fun _ _ h => StX.of2 h | exact fun _ _ h => StX.of3 h | exact fun _ _ h => StX.of h); rintro ⟨⟩) | (apply D.st1; exact rfl; (first | exact Wd.plain rfl | exact Wd.on rfl rfl rfl); (first | exact EvS.move rfl | exact EvS.fieldAddr rfl | (first | (apply EvS.load1; exact rfl; (first | exact Reads.memX (by assumption) | exact Reads.ownX (by repeat first | exact List.Mem.head _ | assumption | apply List.Mem.tail)); (first | assumption | exact nthL_arr rfl | exact rfl)) | (apply EvS.loadW; exact rfl; (first | exact Reads.memX (by assumption) | exact Reads.ownX (by repeat first | exact List.Mem.head _ | assumption | apply List.Mem.tail)); first | exact rfl | assumption) | (apply EvS.loadH; exact rfl; (first | exact Reads.memX (by assumption) | exact Reads.ownX (by repeat first | exact List.Mem.head _ | assumption | apply List.Mem.tail)); assumption; first | exact rfl | assumption)) | (first | exact EvS.not rfl | exact EvS.neg64 rfl (by first | with_reducible exact U64.var _ | exact U64.lit rfl)) | exact EvS.andNot64 rfl rfl (by first | with_reducible exact U64.var _ | exact U64.lit rfl) (by first | with_reducible exact U64.var _ | exact U64.lit rfl) | (first | exact EvS.indexAddr rfl rfl (by first | exact rfl | assumption) (by omega) | exact EvS.indexAddrA rfl rfl (by omega)))) | refine D.tail_ ?_)
      repeat' (first | refine TC.region ?_ | refine TR.nil ?_ | refine Post.then_normal ?_ | refine TC.block ?_ | refine TC.skip ?_ | (apply TC.cond_t; exact rfl) | refine Post.block_normal ?_ | (apply TR.st1; exact rfl; exact rfl; exact rfl; (first | exact Wd.plain rfl | exact Wd.on rfl rfl rfl); (first | exact EvS.move rfl | exact EvS.assign rfl | (first | exact EvS.addI rfl rfl (by omega) | exact EvS.add64 rfl rfl (by first | with_reducible exact U64.var _ | exact U64.lit rfl) (by first | with_reducible exact U64.var _ | exact U64.lit rfl)))))
      refine Post.nextP (j + 1) ⟨by omega, fun i hi => ?_⟩ (incl.lk (by repeat first | exact trivial | refine ⟨rfl, ?_⟩)) (fun w h => h) (by omega)
      by_cases e0 : i = j
      · rw [e0]; exact hjb
      · exact hjn i (by omega)
    obtain rfl : te = j := by rw [hte]; exact tz_of (by omega) hjb hjn
    rw [show has (y.can &&& ~~~y.lo) te = true from hjb] at hhj
    obtain ⟨F1, hF1⟩ : ∃ F1, F1 = (nodeP p most k (pad8 (withB l v te true)) o1).2 := ⟨_, rfl⟩
    have hc1 := hc true o1 hfu1 hn1 hs1 (by rw [ho1]; exact hop) (by rw [ho1]; exact hlt)
    rw [← hF1] at hn hgo n1 n2 n3 hc1
    have hop1 : o1.op = o.op := by rw [ho1]
    rw [hop1] at hc1
    repeat' (first | refine TC.seq ?_)
    refine TC.draw_ [.st, .st, .st, .st, .st, .st, .st, .st, .st, .st, .st, .st, .ch, .st] mixed rfl (by kernel_rfl) ?_
    repeat' (first | (apply D.chx (o := ⟨_, .call _, _, _, _, _⟩); exact rfl; (first | exact Wd.plain rfl | exact Wd.on rfl rfl rfl); exact EvC.callV rfl rfl (fun w hs => hhj w _ hs); exact inferInstance; exact (by first | exact fun _ _ h => StX.of0 h | exact fun _ _ h => StX.of1 h | exact fun _ _ h => StX.of2 h | exact fun _ _ h => StX.of3 h | exact fun _ _ h => StX.of h); rintro ⟨⟩) | (apply D.st1; exact rfl; (first | exact Wd.plain rfl | exact Wd.on rfl rfl rfl); (first | exact EvS.move rfl | exact EvS.fieldAddr rfl | (first | (apply EvS.load1; exact rfl; (first | exact Reads.memX (by assumption) | exact Reads.ownX (by repeat first | exact List.Mem.head _ | assumption | apply List.Mem.tail)); (first | assumption | exact nthL_arr rfl | exact rfl)) | (apply EvS.loadW; exact rfl; (first | exact Reads.memX (by assumption) | exact Reads.ownX (by repeat first | exact List.Mem.head _ | assumption | apply List.Mem.tail)); first | exact rfl | assumption) | (apply EvS.loadH; exact rfl; (first | exact Reads.memX (by assumption) | exact Reads.ownX (by repeat first | exact List.Mem.head _ | assumption | apply List.Mem.tail)); assumption; first | exact rfl | assumption)) | (first | exact EvS.not rfl | exact EvS.neg64 rfl (by first | with_reducible exact U64.var _ | exact U64.lit rfl)) | exact EvS.andNot64 rfl rfl (by first | with_reducible exact U64.var _ | exact U64.lit rfl) (by first | with_reducible exact U64.var _ | exact U64.lit rfl) | (first | exact EvS.indexAddr rfl rfl (by first | exact rfl | assumption) (by omega) | exact EvS.indexAddrA rfl rfl (by omega)))) | refine D.tail_ ?_)
    repeat' (first | refine TC.seq ?_ | refine TR.nil ?_ | refine Post.then_normal ?_ | refine TC.exit ?_ | (apply TC.cond_f; exact rfl) | refine Post.then_exit ?_ | refine Post.block_here ?_)
    refine TC.turn (S' := QS m2 (some (gr, .cells #[.slice none 0 0, .int .i64 0, .bool false] 37 (0, 0)) :: some (gp, .cells #[.slice BA p.bounds.length bc, .slice RA p.rules.length rc] 25 (0, 0)) :: some (gs, .cells #[.slice sA o.sols.length sc, .int .i64 (o1.nodes : Int), .bool o.op] 37 (0, 0)) :: L) o1.sols (.slice sA o.sols.length sc)) (fun w h => ⟨m2, e, Mem.Le.refl _, by rw [ho1]; exact hrow.mono hle2, h.perm (List.perm_middle (l₁ := [_, _, _]))⟩) ?_
    refine drawS (Sb := StX m2 (some (gr, .cells #[.slice none 0 0, .int .i64 0, .bool false] 37 (0, 0)) :: some (gp, .cells #[.slice BA p.bounds.length bc, .slice RA p.rules.length rc] 25 (0, 0)) :: some (gs, .cells #[.slice sA o.sols.length sc, .int .i64 (o1.nodes : Int), .bool o.op] 37 (0, 0)) :: L)) [.st, .st, .st, .st, .ch, .st, .st, .st, .st, .ch] mixed rfl (by kernel_rfl) (fun w h => h.stx) (fun w d h => h.drew d) ?_
    repeat' (first | (apply D.chx (o := ⟨_, .call _, _, _, _, _⟩); exact rfl; (first | exact Wd.plain rfl | exact Wd.on rfl rfl rfl); exact EvC.callXS rfl rfl (fun w h => hw true m2 (Mem.Le.refl _) _ _ _ w h); exact inferInstance; exact fun _ _ h => QW.stx h; rintro ⟨B1, bc1⟩) | (apply D.chx (o := ⟨_, .call _, _, _, _, _⟩); exact rfl; (first | exact Wd.plain rfl | exact Wd.on rfl rfl rfl); exact EvC.callXS rfl rfl (fun w h => hc1 m2 (Mem.Le.refl _) _ _ (B1, bc1) w h); exact inferInstance; exact fun _ _ h => QS.stx h; rintro v1) | (apply D.st1; exact rfl; (first | exact Wd.plain rfl | exact Wd.on rfl rfl rfl); (first | exact EvS.buildV rfl (by kernel_rfl) | exact EvS.move rfl | exact EvS.fieldAddr rfl | (first | (apply EvS.load1; exact rfl; (first | exact Reads.memX (by assumption) | exact Reads.ownX (by repeat first | exact List.Mem.head _ | assumption | apply List.Mem.tail)); (first | assumption | exact nthL_arr rfl | exact rfl)) | (apply EvS.loadW; exact rfl; (first | exact Reads.memX (by assumption) | exact Reads.ownX (by repeat first | exact List.Mem.head _ | assumption | apply List.Mem.tail)); first | exact rfl | assumption) | (apply EvS.loadH; exact rfl; (first | exact Reads.memX (by assumption) | exact Reads.ownX (by repeat first | exact List.Mem.head _ | assumption | apply List.Mem.tail)); assumption; first | exact rfl | assumption)))) | refine D.tail_ ?_)
    refine TR.of_exists (X := { y : Mem × Option (Nat × Obj) // m2.Le y.1 ∧ SRow y.1 v1 F1.sols y.2 }) (S' := fun y => St y.1.1 (y.1.2 :: some (gr, .cells #[.slice none 0 0, .int .i64 0, .bool false] 37 (0, 0)) :: some (gp, .cells #[.slice BA p.bounds.length bc, .slice RA p.rules.length rc] 25 (0, 0)) :: some (gs, .cells #[.slice sA o.sols.length sc, .int .i64 (o1.nodes : Int), .bool o.op] 37 (0, 0)) :: L)) (fun w h => by obtain ⟨m5, e5, k1, k2, k3⟩ := h; exact ⟨⟨(m5, e5), k1, k2⟩, k3⟩) ?_
    rintro ⟨⟨m5, e5⟩, hle5, hrow5⟩
    simp only at hle5 hrow5 ⊢
    obtain ⟨_, hor5, _⟩ := id hrow5
    obtain ⟨nA, nc, rfl, hnc⟩ := ownRow_slice hor5
    cases hq1 : F1.op with
    | true =>
      rw [hq1, Bool.not_true, Bool.false_and] at hgo
      rw [hgo, if_neg (by simp)] at hn
      rw [hn]
      repeat' (first | refine TC.seq ?_ | refine TC.region ?_ | refine TR.nil ?_ | refine Post.then_normal ?_ | refine TC.ret ?_ | (apply TC.cond_t; exact rfl) | refine Post.then_ret ?_ | (apply TR.sk1 (o := ⟨_, _, _, _, _, some _⟩); exact rfl; exact rfl; (first | exact Wd.off rfl rfl rfl rfl | exact Wd.offU rfl rfl rfl)) | (apply TR.gs_t (o := ⟨_, .move _, _, _, _, _⟩); exact rfl; exact rfl; exact rfl; exact rfl; (first | exact Wd.plain rfl | exact Wd.on rfl rfl rfl); exact EvS.move rfl; (first | exact rfl | assumption)) | (apply TR.st1; exact rfl; exact rfl; exact rfl; (first | exact Wd.plain rfl | exact Wd.on rfl rfl rfl); (first | exact EvS.fieldAddr rfl | (first | (apply EvS.load1; exact rfl; (first | exact Reads.mem (by assumption) | exact Reads.own (by repeat first | exact List.Mem.head _ | assumption | apply List.Mem.tail)); (first | assumption | exact nthL_arr rfl | exact rfl)) | (apply EvS.loadW; exact rfl; (first | exact Reads.mem (by assumption) | exact Reads.own (by repeat first | exact List.Mem.head _ | assumption | apply List.Mem.tail)); first | exact rfl | assumption) | (apply EvS.loadH; exact rfl; (first | exact Reads.mem (by assumption) | exact Reads.own (by repeat first | exact List.Mem.head _ | assumption | apply List.Mem.tail)); assumption; first | exact rfl | assumption)) | (first | exact EvS.pick_t rfl rfl | exact EvS.pick_f rfl rfl))) | (apply TR.ch0 (o := ⟨_, .store _ _ _, _, _, _, _⟩) ; exact rfl; exact rfl; (first | exact Wd.plain rfl | exact Wd.on rfl rfl rfl); exact EvC.storeW rfl rfl (by first | exact rfl | assumption) (by first | exact bArr_one _ | exact rfl | (intro v hv; simp at hv; rcases hv with rfl | rfl | rfl | rfl | rfl | rfl | rfl | rfl <;> rfl)) (by repeat first | exact Upd.head | apply Upd.tail) (by first | exact rfl | assumption); rintro ⟨⟩))
      refine Post.body_ret _ (ResL.one rfl (ResV.cellW (n := 3) rfl (Reads.own (by repeat first | exact List.Mem.head _ | apply List.Mem.tail)) rfl)) ?_
      intro w h
      exact ⟨_, by simp only [hq1], m5, e5, hle2.trans hle5, hrow5, h.sublist (List.Sublist.cons_cons _ (List.Sublist.cons _ (List.Sublist.cons _ (List.Sublist.cons _ (List.Sublist.refl _)))))⟩
    | false =>
      rw [hq1, Bool.not_false, Bool.true_and] at hgo
      by_cases hq2 : (F1.sols.length : Int) < most
      · have hge : decide ((F1.sols.length : Int) ≥ most) = false := by simpa using hq2
        rw [hgo, if_pos (by simpa using hq2)] at hn
        rw [hn]
        have hc0 := hc false F1 (by omega) n2 n3 hq1 hq2
        repeat' (first | refine TC.seq ?_ | refine TC.region ?_ | refine TR.nil ?_ | refine Post.then_normal ?_ | refine TC.skip ?_ | (apply TC.cond_bf; exact rfl; assumption) | (apply TR.gs_f (o := ⟨_, .move _, _, _, _, _⟩); exact rfl; exact rfl; exact rfl; exact rfl; (first | exact Wd.plain rfl | exact Wd.on rfl rfl rfl); exact EvS.move rfl; (first | exact rfl | assumption)) | (apply TR.st1; exact rfl; exact rfl; exact rfl; (first | exact Wd.plain rfl | exact Wd.on rfl rfl rfl); (first | exact EvS.move rfl | exact EvS.fieldAddr rfl | (first | (apply EvS.load1; exact rfl; (first | exact Reads.mem (by assumption) | exact Reads.own (by repeat first | exact List.Mem.head _ | assumption | apply List.Mem.tail)); (first | assumption | exact nthL_arr rfl | exact rfl)) | (apply EvS.loadW; exact rfl; (first | exact Reads.mem (by assumption) | exact Reads.own (by repeat first | exact List.Mem.head _ | assumption | apply List.Mem.tail)); first | exact rfl | assumption) | (apply EvS.loadH; exact rfl; (first | exact Reads.mem (by assumption) | exact Reads.own (by repeat first | exact List.Mem.head _ | assumption | apply List.Mem.tail)); assumption; first | exact rfl | assumption)) | exact EvS.len rfl | exact EvS.geI rfl rfl | (first | exact EvS.pick_t rfl rfl | exact EvS.pick_f rfl rfl))) | (apply TR.ch0 (o := ⟨_, .store _ _ _, _, _, _, _⟩) ; exact rfl; exact rfl; (first | exact Wd.plain rfl | exact Wd.on rfl rfl rfl); exact EvC.storeW rfl rfl (by first | exact rfl | assumption) (by first | exact bArr_one _ | exact rfl | (intro v hv; simp at hv; rcases hv with rfl | rfl | rfl | rfl | rfl | rfl | rfl | rfl <;> rfl)) (by repeat first | exact Upd.head | apply Upd.tail) (by first | exact rfl | assumption); rintro ⟨⟩))
        refine TC.turn (S' := QS m5 (some (gr, .cells #[.slice none 0 0, .int .i64 0, .bool false] 37 (0, 0)) :: some (gp, .cells #[.slice BA p.bounds.length bc, .slice RA p.rules.length rc] 25 (0, 0)) :: some (gs, .cells #[.slice nA F1.sols.length nc, .int .i64 (F1.nodes : Int), .bool false] 37 (0, 0)) :: L) F1.sols (.slice nA F1.sols.length nc)) (fun w h => ⟨m5, e5, Mem.Le.refl _, hrow5, h⟩) ?_
        refine drawS (Sb := StX m5 (some (gr, .cells #[.slice none 0 0, .int .i64 0, .bool false] 37 (0, 0)) :: some (gp, .cells #[.slice BA p.bounds.length bc, .slice RA p.rules.length rc] 25 (0, 0)) :: some (gs, .cells #[.slice nA F1.sols.length nc, .int .i64 (F1.nodes : Int), .bool false] 37 (0, 0)) :: L)) [.st, .st, .st, .st, .ch, .st, .st, .st, .st, .ch] mixed rfl (by kernel_rfl) (fun w h => h.stx) (fun w d h => h.drew d) ?_
        rw [hq1] at hc0
        repeat' (first | (apply D.chx (o := ⟨_, .call _, _, _, _, _⟩); exact rfl; (first | exact Wd.plain rfl | exact Wd.on rfl rfl rfl); exact EvC.callXS rfl rfl (fun w h => hw false m5 hle5 _ _ _ w h); exact inferInstance; exact fun _ _ h => QW.stx h; rintro ⟨B2, bc2⟩) | (apply D.chx (o := ⟨_, .call _, _, _, _, _⟩); exact rfl; (first | exact Wd.plain rfl | exact Wd.on rfl rfl rfl); exact EvC.callXS rfl rfl (fun w h => hc0 m5 hle5 _ _ (B2, bc2) w h); exact inferInstance; exact fun _ _ h => QS.stx h; rintro v2) | (apply D.st1; exact rfl; (first | exact Wd.plain rfl | exact Wd.on rfl rfl rfl); (first | exact EvS.buildV rfl (by kernel_rfl) | exact EvS.move rfl | exact EvS.fieldAddr rfl | (first | (apply EvS.load1; exact rfl; (first | exact Reads.memX (by assumption) | exact Reads.ownX (by repeat first | exact List.Mem.head _ | assumption | apply List.Mem.tail)); (first | assumption | exact nthL_arr rfl | exact rfl)) | (apply EvS.loadW; exact rfl; (first | exact Reads.memX (by assumption) | exact Reads.ownX (by repeat first | exact List.Mem.head _ | assumption | apply List.Mem.tail)); first | exact rfl | assumption) | (apply EvS.loadH; exact rfl; (first | exact Reads.memX (by assumption) | exact Reads.ownX (by repeat first | exact List.Mem.head _ | assumption | apply List.Mem.tail)); assumption; first | exact rfl | assumption)))) | refine D.tail_ ?_)
        refine TR.of_exists (X := { y : Mem × Option (Nat × Obj) // m5.Le y.1 ∧ SRow y.1 v2 (nodeP p most k (pad8 (withB l v te false)) F1).2.sols y.2 }) (S' := fun y => St y.1.1 (y.1.2 :: some (gr, .cells #[.slice none 0 0, .int .i64 0, .bool false] 37 (0, 0)) :: some (gp, .cells #[.slice BA p.bounds.length bc, .slice RA p.rules.length rc] 25 (0, 0)) :: some (gs, .cells #[.slice nA F1.sols.length nc, .int .i64 (F1.nodes : Int), .bool false] 37 (0, 0)) :: L)) (fun w h => by obtain ⟨m6, e6, k1, k2, k3⟩ := h; exact ⟨⟨(m6, e6), k1, k2⟩, k3⟩) ?_
        rintro ⟨⟨m6, e6⟩, hle6, hrow6⟩
        simp only at hle6 hrow6 ⊢
        obtain ⟨_, hor6, _⟩ := id hrow6
        obtain ⟨nA6, nc6, rfl, hnc6⟩ := ownRow_slice hor6
        repeat' (first | refine TR.nil ?_ | refine Post.then_normal ?_ | refine TC.ret ?_ | (apply TR.ch0 (o := ⟨_, .store _ _ _, _, _, _, _⟩) ; exact rfl; exact rfl; (first | exact Wd.plain rfl | exact Wd.on rfl rfl rfl); exact EvC.storeW rfl rfl (by first | exact rfl | assumption) (by first | exact bArr_one _ | exact rfl | (intro v hv; simp at hv; rcases hv with rfl | rfl | rfl | rfl | rfl | rfl | rfl | rfl <;> rfl)) (by repeat first | exact Upd.head | apply Upd.tail) (by first | exact rfl | assumption); rintro ⟨⟩))
        refine Post.body_ret _ (ResL.one rfl (ResV.cellW (n := 3) rfl (Reads.own (by repeat first | exact List.Mem.head _ | apply List.Mem.tail)) rfl)) ?_
        intro w h
        exact ⟨_, rfl, m6, e6, (hle2.trans hle5).trans hle6, hrow6, h.sublist (List.Sublist.cons_cons _ (List.Sublist.cons _ (List.Sublist.cons _ (List.Sublist.cons _ (List.Sublist.refl _)))))⟩
      · have hge : decide ((F1.sols.length : Int) ≥ most) = true := by simpa using hq2
        rw [hgo, if_neg (by simpa using hq2)] at hn
        rw [hn]
        repeat' (first | refine TC.seq ?_ | refine TC.region ?_ | refine TR.nil ?_ | refine Post.then_normal ?_ | refine TC.ret ?_ | (apply TC.cond_bt; exact rfl; assumption) | refine Post.then_ret ?_ | (apply TR.gs_f (o := ⟨_, .move _, _, _, _, _⟩); exact rfl; exact rfl; exact rfl; exact rfl; (first | exact Wd.plain rfl | exact Wd.on rfl rfl rfl); exact EvS.move rfl; (first | exact rfl | assumption)) | (apply TR.st1; exact rfl; exact rfl; exact rfl; (first | exact Wd.plain rfl | exact Wd.on rfl rfl rfl); (first | exact EvS.move rfl | exact EvS.fieldAddr rfl | (first | (apply EvS.load1; exact rfl; (first | exact Reads.mem (by assumption) | exact Reads.own (by repeat first | exact List.Mem.head _ | assumption | apply List.Mem.tail)); (first | assumption | exact nthL_arr rfl | exact rfl)) | (apply EvS.loadW; exact rfl; (first | exact Reads.mem (by assumption) | exact Reads.own (by repeat first | exact List.Mem.head _ | assumption | apply List.Mem.tail)); first | exact rfl | assumption) | (apply EvS.loadH; exact rfl; (first | exact Reads.mem (by assumption) | exact Reads.own (by repeat first | exact List.Mem.head _ | assumption | apply List.Mem.tail)); assumption; first | exact rfl | assumption)) | exact EvS.len rfl | exact EvS.geI rfl rfl | (first | exact EvS.pick_t rfl rfl | exact EvS.pick_f rfl rfl))) | (apply TR.ch0 (o := ⟨_, .store _ _ _, _, _, _, _⟩) ; exact rfl; exact rfl; (first | exact Wd.plain rfl | exact Wd.on rfl rfl rfl); exact EvC.storeW rfl rfl (by first | exact rfl | assumption) (by first | exact bArr_one _ | exact rfl | (intro v hv; simp at hv; rcases hv with rfl | rfl | rfl | rfl | rfl | rfl | rfl | rfl <;> rfl)) (by repeat first | exact Upd.head | apply Upd.tail) (by first | exact rfl | assumption); rintro ⟨⟩))
        refine Post.body_ret _ (ResL.one rfl (ResV.cellW (n := 3) rfl (Reads.own (by repeat first | exact List.Mem.head _ | apply List.Mem.tail)) rfl)) ?_
        intro w h
        exact ⟨_, by simp only [hq1], m5, e5, hle2.trans hle5, hrow5, h.sublist (List.Sublist.cons_cons _ (List.Sublist.cons _ (List.Sublist.cons _ (List.Sublist.cons _ (List.Sublist.refl _)))))⟩
  have hdv : decide ((v : Int) < (p.bounds.length : Int)) = false := by simpa using hvl
  obtain rfl : v = p.bounds.length := by omega
  have hdn : ((p.bounds.length : Int) == (p.bounds.length : Int)) = true := by simp
  have hfi : l.findIdx? (fun x => x.lo != x.can) = none := findIdx_no (fun j y hj hy => by simp [heq j y (by omega) hy])
  refine TC.draw_ [.st, .st, .st, .st, .st, .sk, .sk, .sk, .sk, .sk, .sk, .sk, .sk, .sk, .sk, .sk, .st] mixed rfl (by kernel_rfl) ?_
  repeat' (first | rw [hdv] | (apply D.sk1; exact rfl; (first | exact Wd.off rfl rfl rfl rfl | exact Wd.offU rfl rfl rfl)) | (apply D.st1; exact rfl; (first | exact Wd.plain rfl | exact Wd.on rfl rfl rfl); (first | exact EvS.move rfl | exact EvS.len rfl | exact EvS.ltI rfl rfl | (first | exact EvS.pick_t rfl rfl | exact EvS.pick_f rfl rfl))) | refine D.tail_ ?_)
  repeat' (first | refine TC.seq ?_ | refine TC.region ?_ | refine TR.nil ?_ | refine Post.then_normal ?_ | refine TC.block ?_ | refine TC.exit ?_ | (apply TC.cond_f; exact rfl) | (apply TC.cond_bt; exact rfl; assumption) | refine Post.then_exit ?_ | refine Post.block_here ?_ | (apply TR.st1; exact rfl; exact rfl; exact rfl; (first | exact Wd.plain rfl | exact Wd.on rfl rfl rfl); (first | exact EvS.move rfl | exact EvS.assign rfl | exact EvS.len rfl | (first | exact EvS.eq64 rfl rfl (by first | with_reducible exact U64.var _ | exact U64.lit rfl) (by first | with_reducible exact U64.var _ | exact U64.lit rfl) | exact EvS.eqI rfl rfl | exact EvS.eqB rfl rfl))))
  obtain ⟨css, hcss⟩ : ∃ css, css = u64s (l.map Bd.lo) := ⟨_, rfl⟩
  have hlen : css.length = p.bounds.length := by rw [hcss]; simp [u64s, hln]
  refine TC.turn (fun w h => h.addNone) ?_
  refine TC.loopP (X := Gr) (fun x => x.k ≤ p.bounds.length ∧ OwnRow x.v 46 1 x.k (css.take x.k).flatten x.e)
    (fun x => [(12, .int .i64 (x.k : Int)), (11, x.v), (7, .slice A2 p.bounds.length c2), (6, .pointer (some ⟨gr, 0, none⟩)), (4, .pointer (some ⟨gp, 0, none⟩)), (3, .pointer (some ⟨gs, 0, none⟩)), (2, .int .i64 most)])
    (fun x => St m2 (x.e :: some (gr, .cells #[.slice none 0 0, .int .i64 0, .bool false] 37 (0, 0)) :: some (gp, .cells #[.slice BA p.bounds.length bc, .slice RA p.rules.length rc] 25 (0, 0)) :: some (gs, .cells #[.slice sA o.sols.length sc, .int .i64 (o1.nodes : Int), .bool o.op] 37 (0, 0)) :: e :: L)) (fun x => p.bounds.length - x.k) ⟨0, _, none⟩ ⟨Nat.zero_le _, OwnRow.nil⟩ (incl.lk (by repeat first | exact trivial | refine ⟨rfl, ?_⟩)) (fun w h => h) ?_
  rintro ⟨j, v3, e3⟩ ⟨hj, hrow3⟩
  simp only at hj hrow3 ⊢
  by_cases hlt3 : j < p.bounds.length
  · obtain ⟨y, hy⟩ : ∃ y, l[j]? = some y := ⟨_, List.getElem?_eq_getElem (by omega)⟩
    have hd2 : decide ((j : Int) < (p.bounds.length : Int)) = true := by simpa using hlt3
    obtain ⟨g7, o7, blk7, T7, fr7, hA7, hm7, hc7⟩ := hSl.get (k := j) (cs := bdC y) (by simp [bds, hy])
    have hlo : blk7[o7 + (j : Int).toNat * 2 + 0]? = some (.int .u64 (y.lo.toNat : Int)) := hc7 0 _ rfl
    clear hc7
    have hcs1 : css[j]? = some [.int .u64 (y.lo.toNat : Int)] := by rw [hcss]; simp [u64s, u64v, hy]
    repeat' (first | refine TC.seq ?_ | refine TC.region ?_ | refine TR.nil ?_ | refine Post.then_normal ?_ | refine TC.block ?_ | refine TC.skip ?_ | (apply TC.cond_bt; exact rfl; assumption) | (apply TR.st1; exact rfl; exact rfl; exact rfl; (first | exact Wd.plain rfl | exact Wd.on rfl rfl rfl); (first | exact EvS.move rfl | exact EvS.fieldAddr rfl | (first | (apply EvS.load1; exact rfl; (first | exact Reads.mem (by assumption) | exact Reads.own (by repeat first | exact List.Mem.head _ | assumption | apply List.Mem.tail)); (first | assumption | exact nthL_arr rfl | exact rfl)) | (apply EvS.loadW; exact rfl; (first | exact Reads.mem (by assumption) | exact Reads.own (by repeat first | exact List.Mem.head _ | assumption | apply List.Mem.tail)); first | exact rfl | assumption) | (apply EvS.loadH; exact rfl; (first | exact Reads.mem (by assumption) | exact Reads.own (by repeat first | exact List.Mem.head _ | assumption | apply List.Mem.tail)); assumption; first | exact rfl | assumption)) | exact EvS.len rfl | exact EvS.ltI rfl rfl | (first | exact EvS.indexAddr rfl rfl (by first | exact rfl | assumption) (by omega) | exact EvS.indexAddrA rfl rfl (by omega)))) | (apply TR.ch1 (o := ⟨_, .buildSlice _ _ _, _, _, _, _⟩) ; exact rfl; exact rfl; exact rfl; (first | exact Wd.plain rfl | exact Wd.on rfl rfl rfl); exact EvC.build1 rfl (by exact rfl) (by exact rfl); intro g))
    (apply TR.ch1 (o := ⟨_, .call _, _, _, _, _⟩); exact rfl; exact rfl; exact rfl; (first | exact Wd.plain rfl | exact Wd.on rfl rfl rfl); (apply EvC.append; exact rfl; exact rfl; exact hrow3; exact Rep1.tail (Rep1.head); (apply RdC.whole; (first | exact Reads.mem (by assumption) | exact Reads.own (by repeat first | exact List.Mem.head _ | assumption | apply List.Mem.tail))); exact rfl; exact (by first | exact (fun v hv => by simp at hv; rcases hv with rfl | rfl | rfl | rfl | rfl | rfl | rfl | rfl <;> rfl) | exact (fun v hv => by simp at hv; rcases hv with rfl | rfl | rfl | rfl | rfl | rfl | rfl <;> rfl) | exact (fun v hv => by simp at hv; rcases hv with rfl | rfl | rfl | rfl <;> rfl) | exact (fun v hv => by simp at hv; rcases hv with rfl | rfl <;> rfl) | exact (fun v hv => by simp at hv; subst hv; rfl)); exact rfl; decide; omega; (intro e2; exact Rep1.tail (Rep1.head))); intro p)
    obtain ⟨⟨v4, e4⟩, hrow4⟩ := p
    repeat' (first | refine TC.region ?_ | refine TR.nil ?_ | refine Post.then_normal ?_ | refine Post.block_normal ?_ | (apply TR.st1; exact rfl; exact rfl; exact rfl; (first | exact Wd.plain rfl | exact Wd.on rfl rfl rfl); (first | exact EvS.move rfl | exact EvS.assign rfl | (first | exact EvS.addI rfl rfl (by omega) | exact EvS.add64 rfl rfl (by first | with_reducible exact U64.var _ | exact U64.lit rfl) (by first | with_reducible exact U64.var _ | exact U64.lit rfl)))))
    refine Post.nextP ⟨j + 1, v4, e4⟩ ⟨by simp only; omega, ?_⟩ (incl.lk (by repeat first | exact trivial | refine ⟨rfl, ?_⟩)) (fun w h => h.tail) (by simp only; omega)
    rw [take_snoc hcs1]; exact hrow4
  have hd2 : decide ((j : Int) < (p.bounds.length : Int)) = false := by simpa using hlt3
  obtain rfl : j = p.bounds.length := by omega
  rw [← hlen, List.take_length, hlen] at hrow3
  refine TC.pull (fun w h => (lend h).1) fun hmw => ?_
  refine TC.turn (fun w h => (lend h).2) ?_
  obtain ⟨WA, wc, rfl, _, hWS⟩ := OwnRow.lent (m := m2) hrow3 (by rw [hcss]; intro cs hc; obtain ⟨x, _, rfl⟩ := List.mem_map.1 hc; rfl) hlen (by omega)
  obtain ⟨m4, hm4⟩ : ∃ m4, m4 = memO m2 e3 := ⟨_, rfl⟩
  rw [← hm4] at hmw hWS ⊢
  repeat' (first | refine TC.seq ?_ | refine TC.region ?_ | refine TR.nil ?_ | refine Post.then_normal ?_ | refine TC.exit ?_ | (apply TC.cond_bf; exact rfl; assumption) | refine Post.then_exit ?_ | refine Post.block_here ?_ | (apply TR.st1; exact rfl; exact rfl; exact rfl; (first | exact Wd.plain rfl | exact Wd.on rfl rfl rfl); (first | exact EvS.move rfl | exact EvS.fieldAddr rfl | (first | (apply EvS.load1; exact rfl; (first | exact Reads.mem (by assumption) | exact Reads.own (by repeat first | exact List.Mem.head _ | assumption | apply List.Mem.tail)); (first | assumption | exact nthL_arr rfl | exact rfl)) | (apply EvS.loadW; exact rfl; (first | exact Reads.mem (by assumption) | exact Reads.own (by repeat first | exact List.Mem.head _ | assumption | apply List.Mem.tail)); first | exact rfl | assumption) | (apply EvS.loadH; exact rfl; (first | exact Reads.mem (by assumption) | exact Reads.own (by repeat first | exact List.Mem.head _ | assumption | apply List.Mem.tail)); assumption; first | exact rfl | assumption)) | exact EvS.len rfl | exact EvS.ltI rfl rfl)) | (apply TR.ch1 (o := ⟨_, .buildSlice _ _ _, _, _, _, _⟩) ; exact rfl; exact rfl; exact rfl; (first | exact Wd.plain rfl | exact Wd.on rfl rfl rfl); exact EvC.build1 rfl (by exact rfl) (by exact rfl); intro g))
  (apply TR.ch1 (o := ⟨_, .call _, _, _, _, _⟩); exact rfl; exact rfl; exact rfl; (first | exact Wd.plain rfl | exact Wd.on rfl rfl rfl); (apply EvC.append; exact rfl; exact rfl; exact hsr1; exact Rep1.tail (Rep1.tail (Rep1.tail (Rep1.tail (Rep1.head)))); (apply RdC.whole; (first | exact Reads.mem (by assumption) | exact Reads.own (by repeat first | exact List.Mem.head _ | assumption | apply List.Mem.tail))); exact rfl; exact (by first | exact (fun v hv => by simp at hv; rcases hv with rfl | rfl | rfl | rfl | rfl | rfl | rfl | rfl <;> rfl) | exact (fun v hv => by simp at hv; rcases hv with rfl | rfl | rfl | rfl | rfl | rfl | rfl <;> rfl) | exact (fun v hv => by simp at hv; rcases hv with rfl | rfl | rfl | rfl <;> rfl) | exact (fun v hv => by simp at hv; rcases hv with rfl | rfl <;> rfl) | exact (fun v hv => by simp at hv; subst hv; rfl)); exact rfl; decide; omega; (intro e2; exact Rep1.tail (Rep1.tail (Rep1.tail (Rep1.tail (Rep1.head)))))); intro p)
  obtain ⟨⟨v5, e5⟩, hrow5⟩ := p
  simp only at hrow5 ⊢
  obtain ⟨nA, nc, rfl, hnc⟩ := ownRow_slice hrow5
  repeat' (first | refine TC.seq ?_ | refine TC.region ?_ | refine TR.nil ?_ | refine Post.then_normal ?_ | refine TC.ret ?_ | refine Post.then_ret ?_ | (apply TR.st1; exact rfl; exact rfl; exact rfl; (first | exact Wd.plain rfl | exact Wd.on rfl rfl rfl); (first | exact EvS.fieldAddr rfl | (first | (apply EvS.load1; exact rfl; (first | exact Reads.mem (by assumption) | exact Reads.own (by repeat first | exact List.Mem.head _ | assumption | apply List.Mem.tail)); (first | assumption | exact nthL_arr rfl | exact rfl)) | (apply EvS.loadW; exact rfl; (first | exact Reads.mem (by assumption) | exact Reads.own (by repeat first | exact List.Mem.head _ | assumption | apply List.Mem.tail)); first | exact rfl | assumption) | (apply EvS.loadH; exact rfl; (first | exact Reads.mem (by assumption) | exact Reads.own (by repeat first | exact List.Mem.head _ | assumption | apply List.Mem.tail)); assumption; first | exact rfl | assumption)))) | (apply TR.ch0 (o := ⟨_, .store _ _ _, _, _, _, _⟩) ; exact rfl; exact rfl; (first | exact Wd.plain rfl | exact Wd.on rfl rfl rfl); exact EvC.store1 rfl rfl rfl (by repeat first | exact Upd.head | apply Upd.tail) (by first | assumption | exact Nat.lt_of_sub_eq_succ rfl | (simp; omega) | simp); rintro ⟨⟩) | (apply TR.ch0 (o := ⟨_, .store _ _ _, _, _, _, _⟩) ; exact rfl; exact rfl; (first | exact Wd.plain rfl | exact Wd.on rfl rfl rfl); exact EvC.storeW rfl rfl (by first | exact rfl | assumption) (by first | exact bArr_one _ | exact rfl | (intro v hv; simp at hv; rcases hv with rfl | rfl | rfl | rfl | rfl | rfl | rfl | rfl <;> rfl)) (by repeat first | exact Upd.head | apply Upd.tail) (by first | exact rfl | assumption); rintro ⟨⟩))
  have hll : (l.map Bd.lo).length = p.bounds.length := by rw [List.length_map, hln]
  have hn : nodeP p most (k + 1) (pad8 a) o = (decide (((o1.sols ++ [l.map Bd.lo]).length : Int) < most), { o1 with sols := o1.sols ++ [l.map Bd.lo] }) := by
    unfold nodeP; rw [if_neg h200]; simp only [← hR, ← ho1, ← hl]; rw [if_neg hR2, hfi, ho1]
  rw [hn]
  refine Post.body_ret _ (ResL.one rfl (ResV.cellW (n := 3) rfl (Reads.own (by repeat first | exact List.Mem.head _ | apply List.Mem.tail)) rfl)) ?_
  intro w h
  refine ⟨_, by rw [ho1]; rfl, m4, e5, hle2.trans hmw, ⟨sss ++ [[.slice WA p.bounds.length wc]], ?_, ?_, ?_⟩, h.tail.tail.tail.tail⟩
  · rw [ho1, List.flatten_append, List.length_append, List.length_singleton]
    exact hrow5
  · rw [ho1, List.length_append, List.length_append, hsr2]; rfl
  · intro i t cs hit hics
    rw [ho1] at hit
    simp only at hit
    by_cases hi : i < o.sols.length
    · rw [List.getElem?_append_left hi] at hit
      rw [List.getElem?_append_left (by omega)] at hics
      obtain ⟨W, c, g1, g2⟩ := hsr3 i t cs hit hics
      exact ⟨W, c, g1, g2.mono (hle2.trans hmw)⟩
    · rw [List.getElem?_append_right (by omega)] at hit
      rw [List.getElem?_append_right (by omega), hsr2] at hics
      cases hz : i - o.sols.length with
      | zero =>
        rw [hz] at hit hics
        simp at hit hics
        subst hit hics
        exact ⟨WA, wc, by rw [hll], by rw [← hcss]; exact hWS⟩
      | succ j => rw [hz] at hit; simp at hit
end Go.Proofs.YtgpgjpcebajofaaDoor
