import Derived.Test.YtgpgjpcebajofaaGreatDoorZF
set_option linter.unusedVariables false
set_option linter.unusedSimpArgs false
set_option linter.all false
set_option maxHeartbeats 4000000
set_option linter.unusedVariables false
set_option linter.unusedSimpArgs false
set_option maxRecDepth 100000
namespace Go.Proofs.YtgpgjpcebajofaaGreatDoor
open Go Go.XC Go.RowKit Go.SetsP
attribute [local irreducible] Post TC TR D WL EvS EvC Wd ResL Code.wpIn Exit.then Exit.inBlock Exit.noGoto LoopK LoopP bodyPostM Reads Calls

theorem NS.pack {m m' : Mem} {g : Nat} {Lb : Own} {o : Fo} {w : World} {v : Value} {e : Option (Nat × Obj)} (h1 : m.Le m') (h2 : SRow m' v o.sols e) (h3 : St m' (some (g, .cells #[v, .int .i64 (o.nodes : Int), .bool o.op] 75 (0, 0)) :: e :: Lb) w) : NS m g Lb o w := ⟨m', v, e, h1, h2, h3⟩
theorem NS.le {m m' : Mem} {g : Nat} {Lb : Own} {o : Fo} {w : World} (h : NS m' g Lb o w) (hm : m.Le m') : NS m g Lb o w := let ⟨m2, v, e, h1, h2, h3⟩ := h; ⟨m2, v, e, hm.trans h1, h2, h3⟩

theorem NS.drop {m : Mem} {g : Nat} {x y : Option (Nat × Obj)} {Lb : Own} {o : Fo} {w : World} (h : NS m g (x :: y :: Lb) o w) : NS m g Lb o w :=
  let ⟨m2, v, e, h1, h2, h3⟩ := h; ⟨m2, v, e, h1, h2, h3.sublist (List.Sublist.cons_cons _ (List.Sublist.cons_cons _ (List.Sublist.cons _ (List.Sublist.cons _ (List.Sublist.refl _)))))⟩
theorem NS.call {P : Program} {f : FuncId} {args : Array Value} {x : Value} {m : Mem} {g : Nat} {Lb : Own} {o : Fo} {w : World} (hc : ∀ m L w, St m L w → Calls P f args w fun e w' => e = .returned x ∧ St m L w') (h : NS m g Lb o w) : Calls P f args w fun e w' => e = .returned x ∧ NS m g Lb o w' :=
  let ⟨m2, v, e, h1, h2, h3⟩ := h; (hc _ _ w h3).mono fun r w' ⟨a, b⟩ => ⟨a, m2, v, e, h1, h2, b⟩
theorem NS.stx {m : Mem} {g : Nat} {Lb : Own} {o : Fo} {w : World} (h : NS m g Lb o w) : StX m Lb w := let ⟨m2, v, e, h1, h2, h3⟩ := h; StX.of_le (L' := [_, _]) h1 h3
theorem NS.drew {m : Mem} {g : Nat} {Lb : Own} {o : Fo} {w : World} (h : NS m g Lb o w) (d : Nat) : NS m g Lb o { w with drawn := d } := let ⟨m2, v, e, h1, h2, h3⟩ := h; ⟨m2, v, e, h1, h2, h3.drew d⟩
theorem drawS {r : Option Nat} {P : Program} {N : Nat} {Df : List Deferred} {Q : Exit → Act → World → Prop} {E : Env} {id : Nat} {l : List Oper} {S Sb : World → Prop} (ks : List Kind) (hm : P.follows .mixedOrders = true) (hops : l = (ks.zip l).map Prod.snd ++ l.drop ks.length) (hchk : okDraw N l.toArray (ks.zip l) = true)
    (hSb : ∀ w, S w → Sb w) (hdr : ∀ w d, S w → S { w with drawn := d }) (h : D r P N Df l.toArray (l.drop ks.length) Q Sb (ks.zip l) E S) : TC r P N Df (.region id l.toArray true) E S Q := TC.draw (ks.zip l) (l.drop ks.length) hm hops hchk Sb hSb hdr h
theorem now_sl {m3 : Mem} {gx n : Nat} {pcs : Array Value} {b : List Bd} {fv : Value} {re : Bool} {T : TypeId} (hp : pcs.size = 2) (hb : b.length = 8) (hm : m3.blk gx = some (.cells (xC pcs b fv re) T (0, 0))) : Sl m3 2 (some ⟨gx, 0 + 2, none⟩) (bds (b.take n)) := by
  refine ⟨bds_len _, by rw [bds_length, List.length_take]; omega, fun _ => ⟨gx, 0 + 2, _, _, (0, 0), rfl, hm, fun i cs hi j u hj => ?_⟩⟩
  have h1 : (bds b)[i]? = some cs := by
    rw [bds, List.map_take, List.getElem?_take] at hi
    split at hi
    · exact hi
    · cases hi
  have h2 := flatten_at (bds b) i cs (bds_len _) h1 j u hj
  rw [bds_flatten] at h2
  have h3 := xC_b (pcs := pcs) (b := b) (fv := fv) (re := re) hp (i * 2 + j) u (by simpa [bArr] using h2)
  rw [← h3]; congr 1; omega

theorem node_c (p : Pb) (pcs : Array Value) (hp : okP p) (most : Int) (gout gp gm gn : Nat) : ∀ (k : Nat) (b : List Bd) (o : Fo) (Lb : Own) (m : Mem) (w : World), 201 ≤ k + o.nodes → o.nodes ≤ 200 → o.sols.length ≤ o.nodes → okB b → Cn b → TabM m → PbC m p pcs →
    some (gp, .cells pcs 25 (0, 0)) ∈ Lb → some (gm, .cells #[.int .i64 most] 3 (0, 0)) ∈ Lb → some (gn, .cells #[.func (.func 70) #[] #[.pointer (some ⟨gout, 0, none⟩), .pointer (some ⟨gp, 0, none⟩), .pointer (some ⟨gm, 0, none⟩), .pointer (some ⟨gn, 0, none⟩)]] 103 (0, 0)) ∈ Lb →
    NS m gout Lb o w →
    Calls Tryz.prog 70 #[.agg (bArr b), .pointer (some ⟨gout, 0, none⟩), .pointer (some ⟨gp, 0, none⟩), .pointer (some ⟨gm, 0, none⟩), .pointer (some ⟨gn, 0, none⟩)] w fun x w' =>
      x = .returned (.bool (nodeP p most k b o).1) ∧ NS m gout Lb (nodeP p most k b o).2 w' := by
  intro k
  induction k with
  | zero => intro b o Lb m w h1 h2; omega
  | succ k ih =>
  intro b o Lb m w hfu hn2 hsl hb hcn hT hpc hgp hgm hgn ⟨m1, sv, e, hle1, hrow, hs⟩
  have hbs : (bArr b).size = 16 := by rw [bArr_size, hb.1]
  by_cases h200 : o.nodes = 200
  · have hd : ((o.nodes : Int) == 200) = true := by rw [h200]; rfl
    refine calls_of_TC (args := [_, _, _, _, _]) Tryz.func70 rfl Tryz.ntmps70 (Nat.le_of_ble_eq_true rfl) hs ?_
    repeat' (first | refine TC.seq ?_ | refine TC.region ?_ | refine TR.nil ?_ | refine Post.then_normal ?_ | refine TC.ret ?_ | (apply TC.cond_bt; exact rfl; assumption) | refine Post.then_ret ?_ | (apply TR.st1; exact rfl; exact rfl; exact rfl; (first | exact Wd.plain rfl | exact Wd.on rfl rfl rfl); (first | exact EvS.assign rfl | exact EvS.fieldAddr rfl | (first | (apply EvS.load1; exact rfl; (first | exact Reads.mem (by assumption) | exact Reads.own (by repeat first | exact List.Mem.head _ | assumption | apply List.Mem.tail)); (first | assumption | exact nthL_arr rfl | exact rfl)) | (apply EvS.loadW; exact rfl; (first | exact Reads.mem (by assumption) | exact Reads.own (by repeat first | exact List.Mem.head _ | assumption | apply List.Mem.tail)); first | exact rfl | assumption) | (apply EvS.loadH; exact rfl; (first | exact Reads.mem (by assumption) | exact Reads.own (by repeat first | exact List.Mem.head _ | assumption | apply List.Mem.tail)); assumption; first | exact rfl | assumption)) | (first | exact EvS.eq64 rfl rfl (by first | with_reducible exact U64.var _ | exact U64.lit rfl) (by first | with_reducible exact U64.var _ | exact U64.lit rfl) | exact EvS.eqI rfl rfl | exact EvS.eqB rfl rfl))) | (apply TR.ch1 (o := ⟨_, .box _ _, _, _, _, _⟩) ; exact rfl; exact rfl; exact rfl; (first | exact Wd.plain rfl | exact Wd.on rfl rfl rfl); exact EvC.boxA rfl; intro g) | (apply TR.ch0 (o := ⟨_, .store _ _ _, _, _, _, _⟩) ; exact rfl; exact rfl; (first | exact Wd.plain rfl | exact Wd.on rfl rfl rfl); exact EvC.store1 rfl rfl rfl (by repeat first | exact Upd.head | apply Upd.tail) (by first | assumption | exact Nat.lt_of_sub_eq_succ rfl | (simp; omega) | simp); rintro ⟨⟩))
    refine Post.body_ret _ (ResL.one rfl (ResV.tmp rfl)) ?_
    intro w h
    have hn : nodeP p most (k + 1) b o = (false, { o with op := true }) := by unfold nodeP; rw [if_pos h200]
    rw [hn]
    exact ⟨rfl, NS.pack hle1 hrow h.tail⟩
  have hd : ((o.nodes : Int) == 200) = false := by simp; omega
  have hpc0 := hpc
  obtain ⟨BA, bc, RA, rc, hcs, hBA, hRA⟩ := hpc
  have hpsz : pcs.size = 2 := by rw [hcs]; rfl
  have hb8 := hp.b8
  have hI : Iv ⟨b, []⟩ := ⟨hb, fun x h => (by cases h), (by have := openN_le hb.1; show 0 + openN b ≤ 96; omega)⟩
  have hp0 : pcs[0 + 0]? = some (.slice BA p.bounds.length bc) := by rw [hcs]; rfl
  have hT1 := hT.mono hle1
  have hpc1 := hpc0.mono hle1
  have hbx : (Tryz.prog).built 95 [(0, .agg pcs), (1, .agg (bArr b))] = some (xC pcs b (.slice none 0 0) false) := by rw [hcs]; exact built_x0 _ _ b hb.1
  obtain ⟨o1, ho1⟩ : ∃ o1 : Fo, o1 = { o with nodes := o.nodes + 1 } := ⟨_, rfl⟩
  refine calls_of_TC (args := [_, _, _, _, _]) Tryz.func70 rfl Tryz.ntmps70 (Nat.le_of_ble_eq_true rfl) hs ?_
  repeat' (first | refine TC.seq ?_ | refine TC.region ?_ | refine TR.nil ?_ | refine Post.then_normal ?_ | refine TC.skip ?_ | (apply TC.cond_bf; exact rfl; assumption) | (apply TR.st1; exact rfl; exact rfl; exact rfl; (first | exact Wd.plain rfl | exact Wd.on rfl rfl rfl); (first | exact EvS.buildC rfl hbx | exact EvS.move rfl | exact EvS.assign rfl | exact EvS.fieldAddr rfl | (first | (apply EvS.load1; exact rfl; (first | exact Reads.mem (by assumption) | exact Reads.own (by repeat first | exact List.Mem.head _ | assumption | apply List.Mem.tail)); (first | assumption | exact nthL_arr rfl | exact rfl)) | (apply EvS.loadW; exact rfl; (first | exact Reads.mem (by assumption) | exact Reads.own (by repeat first | exact List.Mem.head _ | assumption | apply List.Mem.tail)); first | exact rfl | assumption) | (apply EvS.loadH; exact rfl; (first | exact Reads.mem (by assumption) | exact Reads.own (by repeat first | exact List.Mem.head _ | assumption | apply List.Mem.tail)); assumption; first | exact rfl | assumption)) | (first | exact EvS.eq64 rfl rfl (by first | with_reducible exact U64.var _ | exact U64.lit rfl) (by first | with_reducible exact U64.var _ | exact U64.lit rfl) | exact EvS.eqI rfl rfl | exact EvS.eqB rfl rfl) | (first | exact EvS.addI rfl rfl (by omega) | exact EvS.add64 rfl rfl (by first | with_reducible exact U64.var _ | exact U64.lit rfl) (by first | with_reducible exact U64.var _ | exact U64.lit rfl)))) | (apply TR.ch1 (o := ⟨_, .box _ _, _, _, _, _⟩) ; exact rfl; exact rfl; exact rfl; (first | exact Wd.plain rfl | exact Wd.on rfl rfl rfl); exact EvC.boxA rfl; intro g) | (apply TR.ch0 (o := ⟨_, .store _ _ _, _, _, _, _⟩) ; exact rfl; exact rfl; (first | exact Wd.plain rfl | exact Wd.on rfl rfl rfl); exact EvC.store1 rfl rfl rfl (by repeat first | exact Upd.head | apply Upd.tail) (by first | assumption | exact Nat.lt_of_sub_eq_succ rfl | (simp; omega) | simp); rintro ⟨⟩))
  rename_i g5
  obtain ⟨gx, hgx⟩ : ∃ x, x = g := ⟨_, rfl⟩
  subst hgx
  refine TR.turn (fun w h => (show St m1 (some (gx, .cells (xC pcs b (.slice none 0 0) false) 95 (0, 0)) :: none :: some (g5, .cells (bArr b) 89 (0, 0)) :: some (gout, .cells #[sv, .int .i64 (o1.nodes : Int), .bool o1.op] 75 (0, 0)) :: e :: Lb) w by rw [ho1]; exact h.addNone.perm (List.Perm.swap _ _ _))) ?_
  obtain ⟨R, hR⟩ : ∃ R, R = runF p false ⟨b, []⟩ := ⟨_, rfl⟩
  have hRI : Iv R.1 := by rw [hR]; exact runF_ok hp hI
  have hRb := hRI.b.1
  have hRc : Cn R.1.b := by rw [hR]; exact Cn.runP hp 98 _ hI hcn
  have hrun := fun (w : World) (L : Own) (hs : St m1 (xO gx pcs b (.slice none 0 0) false :: none :: L) w) => run_c p pcs hp ⟨b, []⟩ false (.slice none 0 0) none gx hI m1 hT1 hpc1 FRow.nil L w hs
  rw [← hR] at hrun
  by_cases hR2 : R.2 ≥ 0
  · have hdR : decide (R.2 ≥ 0) = true := by simpa using hR2
    have hn : nodeP p most (k + 1) b o = (true, o1) := by unfold nodeP; rw [if_neg h200]; simp only [← hR, ← ho1]; rw [if_pos hR2]
    repeat' (first | (apply TR.ch1 (o := ⟨_, .call _, _, _, _, _⟩); exact rfl; exact rfl; exact rfl; (first | exact Wd.plain rfl | exact Wd.on rfl rfl rfl); exact EvC.callX rfl rfl (fun w hs => hrun w _ hs); rintro ⟨⟨m2, v2, e2⟩, hle2, hrow2⟩) | refine TC.seq ?_ | refine TC.region ?_ | refine TR.nil ?_ | refine Post.then_normal ?_ | refine TC.ret ?_ | (apply TC.cond_bt; exact rfl; assumption) | refine Post.then_ret ?_ | (apply TR.st1; exact rfl; exact rfl; exact rfl; (first | exact Wd.plain rfl | exact Wd.on rfl rfl rfl); (first | exact EvS.assign rfl | exact EvS.geI rfl rfl)))
    refine Post.body_ret _ (ResL.one rfl (ResV.tmp rfl)) ?_
    intro w h
    rw [hn]
    exact ⟨rfl, NS.pack (hle1.trans hle2) (by rw [ho1]; exact hrow.mono hle2) h.tail.tail.tail⟩
  have hdR : decide (R.2 ≥ 0) = false := by simpa using hR2
  repeat' (first | (apply TR.ch1 (o := ⟨_, .call _, _, _, _, _⟩); exact rfl; exact rfl; exact rfl; (first | exact Wd.plain rfl | exact Wd.on rfl rfl rfl); exact EvC.callX rfl rfl (fun w hs => hrun w _ hs); rintro ⟨⟨m2, v2, e2⟩, hle2, hrow2⟩) | refine TC.seq ?_ | refine TR.nil ?_ | refine Post.then_normal ?_ | refine TC.skip ?_ | (apply TC.cond_bf; exact rfl; assumption) | (apply TR.st1 (o := ⟨_, .binOp .geq _ _ _ _, _, _, _, _⟩); exact rfl; exact rfl; exact rfl; (first | exact Wd.plain rfl | exact Wd.on rfl rfl rfl); exact EvS.geI rfl rfl))
  simp only at hle2 hrow2 ⊢
  refine TC.pull (fun w h => (lend h).1) fun hle3 => ?_
  refine TC.turn (fun w h => (lend h).2) ?_
  have hmx : (memO m2 (xO gx pcs R.1.b v2 false)).blk gx = some (.cells (xC pcs R.1.b v2 false) 95 (0, 0)) := Mem.put_same _ _ _
  obtain ⟨m3, hm3⟩ : ∃ m3, m3 = memO m2 (xO gx pcs R.1.b v2 false) := ⟨_, rfl⟩
  rw [← hm3] at hle3 hmx ⊢
  have hm13 := hle2.trans hle3
  have hSl := now_sl (n := p.bounds.length) hpsz hRb hmx
  have htl : (R.1.b.take p.bounds.length).length = p.bounds.length := bds_take_le _ _ (by omega)
  obtain ⟨l, hl⟩ : ∃ l, l = R.1.b.take p.bounds.length := ⟨_, rfl⟩
  rw [← hl] at hSl htl
  have hxb3 := xC_b (pcs := pcs) (b := R.1.b) (fv := v2) (re := false) hpsz
  have hbs3 : (bArr R.1.b).size = 16 := by rw [bArr_size, hRb]
  have hix := fun (w : World) (L : Own) (hs : St m3 L w) => indexBd_c 72 #[] (fun x => x.lo != x.can) (some ⟨gx, 0 + 2, none⟩) 8 l m3 L w hs hSl (fun x _ w hs => searched11_c x _ _ w hs)
  rw [htl] at hix
  refine TC.draw_ [.st, .st, .st, .st, .st, .st, .st] mixed rfl (by kernel_rfl) ?_
  repeat' (first | (apply D.st1; exact rfl; (first | exact Wd.plain rfl | exact Wd.on rfl rfl rfl); (first | (first | exact EvS.sliceAhi rfl rfl (by omega) | exact EvS.sliceA rfl) | exact EvS.move rfl | exact EvS.fieldAddr rfl | (first | (apply EvS.load1; exact rfl; (first | exact Reads.memX (by assumption) | exact Reads.ownX (by repeat first | exact List.Mem.head _ | assumption | apply List.Mem.tail)); (first | assumption | exact nthL_arr rfl | exact rfl)) | (apply EvS.loadW; exact rfl; (first | exact Reads.memX (by assumption) | exact Reads.ownX (by repeat first | exact List.Mem.head _ | assumption | apply List.Mem.tail)); first | exact rfl | assumption) | (apply EvS.loadH; exact rfl; (first | exact Reads.memX (by assumption) | exact Reads.ownX (by repeat first | exact List.Mem.head _ | assumption | apply List.Mem.tail)); assumption; first | exact rfl | assumption)) | exact EvS.len rfl | exact EvS.nilCheck rfl)) | refine D.tail_ ?_)
  cases hfi : l.findIdx? (fun x => x.lo != x.can) with
  | none =>
    have hidx : idx (fun (x : Bd) => x.lo != x.can) l = -1 := by unfold idx; rw [hfi]
    rw [hidx] at hix
    repeat' (first | (apply TR.ch1 (o := ⟨_, .call _, _, _, _, _⟩); exact rfl; exact rfl; exact rfl; (first | exact Wd.plain rfl | exact Wd.on rfl rfl rfl); exact EvC.callV rfl rfl (fun w hs => hix w _ hs); rintro ⟨⟩) | refine TC.seq ?_ | refine TC.region ?_ | refine TR.nil ?_ | refine Post.then_normal ?_ | refine TC.block ?_ | (apply TC.cond_t; exact rfl) | (apply TR.st1; exact rfl; exact rfl; exact rfl; (first | exact Wd.plain rfl | exact Wd.on rfl rfl rfl); (first | exact EvS.move rfl | exact EvS.assign rfl | exact EvS.len rfl | exact EvS.ltI rfl rfl)))
    obtain ⟨css, hcss⟩ : ∃ css, css = u64s (l.map Bd.lo) := ⟨_, rfl⟩
    have hlen : css.length = p.bounds.length := by rw [hcss]; simp [u64s, htl]
    refine TC.turn (fun w h => h.addNone) ?_
    refine TC.loopP (X := Gr) (fun x => x.k ≤ p.bounds.length ∧ OwnRow x.v 39 1 x.k (css.take x.k).flatten x.e)
      (fun x => [(42, .int .i64 (x.k : Int)), (41, .int .i64 (p.bounds.length : Int)), (40, .slice (some ⟨gx, 0 + 2, none⟩) p.bounds.length 8), (10, x.v), (1, .pointer (some ⟨gout, 0, none⟩)), (3, .pointer (some ⟨gm, 0, none⟩))])
      (fun x => St m3 (x.e :: e2 :: some (g5, .cells (bArr b) 89 (0, 0)) :: some (gout, .cells #[sv, .int .i64 (o1.nodes : Int), .bool o1.op] 75 (0, 0)) :: e :: Lb)) (fun x => p.bounds.length - x.k) ⟨0, _, none⟩ ⟨Nat.zero_le _, OwnRow.nil⟩ (incl.lk (by repeat first | exact trivial | refine ⟨rfl, ?_⟩)) (fun w h => h) ?_
    rintro ⟨j, v3, e3⟩ ⟨hj, hrow3⟩
    simp only at hj hrow3 ⊢
    by_cases hlt : j < p.bounds.length
    · obtain ⟨y, hy⟩ : ∃ y, l[j]? = some y := ⟨_, List.getElem?_eq_getElem (by omega)⟩
      have hd2 : decide ((j : Int) < (p.bounds.length : Int)) = true := by simpa using hlt
      obtain ⟨gg, oo, blk, T, fr, hAe, hmm, hc⟩ := hSl.get (k := j) (cs := bdC y) (by simp [bds, hy])
      obtain ⟨rfl, rfl⟩ : gx = gg ∧ 0 + 2 = oo := by injection hAe with hAe; injection hAe with h1 h2 _; exact ⟨h1, h2⟩
      replace hc : CellsAt blk (0 + 2 + (j : Int).toNat * 2) #[.int .u64 (y.lo.toNat : Int), .int .u64 (y.can.toNat : Int)] := hc
      have hcs1 : css[j]? = some [.int .u64 (y.lo.toNat : Int)] := by rw [hcss]; simp [u64s, u64v, hy]
      repeat' (first | refine TC.seq ?_ | refine TC.region ?_ | refine TR.nil ?_ | refine Post.then_normal ?_ | refine TC.block ?_ | refine TC.skip ?_ | (apply TC.cond_bt; exact rfl; assumption) | (apply TR.st1; exact rfl; exact rfl; exact rfl; (first | exact Wd.plain rfl | exact Wd.on rfl rfl rfl); (first | exact EvS.move rfl | exact EvS.fieldAddr rfl | (first | (apply EvS.load1; exact rfl; (first | exact Reads.mem (by assumption) | exact Reads.own (by repeat first | exact List.Mem.head _ | assumption | apply List.Mem.tail)); (first | assumption | exact nthL_arr rfl | exact rfl)) | (apply EvS.loadW; exact rfl; (first | exact Reads.mem (by assumption) | exact Reads.own (by repeat first | exact List.Mem.head _ | assumption | apply List.Mem.tail)); first | exact rfl | assumption) | (apply EvS.loadH; exact rfl; (first | exact Reads.mem (by assumption) | exact Reads.own (by repeat first | exact List.Mem.head _ | assumption | apply List.Mem.tail)); assumption; first | exact rfl | assumption)) | exact EvS.ltI rfl rfl | (first | exact EvS.indexAddr rfl rfl (by first | exact rfl | assumption) (by omega) | exact EvS.indexAddrA rfl rfl (by omega)))) | (apply TR.ch1 (o := ⟨_, .alloc _, _, _, _, _⟩) ; exact rfl; exact rfl; exact rfl; (first | exact Wd.plain rfl | exact Wd.on rfl rfl rfl); exact EvC.alloc; intro g) | (apply TR.ch0 (o := ⟨_, .store _ _ _, _, _, _, _⟩) ; exact rfl; exact rfl; (first | exact Wd.plain rfl | exact Wd.on rfl rfl rfl); exact EvC.storeW rfl rfl (by first | exact rfl | assumption) (by first | exact bArr_one _ | exact rfl | (intro v hv; simp at hv; rcases hv with rfl | rfl | rfl | rfl | rfl | rfl | rfl | rfl <;> rfl)) (by repeat first | exact Upd.head | apply Upd.tail) (by first | exact rfl | assumption); rintro ⟨⟩) | (apply TR.ch1 (o := ⟨_, .buildSlice _ _ _, _, _, _, _⟩) ; exact rfl; exact rfl; exact rfl; (first | exact Wd.plain rfl | exact Wd.on rfl rfl rfl); exact EvC.build1 rfl (by exact rfl) (by exact rfl); intro g))
      (apply TR.ch1 (o := ⟨_, .call _, _, _, _, _⟩); exact rfl; exact rfl; exact rfl; (first | exact Wd.plain rfl | exact Wd.on rfl rfl rfl); (apply EvC.append; exact rfl; exact rfl; exact hrow3; exact Rep1.tail (Rep1.tail (Rep1.head)); (apply RdC.whole; (first | exact Reads.mem (by assumption) | exact Reads.own (by repeat first | exact List.Mem.head _ | assumption | apply List.Mem.tail))); exact rfl; exact (by first | exact (fun v hv => by simp at hv; rcases hv with rfl | rfl | rfl | rfl | rfl | rfl | rfl | rfl <;> rfl) | exact (fun v hv => by simp at hv; rcases hv with rfl | rfl | rfl | rfl | rfl | rfl | rfl <;> rfl) | exact (fun v hv => by simp at hv; rcases hv with rfl | rfl | rfl | rfl <;> rfl) | exact (fun v hv => by simp at hv; rcases hv with rfl | rfl <;> rfl) | exact (fun v hv => by simp at hv; subst hv; rfl)); exact rfl; decide; omega; (intro e2; exact Rep1.tail (Rep1.tail (Rep1.head)))); intro p)
      obtain ⟨⟨v4, e4⟩, hrow4⟩ := p
      repeat' (first | refine TC.region ?_ | refine TR.nil ?_ | refine Post.then_normal ?_ | refine Post.block_normal ?_ | (apply TR.st1; exact rfl; exact rfl; exact rfl; (first | exact Wd.plain rfl | exact Wd.on rfl rfl rfl); (first | exact EvS.move rfl | exact EvS.assign rfl | (first | exact EvS.addI rfl rfl (by omega) | exact EvS.add64 rfl rfl (by first | with_reducible exact U64.var _ | exact U64.lit rfl) (by first | with_reducible exact U64.var _ | exact U64.lit rfl)))))
      refine Post.nextP ⟨j + 1, v4, e4⟩ ⟨by simp only; omega, ?_⟩ (incl.lk (by repeat first | exact trivial | refine ⟨rfl, ?_⟩)) (fun w h => ?_) (by simp only; omega)
      · rw [take_snoc hcs1]; exact hrow4
      · exact h.tail.tail
    · have hd2 : decide ((j : Int) < (p.bounds.length : Int)) = false := by simpa using hlt
      obtain rfl : j = p.bounds.length := by omega
      rw [← hlen, List.take_length, hlen] at hrow3
      refine TC.pull (fun w h => (lend h).1) fun hmw => ?_
      refine TC.turn (fun w h => (lend h).2) ?_
      obtain ⟨WA, wc, rfl, _, hWS⟩ := OwnRow.lent (m := m3) hrow3 (by rw [hcss]; intro cs hc; obtain ⟨x, _, rfl⟩ := List.mem_map.1 hc; rfl) hlen (by omega)
      obtain ⟨m4, hm4⟩ : ∃ m4, m4 = memO m3 e3 := ⟨_, rfl⟩
      rw [← hm4] at hmw hWS ⊢
      obtain ⟨sss, hsr1, hsr2, hsr3⟩ := hrow
      obtain ⟨sA, sc, rfl, hsc⟩ := ownRow_slice hsr1
      repeat' (first | refine TC.seq ?_ | refine TC.region ?_ | refine TR.nil ?_ | refine Post.then_normal ?_ | refine TC.exit ?_ | (apply TC.cond_bf; exact rfl; assumption) | refine Post.then_exit ?_ | refine Post.block_here ?_ | (apply TR.st1; exact rfl; exact rfl; exact rfl; (first | exact Wd.plain rfl | exact Wd.on rfl rfl rfl); (first | exact EvS.move rfl | exact EvS.fieldAddr rfl | (first | (apply EvS.load1; exact rfl; (first | exact Reads.mem (by assumption) | exact Reads.own (by repeat first | exact List.Mem.head _ | assumption | apply List.Mem.tail)); (first | assumption | exact nthL_arr rfl | exact rfl)) | (apply EvS.loadW; exact rfl; (first | exact Reads.mem (by assumption) | exact Reads.own (by repeat first | exact List.Mem.head _ | assumption | apply List.Mem.tail)); first | exact rfl | assumption) | (apply EvS.loadH; exact rfl; (first | exact Reads.mem (by assumption) | exact Reads.own (by repeat first | exact List.Mem.head _ | assumption | apply List.Mem.tail)); assumption; first | exact rfl | assumption)) | exact EvS.ltI rfl rfl)) | (apply TR.ch1 (o := ⟨_, .buildSlice _ _ _, _, _, _, _⟩) ; exact rfl; exact rfl; exact rfl; (first | exact Wd.plain rfl | exact Wd.on rfl rfl rfl); exact EvC.build1 rfl (by exact rfl) (by exact rfl); intro g))
      (apply TR.ch1 (o := ⟨_, .call _, _, _, _, _⟩); exact rfl; exact rfl; exact rfl; (first | exact Wd.plain rfl | exact Wd.on rfl rfl rfl); (apply EvC.append; exact rfl; exact rfl; exact hsr1; exact Rep1.tail (Rep1.tail (Rep1.tail (Rep1.tail (Rep1.head)))); (apply RdC.whole; (first | exact Reads.mem (by assumption) | exact Reads.own (by repeat first | exact List.Mem.head _ | assumption | apply List.Mem.tail))); exact rfl; exact (by first | exact (fun v hv => by simp at hv; rcases hv with rfl | rfl | rfl | rfl | rfl | rfl | rfl | rfl <;> rfl) | exact (fun v hv => by simp at hv; rcases hv with rfl | rfl | rfl | rfl | rfl | rfl | rfl <;> rfl) | exact (fun v hv => by simp at hv; rcases hv with rfl | rfl | rfl | rfl <;> rfl) | exact (fun v hv => by simp at hv; rcases hv with rfl | rfl <;> rfl) | exact (fun v hv => by simp at hv; subst hv; rfl)); exact rfl; decide; omega; (intro e2; exact Rep1.tail (Rep1.tail (Rep1.tail (Rep1.tail (Rep1.head)))))); intro p)
      obtain ⟨⟨v5, e5⟩, hrow5⟩ := p
      simp only at hrow5 ⊢
      obtain ⟨nA, nc, rfl, hnc⟩ := ownRow_slice hrow5
      repeat' (first | refine TC.seq ?_ | refine TC.region ?_ | refine TR.nil ?_ | refine Post.then_normal ?_ | refine TC.ret ?_ | refine Post.then_ret ?_ | (apply TR.st1; exact rfl; exact rfl; exact rfl; (first | exact Wd.plain rfl | exact Wd.on rfl rfl rfl); (first | exact EvS.assign rfl | exact EvS.fieldAddr rfl | (first | (apply EvS.load1; exact rfl; (first | exact Reads.mem (by assumption) | exact Reads.own (by repeat first | exact List.Mem.head _ | assumption | apply List.Mem.tail)); (first | assumption | exact nthL_arr rfl | exact rfl)) | (apply EvS.loadW; exact rfl; (first | exact Reads.mem (by assumption) | exact Reads.own (by repeat first | exact List.Mem.head _ | assumption | apply List.Mem.tail)); first | exact rfl | assumption) | (apply EvS.loadH; exact rfl; (first | exact Reads.mem (by assumption) | exact Reads.own (by repeat first | exact List.Mem.head _ | assumption | apply List.Mem.tail)); assumption; first | exact rfl | assumption)) | exact EvS.len rfl | exact EvS.ltI rfl rfl)) | (apply TR.ch0 (o := ⟨_, .store _ _ _, _, _, _, _⟩) ; exact rfl; exact rfl; (first | exact Wd.plain rfl | exact Wd.on rfl rfl rfl); exact EvC.store1 rfl rfl rfl (by repeat first | exact Upd.head | apply Upd.tail) (by first | assumption | exact Nat.lt_of_sub_eq_succ rfl | (simp; omega) | simp); rintro ⟨⟩))
      have hll : (l.map Bd.lo).length = p.bounds.length := by rw [List.length_map, htl]
      have hn : nodeP p most (k + 1) b o = (decide (((o1.sols ++ [l.map Bd.lo]).length : Int) < most), { o1 with sols := o1.sols ++ [l.map Bd.lo] }) := by
        unfold nodeP; rw [if_neg h200]; simp only [← hR, ← ho1, ← hl]; rw [if_neg hR2, hfi, ho1]
      refine Post.body_ret _ (ResL.one rfl (ResV.tmp rfl)) ?_
      intro w h
      rw [hn]
      refine ⟨by rw [List.length_append, List.length_singleton, ho1], ?_⟩
      refine NS.pack (v := .slice nA (o.sols.length + 1) nc) (e := e5) ((hle1.trans hm13).trans hmw) ⟨sss ++ [[.slice WA p.bounds.length wc]], ?_, ?_, ?_⟩ ?_
      · rw [ho1, List.flatten_append, List.length_append, List.length_singleton]
        exact hrow5
      · rw [ho1, List.length_append, List.length_append, hsr2]; rfl
      · intro i t cs hit hics
        rw [ho1] at hit
        simp only at hit
        by_cases hi : i < o.sols.length
        · rw [List.getElem?_append_left hi] at hit
          rw [List.getElem?_append_left (by omega)] at hics
          obtain ⟨W, c, g1, g2⟩ := hsr3 i t cs hit hics
          exact ⟨W, c, g1, g2.mono (hm13.trans hmw)⟩
        · rw [List.getElem?_append_right (by omega)] at hit
          rw [List.getElem?_append_right (by omega), hsr2] at hics
          cases hz : i - o.sols.length with
          | zero =>
            rw [hz] at hit hics
            simp at hit hics
            subst hit hics
            exact ⟨WA, wc, by rw [hll], by rw [← hcss]; exact hWS⟩
          | succ j => rw [hz] at hit; simp at hit
      · exact h.tail.tail.tail
  | some v =>
    have hidx : idx (fun (x : Bd) => x.lo != x.can) l = (v : Int) := by unfold idx; rw [hfi]
    have hdv : decide ((v : Int) < 0) = false := by simp
    rw [hidx] at hix
    repeat' (first | (apply TR.ch1 (o := ⟨_, .call _, _, _, _, _⟩); exact rfl; exact rfl; exact rfl; (first | exact Wd.plain rfl | exact Wd.on rfl rfl rfl); exact EvC.callV rfl rfl (fun w hs => hix w _ hs); rintro ⟨⟩) | refine TC.seq ?_ | refine TC.region ?_ | refine TR.nil ?_ | refine Post.then_normal ?_ | refine TC.skip ?_ | (apply TC.cond_f; exact rfl) | (apply TR.st1; exact rfl; exact rfl; exact rfl; (first | exact Wd.plain rfl | exact Wd.on rfl rfl rfl); (first | exact EvS.move rfl | exact EvS.assign rfl | exact EvS.ltI rfl rfl)))
    obtain ⟨hvl, hvp, _⟩ := List.findIdx?_eq_some_iff_getElem.1 hfi
    obtain ⟨x, hx⟩ : ∃ x, l[v]? = some x := ⟨_, List.getElem?_eq_getElem hvl⟩
    have hxe : l[v] = x := by rw [List.getElem?_eq_getElem hvl] at hx; injection hx
    have hxne : x.lo ≠ x.can := by rw [← hxe]; simpa using hvp
    have hv8 : v < 8 := by omega
    have hxb : R.1.b[v]? = some x := by
      rw [hl, List.getElem?_take] at hx
      split at hx
      · exact hx
      · cases hx
    have hxm : x ∈ R.1.b := List.mem_of_getElem? hxb
    have hxn : nth R.1.b (v : Int) = x := by unfold nth; rw [Int.toNat_natCast, List.getD_eq_getElem?_getD, hxb]; rfl
    have hxD : l.getD v default = x := by rw [List.getD_eq_getElem?_getD, hx]; rfl
    have hxs : small (openB x) := small_openB (hRI.b.2 x hxm).2
    have hx0 : openB x ≠ 0#64 := cn_ne (hRc x hxm) hxne
    have htz : tz (openB x) < 12 ∧ has (openB x) (tz (openB x)) = true := elems_lt hxs (by rw [(elems_step hxs hx0).1]; exact List.mem_cons_self)
    obtain ⟨te, hte⟩ : ∃ te, te = tz (openB x) := ⟨_, rfl⟩
    have hte12 : te < 12 := by rw [hte]; exact htz.1
    have hvI : 0 ≤ (v : Int) ∧ (v : Int) < 8 := by omega
    have hopen : has (openB (nth R.1.b (v : Int))) te = true := by rw [hxn, hte]; exact htz.2
    obtain ⟨b1, hb1⟩ : ∃ b1, b1 = withB R.1.b v te true := ⟨_, rfl⟩
    obtain ⟨b0, hb0⟩ : ∃ b0, b0 = withB R.1.b v te false := ⟨_, rfl⟩
    have hb1o : okB b1 := by rw [hb1]; exact okB_with hRI.b hvI hte12 true
    have hb0o : okB b0 := by rw [hb0]; exact okB_with hRI.b hvI hte12 false
    have hb1c : Cn b1 := by rw [hb1]; exact hRc.with hRb hvI (by omega) true hopen
    have hb0c : Cn b0 := by rw [hb0]; exact hRc.with hRb hvI (by omega) false hopen
    have hn : nodeP p most (k + 1) b o = if (nodeP p most k b1 o1).1 then nodeP p most k b0 (nodeP p most k b1 o1).2 else (false, (nodeP p most k b1 o1).2) := by
      conv => lhs; unfold nodeP
      rw [if_neg h200]; simp only [← hR, ← ho1, ← hl]; rw [if_neg hR2, hfi]; simp only [hxD, ← hte, ← hb1, ← hb0]
    obtain ⟨gg, oo, blk, T, fr, hAe, hmm, hc⟩ := hSl.get (k := v) (cs := bdC x) (by simp [bds, hx])
    obtain ⟨rfl, rfl⟩ : gx = gg ∧ 0 + 2 = oo := by injection hAe with hAe; injection hAe with h1 h2 _; exact ⟨h1, h2⟩
    have hlo : blk[0 + 2 + (v : Int).toNat * 2 + 0]? = some (.int .u64 (x.lo.toNat : Int)) := hc 0 _ rfl
    have hca : blk[0 + 2 + (v : Int).toNat * 2 + 1]? = some (.int .u64 (x.can.toNat : Int)) := hc 1 _ rfl
    clear hc
    have hT3 := hT1.mono hm13
    have htc := fun (w : World) (L : Own) (hs : St m3 L w) => tz_c (openB x) hxs hx0 m3 hT3 L w hs
    rw [← hte] at htc
    unfold u64v at htc
    refine TC.draw_ [.st, .st, .st, .st, .st, .st, .st, .st, .st, .st, .st, .ch] mixed rfl (by kernel_rfl) ?_
    repeat' (first | (apply D.chx (o := ⟨_, .call _, _, _, _, _⟩); exact rfl; (first | exact Wd.plain rfl | exact Wd.on rfl rfl rfl); exact EvC.callV rfl rfl (fun w hs => htc w _ hs); exact inferInstance; exact (by first | exact fun _ _ h => StX.of0 h | exact fun _ _ h => StX.of1 h | exact fun _ _ h => StX.of2 h | exact fun _ _ h => StX.of3 h | exact fun _ _ h => StX.of h); rintro ⟨⟩) | (apply D.st1; exact rfl; (first | exact Wd.plain rfl | exact Wd.on rfl rfl rfl); (first | exact EvS.move rfl | exact EvS.fieldAddr rfl | (first | (apply EvS.load1; exact rfl; (first | exact Reads.memX (by assumption) | exact Reads.ownX (by repeat first | exact List.Mem.head _ | assumption | apply List.Mem.tail)); (first | assumption | exact nthL_arr rfl | exact rfl)) | (apply EvS.loadW; exact rfl; (first | exact Reads.memX (by assumption) | exact Reads.ownX (by repeat first | exact List.Mem.head _ | assumption | apply List.Mem.tail)); first | exact rfl | assumption) | (apply EvS.loadH; exact rfl; (first | exact Reads.memX (by assumption) | exact Reads.ownX (by repeat first | exact List.Mem.head _ | assumption | apply List.Mem.tail)); assumption; first | exact rfl | assumption)) | exact EvS.andNot64 rfl rfl (by first | with_reducible exact U64.var _ | exact U64.lit rfl) (by first | with_reducible exact U64.var _ | exact U64.lit rfl) | (first | exact EvS.indexAddr rfl rfl (by first | exact rfl | assumption) (by omega) | exact EvS.indexAddrA rfl rfl (by omega)))) | refine D.tail_ ?_)
    clear hmm
    repeat' (first | refine TC.seq ?_ | refine TR.nil ?_ | refine Post.then_normal ?_ | (apply TR.st1 (o := ⟨_, .assign _, _, _, _, _⟩); exact rfl; exact rfl; exact rfl; (first | exact Wd.plain rfl | exact Wd.on rfl rfl rfl); exact EvS.assign rfl))
    obtain ⟨n1, n2, n3⟩ := nodeP_nodes (p := p) (most := most) k b1 o1 (by rw [ho1]; simp only; omega) (by rw [ho1]; simp only; omega)
    have hfu1 : 201 ≤ k + o1.nodes := by rw [ho1]; simp only; omega
    have hn1 : o1.nodes ≤ 200 := by rw [ho1]; simp only; omega
    have hs1 : o1.sols.length ≤ o1.nodes := by rw [ho1]; simp only; omega
    have hpc3 := hpc1.mono hm13
    have hcall1 := fun (w : World) (h : NS m3 gout (e2 :: some (g5, .cells (bArr b) 89 (0, 0)) :: Lb) o1 w) => ih b1 o1 _ m3 w hfu1 hn1 hs1 hb1o hb1c hT3 hpc3 (List.Mem.tail _ (List.Mem.tail _ hgp)) (List.Mem.tail _ (List.Mem.tail _ hgm)) (List.Mem.tail _ (List.Mem.tail _ hgn)) h
    have hcall0 := fun (w : World) (h : NS m3 gout (e2 :: some (g5, .cells (bArr b) 89 (0, 0)) :: Lb) (nodeP p most k b1 o1).2 w) => ih b0 (nodeP p most k b1 o1).2 _ m3 w (by omega) n2 n3 hb0o hb0c hT3 hpc3 (List.Mem.tail _ (List.Mem.tail _ hgp)) (List.Mem.tail _ (List.Mem.tail _ hgm)) (List.Mem.tail _ (List.Mem.tail _ hgn)) h
    have hw1 := fun (w : World) (m : Mem) (L : Own) (hs : St m L w) => with_c R.1.b (v : Int) (te : Int) true hRb hvI (by omega) m L w hs
    have hw0 := fun (w : World) (m : Mem) (L : Own) (hs : St m L w) => with_c R.1.b (v : Int) (te : Int) false hRb hvI (by omega) m L w hs
    rw [Int.toNat_natCast, ← hb1] at hw1
    rw [Int.toNat_natCast, ← hb0] at hw0
    refine TC.turn (S' := NS m3 gout (e2 :: some (g5, .cells (bArr b) 89 (0, 0)) :: Lb) o1) (fun w h => NS.pack (Mem.Le.refl _) (by rw [ho1]; exact hrow.mono hm13) (h.perm (List.perm_append_comm_assoc [_, _] [_, _] Lb))) ?_
    cases ha : (nodeP p most k b1 o1).1 with
    | true =>
      rw [ha] at hn hcall1
      rw [if_pos rfl] at hn
      refine drawS (Sb := StX m3 (e2 :: some (g5, .cells (bArr b) 89 (0, 0)) :: Lb)) [.st, .st, .st, .st, .st, .st, .st, .ch, .ch, .st, .st, .st, .st, .st, .st, .st, .st, .ch, .ch, .st] mixed rfl (by kernel_rfl) (fun w h => h.stx) (fun w d h => h.drew d) ?_
      repeat' (first | (apply D.chx (o := ⟨_, .call _, _, _, _, _⟩); exact rfl; (first | exact Wd.plain rfl | exact Wd.on rfl rfl rfl); exact EvC.callS rfl rfl (fun w h => NS.call (fun m L w hs => hw1 w m L hs) h); exact inferInstance; exact fun _ _ h => NS.stx h; rintro ⟨⟩) | (apply D.chx (o := ⟨_, .call _, _, _, _, _⟩); exact rfl; (first | exact Wd.plain rfl | exact Wd.on rfl rfl rfl); exact EvC.callS rfl rfl (fun w h => NS.call (fun m L w hs => hw0 w m L hs) h); exact inferInstance; exact fun _ _ h => NS.stx h; rintro ⟨⟩) | (apply D.chx (o := ⟨_, .call _, _, _, _, _⟩); exact rfl; (first | exact Wd.plain rfl | exact Wd.on rfl rfl rfl); exact EvC.callS rfl rfl (fun w h => hcall1 w h); exact inferInstance; exact fun _ _ h => NS.stx h; rintro ⟨⟩) | (apply D.chx (o := ⟨_, .call _, _, _, _, _⟩); exact rfl; (first | exact Wd.plain rfl | exact Wd.on rfl rfl rfl); exact EvC.callS rfl rfl (fun w h => hcall0 w h); exact inferInstance; exact fun _ _ h => NS.stx h; rintro ⟨⟩) | (apply D.st1; exact rfl; (first | exact Wd.plain rfl | exact Wd.on rfl rfl rfl); (first | exact EvS.move rfl | exact EvS.fieldAddr rfl | (first | (apply EvS.load1; exact rfl; (first | exact Reads.memX (by assumption) | exact Reads.ownX (by repeat first | exact List.Mem.head _ | assumption | apply List.Mem.tail)); (first | assumption | exact nthL_arr rfl | exact rfl)) | (apply EvS.loadW; exact rfl; (first | exact Reads.memX (by assumption) | exact Reads.ownX (by repeat first | exact List.Mem.head _ | assumption | apply List.Mem.tail)); first | exact rfl | assumption) | (apply EvS.loadH; exact rfl; (first | exact Reads.memX (by assumption) | exact Reads.ownX (by repeat first | exact List.Mem.head _ | assumption | apply List.Mem.tail)); assumption; first | exact rfl | assumption)) | (first | exact EvS.pick_t rfl rfl | exact EvS.pick_f rfl rfl) | exact EvS.nilCheck rfl)) | refine D.tail_ ?_)
      repeat' (first | refine TR.nil ?_ | refine Post.then_normal ?_ | refine TC.ret ?_ | (apply TR.st1 (o := ⟨_, .assign _, _, _, _, _⟩); exact rfl; exact rfl; exact rfl; (first | exact Wd.plain rfl | exact Wd.on rfl rfl rfl); exact EvS.assign rfl))
      refine Post.body_ret _ (ResL.one rfl (ResV.tmp rfl)) ?_
      intro w h
      rw [hn]
      exact ⟨rfl, (NS.drop h).le (hle1.trans hm13)⟩
    | false =>
      rw [ha] at hn hcall1
      rw [if_neg (by simp)] at hn
      refine drawS (Sb := StX m3 (e2 :: some (g5, .cells (bArr b) 89 (0, 0)) :: Lb)) [.st, .st, .st, .st, .st, .st, .st, .ch, .ch, .st, .sk, .sk, .sk, .sk, .sk, .sk, .sk, .sk, .sk, .st] mixed rfl (by kernel_rfl) (fun w h => h.stx) (fun w d h => h.drew d) ?_
      repeat' (first | (apply D.chx (o := ⟨_, .call _, _, _, _, _⟩); exact rfl; (first | exact Wd.plain rfl | exact Wd.on rfl rfl rfl); exact EvC.callS rfl rfl (fun w h => NS.call (fun m L w hs => hw1 w m L hs) h); exact inferInstance; exact fun _ _ h => NS.stx h; rintro ⟨⟩) | (apply D.chx (o := ⟨_, .call _, _, _, _, _⟩); exact rfl; (first | exact Wd.plain rfl | exact Wd.on rfl rfl rfl); exact EvC.callS rfl rfl (fun w h => hcall1 w h); exact inferInstance; exact fun _ _ h => NS.stx h; rintro ⟨⟩) | (apply D.sk1; exact rfl; (first | exact Wd.off rfl rfl rfl rfl | exact Wd.offU rfl rfl rfl)) | (apply D.st1; exact rfl; (first | exact Wd.plain rfl | exact Wd.on rfl rfl rfl); (first | exact EvS.move rfl | exact EvS.fieldAddr rfl | (first | (apply EvS.load1; exact rfl; (first | exact Reads.memX (by assumption) | exact Reads.ownX (by repeat first | exact List.Mem.head _ | assumption | apply List.Mem.tail)); (first | assumption | exact nthL_arr rfl | exact rfl)) | (apply EvS.loadW; exact rfl; (first | exact Reads.memX (by assumption) | exact Reads.ownX (by repeat first | exact List.Mem.head _ | assumption | apply List.Mem.tail)); first | exact rfl | assumption) | (apply EvS.loadH; exact rfl; (first | exact Reads.memX (by assumption) | exact Reads.ownX (by repeat first | exact List.Mem.head _ | assumption | apply List.Mem.tail)); assumption; first | exact rfl | assumption)) | (first | exact EvS.pick_t rfl rfl | exact EvS.pick_f rfl rfl) | exact EvS.nilCheck rfl)) | refine D.tail_ ?_)
      repeat' (first | refine TR.nil ?_ | refine Post.then_normal ?_ | refine TC.ret ?_ | (apply TR.st1 (o := ⟨_, .assign _, _, _, _, _⟩); exact rfl; exact rfl; exact rfl; (first | exact Wd.plain rfl | exact Wd.on rfl rfl rfl); exact EvS.assign rfl))
      refine Post.body_ret _ (ResL.one rfl (ResV.tmp rfl)) ?_
      intro w h
      rw [hn]
      exact ⟨rfl, (NS.drop h).le (hle1.trans hm13)⟩
end Go.Proofs.YtgpgjpcebajofaaGreatDoor
set_option maxHeartbeats 4000000
set_option linter.unusedVariables false
set_option linter.unusedSimpArgs false
set_option maxRecDepth 100000
namespace Go.Proofs.YtgpgjpcebajofaaGreatDoor
open Go Go.XC Go.RowKit Go.SetsP
attribute [local irreducible] Post TC TR D WL EvS EvC Wd ResL Code.wpIn Exit.then Exit.inBlock Exit.noGoto LoopK LoopP bodyPostM Reads Calls

def searchP (p : Pb) (most : Int) : Fo := (nodeP p most 201 (pad8 p.bounds) ⟨[], 0, false⟩).2
def SolS (m : Mem) (A : Option Addr) (sols : List (List BV)) : Prop := ∃ css : List (List Value), Sl m 1 A css ∧ css.length = sols.length ∧ ∀ (k : Nat) (l : List BV) (cs : List Value), sols[k]? = some l → css[k]? = some cs → SolC m l cs
theorem SolS.mono {m m' : Mem} {A : Option Addr} {sols : List (List BV)} (h : SolS m A sols) (hm : m.Le m') : SolS m' A sols :=
  let ⟨css, h1, h2, h3⟩ := h; ⟨css, h1.mono hm, h2, fun k l cs a b => let ⟨W, c, g1, g2⟩ := h3 k l cs a b; ⟨W, c, g1, g2.mono hm⟩⟩
theorem SolS.nil {m : Mem} {A : Option Addr} : SolS m A [] := ⟨[], Sl.nil, rfl, fun k l cs h => by simp at h⟩
theorem SRow.lent {m : Mem} {v : Value} {sols : List (List BV)} {e : Option (Nat × Obj)} (h : SRow m v sols e) (hm : m.Le (memO m e)) (hbig : sols.length ≤ 140737488355328) : ∃ A c, v = .slice A sols.length c ∧ SolS (memO m e) A sols := by
  obtain ⟨css, h1, h2, h3⟩ := h
  have hl : ∀ cs, cs ∈ css → cs.length = 1 := fun cs hc => by
    obtain ⟨k, hk, rfl⟩ := List.mem_iff_getElem.1 hc
    obtain ⟨W, c, e, _⟩ := h3 k _ _ (List.getElem?_eq_getElem (by rw [← h2]; exact hk)) (List.getElem?_eq_getElem hk)
    rw [e]; rfl
  obtain ⟨A, c, h4, _, h5⟩ := OwnRow.lent (m := m) h1 hl h2 hbig
  exact ⟨A, c, h4, css, h5, h2, fun k l cs a b => let ⟨W, c, g1, g2⟩ := h3 k l cs a b; ⟨W, c, g1, g2.mono hm⟩⟩
theorem SRow.lentC {m : Mem} {v : Value} {sols : List (List BV)} {e : Option (Nat × Obj)} (h : SRow m v sols e) (hm : m.Le (memO m e)) (hbig : sols.length ≤ 140737488355328) : ∃ A c, v = .slice A sols.length c ∧ SolS (memO m e) A sols ∧ sols.length ≤ c := by
  obtain ⟨A, c, h1, h2⟩ := h.lent hm hbig
  obtain ⟨css, h3, _⟩ := h
  obtain ⟨A', c', h4, h5⟩ := ownRow_slice h3
  rw [h1] at h4
  injection h4 with _ _ h6
  subst h6
  exact ⟨A, c, h1, h2, h5⟩

theorem NS.callM {P : Program} {f : FuncId} {args : Array Value} {x : Value} {m : Mem} {g : Nat} {Lb : Own} {o : Fo} {w : World} (hc : ∀ m' L w, m.Le m' → St m' L w → Calls P f args w fun e w' => e = .returned x ∧ St m' L w') (h : NS m g Lb o w) : Calls P f args w fun e w' => e = .returned x ∧ NS m g Lb o w' :=
  let ⟨m2, v, e, h1, h2, h3⟩ := h; (hc _ _ w h1 h3).mono fun r w' ⟨a, b⟩ => ⟨a, m2, v, e, h1, h2, b⟩

theorem searched_c (p : Pb) (pcs : Array Value) (hp : okP p) (hcn : Cn (pad8 p.bounds)) (most : Int) (m : Mem) (hT : TabM m) (hpc : PbC m p pcs) (L : Own) (w : World) (hs : St m L w) :
    Calls Tryz.prog 45 #[.agg pcs, .int .i64 most] w fun x w' => ∃ y : { y : Mem × Option Addr × Nat // m.Le y.1 ∧ SolS y.1 y.2.1 (searchP p most).sols ∧ (searchP p most).sols.length ≤ y.2.2 },
      x = .returned (.agg #[.slice y.1.2.1 (searchP p most).sols.length y.1.2.2, .int .i64 ((searchP p most).nodes : Int), .bool (searchP p most).op]) ∧ St y.1.1 L w' := by
  have hpcsz : pcs.size = 2 := by obtain ⟨_, _, _, _, rfl, _⟩ := hpc; rfl
  have hbo := fun (w : World) (L : Own) (m' : Mem) (h : m.Le m') (hs : St m' L w) => boundsOf_c p pcs hp.b8 m' (hpc.mono h) L w hs
  refine calls_of_TC (args := [_, _]) Tryz.func45 rfl Tryz.ntmps45 (Nat.le_of_ble_eq_true rfl) hs ?_
  repeat' (first | refine TC.seq ?_ | refine TC.region ?_ | refine TR.nil ?_ | refine Post.then_normal ?_ | (apply TR.st1 (o := ⟨_, .makeFunc _ _ _, _, _, _, _⟩); exact rfl; exact rfl; exact rfl; (first | exact Wd.plain rfl | exact Wd.on rfl rfl rfl); exact EvS.makeFunc rfl rfl) | (apply TR.ch1 (o := ⟨_, .box _ _, _, _, _, _⟩) ; exact rfl; exact rfl; exact rfl; (first | exact Wd.plain rfl | exact Wd.on rfl rfl rfl); exact EvC.boxA rfl; intro g) | (apply TR.ch1 (o := ⟨_, .box _ _, _, _, _, _⟩) ; exact rfl; exact rfl; exact rfl; (first | exact Wd.plain rfl | exact Wd.on rfl rfl rfl); exact EvC.box1 rfl rfl; intro g) | (apply TR.ch1 (o := ⟨_, .alloc _, _, _, _, _⟩) ; exact rfl; exact rfl; exact rfl; (first | exact Wd.plain rfl | exact Wd.on rfl rfl rfl); exact EvC.alloc; intro g) | (apply TR.ch0 (o := ⟨_, .store _ _ _, _, _, _, _⟩) ; exact rfl; exact rfl; (first | exact Wd.plain rfl | exact Wd.on rfl rfl rfl); exact EvC.store1 rfl rfl rfl (by repeat first | exact Upd.head | apply Upd.tail) (by first | assumption | exact Nat.lt_of_sub_eq_succ rfl | (simp; omega) | simp); rintro ⟨⟩))
  rename_i gp gm gr gout
  obtain ⟨gn, hgn⟩ : ∃ x, x = g := ⟨_, rfl⟩
  subst hgn
  obtain ⟨LB, hLB⟩ : ∃ LB : Own, LB = some (gn, .cells #[.func (.func 70) #[] #[.pointer (some ⟨gout, 0, none⟩), .pointer (some ⟨gp, 0, none⟩), .pointer (some ⟨gm, 0, none⟩), .pointer (some ⟨gn, 0, none⟩)]] 103 (0, 0)) :: some (gr, .cells #[.slice none 0 0, .int .i64 0, .bool false] 75 (0, 0)) :: some (gm, .cells #[.int .i64 most] 3 (0, 0)) :: some (gp, .cells pcs 25 (0, 0)) :: L := ⟨_, rfl⟩
  obtain ⟨o0, ho0⟩ : ∃ o0 : Fo, o0 = ⟨[], 0, false⟩ := ⟨_, rfl⟩
  have hmn : some (gn, .cells #[.func (.func 70) #[] #[.pointer (some ⟨gout, 0, none⟩), .pointer (some ⟨gp, 0, none⟩), .pointer (some ⟨gm, 0, none⟩), .pointer (some ⟨gn, 0, none⟩)]] 103 (0, 0)) ∈ LB := by rw [hLB]; exact List.Mem.head _
  have hmm : some (gm, Obj.cells #[.int .i64 most] 3 (0, 0)) ∈ LB := by rw [hLB]; exact .tail _ (.tail _ (.head _))
  have hmp : some (gp, Obj.cells pcs 25 (0, 0)) ∈ LB := by rw [hLB]; exact .tail _ (.tail _ (.tail _ (.head _)))
  refine TC.turn (S' := NS m gout LB o0) (fun w h => ?_) ?_
  · refine NS.pack (v := .slice none 0 0) (e := none) (Mem.Le.refl _) ⟨[], by rw [ho0]; exact OwnRow.nil, by rw [ho0]; rfl, fun k l cs h => by rw [ho0] at h; simp at h⟩ ?_
    rw [hLB, ho0]
    exact (((show St m (some (gn, .cells #[.func (.func 70) #[] #[.pointer (some ⟨gout, 0, none⟩), .pointer (some ⟨gp, 0, none⟩), .pointer (some ⟨gm, 0, none⟩), .pointer (some ⟨gn, 0, none⟩)]] 103 (0, 0)) :: some (gout, .cells #[.slice none 0 0, .int .i64 0, .bool false] 75 (0, 0)) :: some (gr, .cells #[.slice none 0 0, .int .i64 0, .bool false] 75 (0, 0)) :: some (gm, .cells #[.int .i64 most] 3 (0, 0)) :: some (gp, .cells pcs 25 (0, 0)) :: L) w from h).perm (List.Perm.swap _ _ _)).addNone).perm (List.Perm.swap _ _ _)
  have hnode := fun (w : World) (h : NS m gout LB o0 w) => node_c p pcs hp most gout gp gm gn 201 (pad8 p.bounds) o0 LB m w (by rw [ho0]; exact Nat.le_refl _) (by rw [ho0]; decide) (by rw [ho0]; exact Nat.le_refl _) hp.b hcn hT hpc hmp hmm hmn h
  obtain ⟨F, hF⟩ : ∃ F, F = searchP p most := ⟨_, rfl⟩
  have hF2 : F = (nodeP p most 201 (pad8 p.bounds) o0).2 := by rw [hF, ho0]; rfl
  obtain ⟨n1, n2, n3⟩ := nodeP_nodes (p := p) (most := most) 201 (pad8 p.bounds) o0 (by rw [ho0]; decide) (by rw [ho0]; exact Nat.le_refl _)
  rw [← hF2] at hnode n2 n3
  rw [← hF]
  refine drawS (Sb := StX m LB) [.st, .st, .ch, .ch] mixed rfl (by kernel_rfl) (fun w h => h.stx) (fun w d h => h.drew d) ?_
  repeat' (first | (apply D.chx (o := ⟨_, .call _, _, _, _, _⟩); exact rfl; exact Wd.plain rfl; exact EvC.callS rfl rfl (fun w h => NS.callM (fun m' L w hm hs => hbo w L m' hm hs) h); exact inferInstance; exact fun _ _ h => NS.stx h; rintro ⟨⟩) | (apply D.chx (o := ⟨_, .call _, _, _, _, _⟩); exact rfl; exact Wd.plain rfl; exact EvC.callS rfl rfl (fun w h => hnode w h); exact inferInstance; exact fun _ _ h => NS.stx h; rintro ⟨⟩) | (apply D.st1 (o := ⟨_, .load _ _, _, _, _, _⟩); exact rfl; (first | exact Wd.plain rfl | exact Wd.on rfl rfl rfl); (first | (apply EvS.load1; exact rfl; (first | exact Reads.memX (by assumption) | exact Reads.ownX (by repeat first | exact List.Mem.head _ | assumption | apply List.Mem.tail)); (first | assumption | exact nthL_arr rfl | exact rfl)) | (apply EvS.loadW; exact rfl; (first | exact Reads.memX (by assumption) | exact Reads.ownX (by repeat first | exact List.Mem.head _ | assumption | apply List.Mem.tail)); first | exact rfl | assumption) | (apply EvS.loadH; exact rfl; (first | exact Reads.memX (by assumption) | exact Reads.ownX (by repeat first | exact List.Mem.head _ | assumption | apply List.Mem.tail)); assumption; first | exact rfl | assumption))) | refine D.tail_ ?_)
  repeat' (first | refine TC.seq ?_ | refine TC.region ?_ | refine TR.nil ?_ | refine Post.then_normal ?_)
  refine TR.of_exists (X := { y : Mem × Value × Option (Nat × Obj) // m.Le y.1 ∧ SRow y.1 y.2.1 F.sols y.2.2 }) (S' := fun y w => St y.1.1 (some (gout, .cells #[y.1.2.1, .int .i64 (F.nodes : Int), .bool F.op] 75 (0, 0)) :: y.1.2.2 :: LB) w) (fun w h => by obtain ⟨m', v, e, h1, h2, h3⟩ := h; exact ⟨⟨(m', v, e), h1, h2⟩, h3⟩) ?_
  rintro ⟨⟨m2, v2, e2⟩, hle2, hrow2⟩
  simp only at hle2 hrow2 ⊢
  rw [hLB]
  obtain ⟨_, hor, _⟩ := id hrow2
  obtain ⟨A0, c0, rfl, _⟩ := ownRow_slice hor
  repeat' (first | refine TR.nil ?_ | refine Post.then_normal ?_ | refine TC.ret ?_ | (apply TR.st1 (o := ⟨_, .load _ _, _, _, _, _⟩); exact rfl; exact rfl; exact rfl; (first | exact Wd.plain rfl | exact Wd.on rfl rfl rfl); (first | (apply EvS.load1; exact rfl; (first | exact Reads.mem (by assumption) | exact Reads.own (by repeat first | exact List.Mem.head _ | assumption | apply List.Mem.tail)); (first | assumption | exact nthL_arr rfl | exact rfl)) | (apply EvS.loadW; exact rfl; (first | exact Reads.mem (by assumption) | exact Reads.own (by repeat first | exact List.Mem.head _ | assumption | apply List.Mem.tail)); first | exact rfl | assumption) | (apply EvS.loadH; exact rfl; (first | exact Reads.mem (by assumption) | exact Reads.own (by repeat first | exact List.Mem.head _ | assumption | apply List.Mem.tail)); assumption; first | exact rfl | assumption))) | (apply TR.ch0 (o := ⟨_, .store _ _ _, _, _, _, _⟩) ; exact rfl; exact rfl; (first | exact Wd.plain rfl | exact Wd.on rfl rfl rfl); exact EvC.storeW rfl rfl (by first | exact rfl | assumption) (by first | exact bArr_one _ | exact rfl | (intro v hv; simp at hv; rcases hv with rfl | rfl | rfl | rfl | rfl | rfl | rfl | rfl <;> rfl)) (by repeat first | exact Upd.head | apply Upd.tail) (by first | exact rfl | assumption); rintro ⟨⟩))
  refine Post.body_ret _ (ResL.one rfl (ResV.cellW (n := 3) rfl (Reads.own (by repeat first | exact List.Mem.head _ | apply List.Mem.tail)) rfl)) ?_
  intro w h
  have h' := (h.tail.sublist (List.Sublist.cons_cons _ (List.Sublist.cons _ (List.Sublist.cons _ (List.Sublist.cons _ (List.Sublist.cons _ (List.Sublist.refl _)))))))
  obtain ⟨l1, l2⟩ := lend h'
  obtain ⟨A, c, hv, hS⟩ := hrow2.lentC l1 (by omega)
  exact ⟨⟨(_, A, c), hle2.trans l1, hS⟩, by rw [hv], l2⟩

def solveP (p : Pb) (most : Int) : List (List BV) × Int × Int :=
  if checkB p && decide (1 ≤ most ∧ most ≤ 100) then
    let x := searchP p most
    if x.op then ([], 0, 8) else (x.sols, (x.nodes : Int), 0)
  else ([], 0, 2)
theorem solve_c (p : Pb) (pcs : Array Value) (most : Int) (h9 : p.bounds.length ≤ 1000) (h13 : p.rules.length ≤ 1000) (m : Mem) (hT : TabM m) (hpc : PbC m p pcs) (L : Own) (w : World) (hs : St m L w) :
    Calls Tryz.prog 9 #[.agg pcs, .int .i64 most] w fun x w' => ∃ y : { y : Mem × Option Addr × Nat // m.Le y.1 ∧ SolS y.1 y.2.1 (solveP p most).1 ∧ (solveP p most).1.length ≤ y.2.2 },
      x = .returned (.tuple #[.slice y.1.2.1 (solveP p most).1.length y.1.2.2, .int .i64 (solveP p most).2.1, .int .i64 (solveP p most).2.2]) ∧ St y.1.1 L w' := by
  have hpc0 := hpc
  obtain ⟨BA, bc, RA, rc, rfl, hBA, hRA⟩ := hpc
  by_cases hck : checkB p = true
  · have hE : (errI (checkB p) != 0) = false := by rw [hck]; rfl
    by_cases hm : (1 ≤ most ∧ most ≤ 100)
    · have hw : (!decide (1 ≤ most ∧ most ≤ 100)) = false := by simp [hm]
      have hsp : solveP p most = if (searchP p most).op then ([], 0, 8) else ((searchP p most).sols, ((searchP p most).nodes : Int), 0) := by
        unfold solveP; rw [hck, show decide (1 ≤ most ∧ most ≤ 100) = true by simp [hm]]; rfl
      have hse := fun (w : World) (L : Own) (hs : St m L w) => searched_c p _ (okP_of hck) (Cn.pad hck) most m hT hpc0 L w hs
      obtain ⟨F, hF⟩ : ∃ F, F = searchP p most := ⟨_, rfl⟩
      rw [← hF] at hse hsp
      rw [hsp]
      refine calls_of_TC (args := [_, _]) Tryz.func9 rfl Tryz.ntmps9 (Nat.le_of_ble_eq_true rfl) hs ?_
      cases hop : F.op with
      | true =>
        rw [hop] at hse
        repeat' (first | (apply TR.ch1; exact rfl; exact rfl; exact rfl; (first | exact Wd.plain rfl | exact Wd.on rfl rfl rfl); (first | exact EvC.callV rfl rfl (fun w hs => check_c p _ h9 h13 _ hpc0 _ _ hs) | exact EvC.callV rfl rfl (fun w hs => within_c _ _ _ _ _ _ hs)); rintro ⟨⟩) | (apply TR.ch1 (o := ⟨_, .call _, _, _, _, _⟩); exact rfl; exact rfl; exact rfl; (first | exact Wd.plain rfl | exact Wd.on rfl rfl rfl); exact EvC.callX rfl rfl (fun w hs => hse w _ hs); rintro ⟨⟨m2, A2, c2⟩, hle2, hS2⟩) | refine TC.seq ?_ | refine TC.region ?_ | refine TR.nil ?_ | refine Post.then_normal ?_ | refine TC.skip ?_ | refine TC.ret ?_ | (apply TC.cond_t; exact rfl) | (apply TC.cond_bf; exact rfl; assumption) | refine Post.then_ret ?_ | (apply TR.gs_f (o := ⟨_, .move _, _, _, _, _⟩); exact rfl; exact rfl; exact rfl; exact rfl; (first | exact Wd.plain rfl | exact Wd.on rfl rfl rfl); exact EvS.move rfl; (first | exact rfl | assumption)) | (apply TR.st1; exact rfl; exact rfl; exact rfl; (first | exact Wd.plain rfl | exact Wd.on rfl rfl rfl); (first | exact EvS.move rfl | exact EvS.assign rfl | exact EvS.fieldAddr rfl | (first | (apply EvS.load1; exact rfl; (first | exact Reads.mem (by assumption) | exact Reads.own (by repeat first | exact List.Mem.head _ | assumption | apply List.Mem.tail)); (first | assumption | exact nthL_arr rfl | exact rfl)) | (apply EvS.loadW; exact rfl; (first | exact Reads.mem (by assumption) | exact Reads.own (by repeat first | exact List.Mem.head _ | assumption | apply List.Mem.tail)); first | exact rfl | assumption) | (apply EvS.loadH; exact rfl; (first | exact Reads.mem (by assumption) | exact Reads.own (by repeat first | exact List.Mem.head _ | assumption | apply List.Mem.tail)); assumption; first | exact rfl | assumption)) | (first | exact EvS.not rfl | exact EvS.neg64 rfl (by first | with_reducible exact U64.var _ | exact U64.lit rfl)) | (first | exact EvS.ne64 rfl rfl (by first | with_reducible exact U64.var _ | exact U64.lit rfl) (by first | with_reducible exact U64.var _ | exact U64.lit rfl) | exact EvS.neB rfl rfl | exact EvS.neI rfl rfl) | (first | exact EvS.pick_t rfl rfl | exact EvS.pick_f rfl rfl))) | (apply TR.ch1 (o := ⟨_, .box _ _, _, _, _, _⟩) ; exact rfl; exact rfl; exact rfl; (first | exact Wd.plain rfl | exact Wd.on rfl rfl rfl); exact EvC.boxA rfl; intro g) | (apply TR.ch1 (o := ⟨_, .alloc _, _, _, _, _⟩) ; exact rfl; exact rfl; exact rfl; (first | exact Wd.plain rfl | exact Wd.on rfl rfl rfl); exact EvC.alloc; intro g) | (apply TR.ch0 (o := ⟨_, .store _ _ _, _, _, _, _⟩) ; exact rfl; exact rfl; (first | exact Wd.plain rfl | exact Wd.on rfl rfl rfl); exact EvC.storeW rfl rfl (by first | exact rfl | assumption) (by first | exact bArr_one _ | exact rfl | (intro v hv; simp at hv; rcases hv with rfl | rfl | rfl | rfl | rfl | rfl | rfl | rfl <;> rfl)) (by repeat first | exact Upd.head | apply Upd.tail) (by first | exact rfl | assumption); rintro ⟨⟩))
        refine Post.body_ret _ (ResL.three rfl (ResV.tmp rfl) (ResV.tmp rfl) (ResV.tmp rfl)) ?_
        intro w h
        exact ⟨⟨(m2, none, 0), hle2, SolS.nil, Nat.le_refl _⟩, rfl, h.tail.tail⟩
      | false =>
        rw [hop] at hse
        repeat' (first | (apply TR.ch1; exact rfl; exact rfl; exact rfl; (first | exact Wd.plain rfl | exact Wd.on rfl rfl rfl); (first | exact EvC.callV rfl rfl (fun w hs => check_c p _ h9 h13 _ hpc0 _ _ hs) | exact EvC.callV rfl rfl (fun w hs => within_c _ _ _ _ _ _ hs)); rintro ⟨⟩) | (apply TR.ch1 (o := ⟨_, .call _, _, _, _, _⟩); exact rfl; exact rfl; exact rfl; (first | exact Wd.plain rfl | exact Wd.on rfl rfl rfl); exact EvC.callX rfl rfl (fun w hs => hse w _ hs); rintro ⟨⟨m2, A2, c2⟩, hle2, hS2⟩) | refine TC.seq ?_ | refine TC.region ?_ | refine TR.nil ?_ | refine Post.then_normal ?_ | refine TC.skip ?_ | (apply TC.cond_f; exact rfl) | (apply TC.cond_bf; exact rfl; assumption) | (apply TR.gs_f (o := ⟨_, .move _, _, _, _, _⟩); exact rfl; exact rfl; exact rfl; exact rfl; (first | exact Wd.plain rfl | exact Wd.on rfl rfl rfl); exact EvS.move rfl; (first | exact rfl | assumption)) | (apply TR.st1; exact rfl; exact rfl; exact rfl; (first | exact Wd.plain rfl | exact Wd.on rfl rfl rfl); (first | exact EvS.move rfl | exact EvS.assign rfl | exact EvS.fieldAddr rfl | (first | (apply EvS.load1; exact rfl; (first | exact Reads.mem (by assumption) | exact Reads.own (by repeat first | exact List.Mem.head _ | assumption | apply List.Mem.tail)); (first | assumption | exact nthL_arr rfl | exact rfl)) | (apply EvS.loadW; exact rfl; (first | exact Reads.mem (by assumption) | exact Reads.own (by repeat first | exact List.Mem.head _ | assumption | apply List.Mem.tail)); first | exact rfl | assumption) | (apply EvS.loadH; exact rfl; (first | exact Reads.mem (by assumption) | exact Reads.own (by repeat first | exact List.Mem.head _ | assumption | apply List.Mem.tail)); assumption; first | exact rfl | assumption)) | (first | exact EvS.not rfl | exact EvS.neg64 rfl (by first | with_reducible exact U64.var _ | exact U64.lit rfl)) | (first | exact EvS.ne64 rfl rfl (by first | with_reducible exact U64.var _ | exact U64.lit rfl) (by first | with_reducible exact U64.var _ | exact U64.lit rfl) | exact EvS.neB rfl rfl | exact EvS.neI rfl rfl) | (first | exact EvS.pick_t rfl rfl | exact EvS.pick_f rfl rfl))) | (apply TR.ch1 (o := ⟨_, .box _ _, _, _, _, _⟩) ; exact rfl; exact rfl; exact rfl; (first | exact Wd.plain rfl | exact Wd.on rfl rfl rfl); exact EvC.boxA rfl; intro g) | (apply TR.ch1 (o := ⟨_, .alloc _, _, _, _, _⟩) ; exact rfl; exact rfl; exact rfl; (first | exact Wd.plain rfl | exact Wd.on rfl rfl rfl); exact EvC.alloc; intro g) | (apply TR.ch0 (o := ⟨_, .store _ _ _, _, _, _, _⟩) ; exact rfl; exact rfl; (first | exact Wd.plain rfl | exact Wd.on rfl rfl rfl); exact EvC.storeW rfl rfl (by first | exact rfl | assumption) (by first | exact bArr_one _ | exact rfl | (intro v hv; simp at hv; rcases hv with rfl | rfl | rfl | rfl | rfl | rfl | rfl | rfl <;> rfl)) (by repeat first | exact Upd.head | apply Upd.tail) (by first | exact rfl | assumption); rintro ⟨⟩))
        refine TC.draw_ [.st, .st, .st, .st, .st, .st, .st] mixed rfl (by kernel_rfl) ?_
        repeat' (first | (apply D.st1; exact rfl; (first | exact Wd.plain rfl | exact Wd.on rfl rfl rfl); (first | exact EvS.assign rfl | exact EvS.fieldAddr rfl | (first | (apply EvS.load1; exact rfl; (first | exact Reads.memX (by assumption) | exact Reads.ownX (by repeat first | exact List.Mem.head _ | assumption | apply List.Mem.tail)); (first | assumption | exact nthL_arr rfl | exact rfl)) | (apply EvS.loadW; exact rfl; (first | exact Reads.memX (by assumption) | exact Reads.ownX (by repeat first | exact List.Mem.head _ | assumption | apply List.Mem.tail)); first | exact rfl | assumption) | (apply EvS.loadH; exact rfl; (first | exact Reads.memX (by assumption) | exact Reads.ownX (by repeat first | exact List.Mem.head _ | assumption | apply List.Mem.tail)); assumption; first | exact rfl | assumption)))) | refine D.tail_ ?_)
        repeat' (first | refine TR.nil ?_ | refine Post.then_normal ?_ | refine TC.ret ?_)
        refine Post.body_ret _ (ResL.three rfl (ResV.tmp rfl) (ResV.tmp rfl) (ResV.tmp rfl)) ?_
        intro w h
        exact ⟨⟨(m2, A2, c2), hle2, hS2⟩, rfl, h.tail.tail⟩
    · have hw : (!decide (1 ≤ most ∧ most ≤ 100)) = true := by simp only [hm, decide_false, Bool.not_false]
      have hsp : solveP p most = ([], 0, 2) := by
        unfold solveP; rw [show decide (1 ≤ most ∧ most ≤ 100) = false by simp only [hm, decide_false], Bool.and_false]; rfl
      rw [hsp]
      refine calls_of_TC (args := [_, _]) Tryz.func9 rfl Tryz.ntmps9 (Nat.le_of_ble_eq_true rfl) hs ?_
      repeat' (first | (apply TR.ch1; exact rfl; exact rfl; exact rfl; (first | exact Wd.plain rfl | exact Wd.on rfl rfl rfl); (first | exact EvC.callV rfl rfl (fun w hs => check_c p _ h9 h13 _ hpc0 _ _ hs) | exact EvC.callV rfl rfl (fun w hs => within_c _ _ _ _ _ _ hs)); rintro ⟨⟩) | refine TC.seq ?_ | refine TC.region ?_ | refine TR.nil ?_ | refine Post.then_normal ?_ | refine TC.ret ?_ | (apply TC.cond_bt; exact rfl; assumption) | refine Post.then_ret ?_ | (apply TR.gs_f (o := ⟨_, .move _, _, _, _, _⟩); exact rfl; exact rfl; exact rfl; exact rfl; (first | exact Wd.plain rfl | exact Wd.on rfl rfl rfl); exact EvS.move rfl; (first | exact rfl | assumption)) | (apply TR.st1; exact rfl; exact rfl; exact rfl; (first | exact Wd.plain rfl | exact Wd.on rfl rfl rfl); (first | exact EvS.move rfl | exact EvS.assign rfl | (first | (apply EvS.load1; exact rfl; (first | exact Reads.mem (by assumption) | exact Reads.own (by repeat first | exact List.Mem.head _ | assumption | apply List.Mem.tail)); (first | assumption | exact nthL_arr rfl | exact rfl)) | (apply EvS.loadW; exact rfl; (first | exact Reads.mem (by assumption) | exact Reads.own (by repeat first | exact List.Mem.head _ | assumption | apply List.Mem.tail)); first | exact rfl | assumption) | (apply EvS.loadH; exact rfl; (first | exact Reads.mem (by assumption) | exact Reads.own (by repeat first | exact List.Mem.head _ | assumption | apply List.Mem.tail)); assumption; first | exact rfl | assumption)) | (first | exact EvS.not rfl | exact EvS.neg64 rfl (by first | with_reducible exact U64.var _ | exact U64.lit rfl)) | (first | exact EvS.ne64 rfl rfl (by first | with_reducible exact U64.var _ | exact U64.lit rfl) (by first | with_reducible exact U64.var _ | exact U64.lit rfl) | exact EvS.neB rfl rfl | exact EvS.neI rfl rfl) | (first | exact EvS.pick_t rfl rfl | exact EvS.pick_f rfl rfl))) | (apply TR.ch1 (o := ⟨_, .box _ _, _, _, _, _⟩) ; exact rfl; exact rfl; exact rfl; (first | exact Wd.plain rfl | exact Wd.on rfl rfl rfl); exact EvC.boxA rfl; intro g))
      refine Post.body_ret _ (ResL.three rfl (ResV.tmp rfl) (ResV.tmp rfl) (ResV.tmp rfl)) ?_
      intro w h
      exact ⟨⟨(m, none, 0), Mem.Le.refl _, SolS.nil, Nat.le_refl _⟩, rfl, h.tail⟩
  · rw [Bool.not_eq_true] at hck
    have hE : (errI (checkB p) != 0) = true := by rw [hck]; rfl
    have hsp : solveP p most = ([], 0, 2) := by
      unfold solveP; rw [hck]; rfl
    rw [hsp]
    refine calls_of_TC (args := [_, _]) Tryz.func9 rfl Tryz.ntmps9 (Nat.le_of_ble_eq_true rfl) hs ?_
    repeat' (first | (apply TR.ch1 (o := ⟨_, .call _, _, _, _, _⟩); exact rfl; exact rfl; exact rfl; (first | exact Wd.plain rfl | exact Wd.on rfl rfl rfl); exact EvC.callV rfl rfl (fun w hs => check_c p _ h9 h13 _ hpc0 _ _ hs); rintro ⟨⟩) | refine TC.seq ?_ | refine TC.region ?_ | refine TR.nil ?_ | refine Post.then_normal ?_ | refine TC.ret ?_ | (apply TC.cond_t; exact rfl) | refine Post.then_ret ?_ | (apply TR.sk1 (o := ⟨_, _, _, _, _, some _⟩); exact rfl; exact rfl; (first | exact Wd.off rfl rfl rfl rfl | exact Wd.offU rfl rfl rfl)) | (apply TR.gs_t (o := ⟨_, .move _, _, _, _, _⟩); exact rfl; exact rfl; exact rfl; exact rfl; (first | exact Wd.plain rfl | exact Wd.on rfl rfl rfl); exact EvS.move rfl; (first | exact rfl | assumption)) | (apply TR.st1; exact rfl; exact rfl; exact rfl; (first | exact Wd.plain rfl | exact Wd.on rfl rfl rfl); (first | exact EvS.assign rfl | (first | (apply EvS.load1; exact rfl; (first | exact Reads.mem (by assumption) | exact Reads.own (by repeat first | exact List.Mem.head _ | assumption | apply List.Mem.tail)); (first | assumption | exact nthL_arr rfl | exact rfl)) | (apply EvS.loadW; exact rfl; (first | exact Reads.mem (by assumption) | exact Reads.own (by repeat first | exact List.Mem.head _ | assumption | apply List.Mem.tail)); first | exact rfl | assumption) | (apply EvS.loadH; exact rfl; (first | exact Reads.mem (by assumption) | exact Reads.own (by repeat first | exact List.Mem.head _ | assumption | apply List.Mem.tail)); assumption; first | exact rfl | assumption)) | (first | exact EvS.ne64 rfl rfl (by first | with_reducible exact U64.var _ | exact U64.lit rfl) (by first | with_reducible exact U64.var _ | exact U64.lit rfl) | exact EvS.neB rfl rfl | exact EvS.neI rfl rfl) | (first | exact EvS.pick_t rfl rfl | exact EvS.pick_f rfl rfl))) | (apply TR.ch1 (o := ⟨_, .box _ _, _, _, _, _⟩) ; exact rfl; exact rfl; exact rfl; (first | exact Wd.plain rfl | exact Wd.on rfl rfl rfl); exact EvC.boxA rfl; intro g))
    refine Post.body_ret _ (ResL.three rfl (ResV.tmp rfl) (ResV.tmp rfl) (ResV.tmp rfl)) ?_
    intro w h
    exact ⟨⟨(m, none, 0), Mem.Le.refl _, SolS.nil, Nat.le_refl _⟩, rfl, h.tail⟩
end Go.Proofs.YtgpgjpcebajofaaGreatDoor
set_option maxHeartbeats 4000000
set_option linter.unusedVariables false
set_option linter.unusedSimpArgs false
set_option maxRecDepth 100000
namespace Go.Proofs.YtgpgjpcebajofaaGreatDoor
open Go Go.XC Go.RowKit Go.SetsP
attribute [local irreducible] Post TC TR D WL EvS EvC Wd ResL Code.wpIn Exit.then Exit.inBlock Exit.noGoto LoopK LoopP bodyPostM Reads Calls

def selP (p : Pb) (lw : List Nat) : Pb := ⟨p.bounds, lw.map fun k => p.rules.getD k default⟩
def noneP (p : Pb) (lw : List Nat) : Bool × Int := let x := searchP (selP p lw) 1; if x.op then (false, 8) else ((x.sols.length : Int) == 0, 0)
theorem selP_ok {p : Pb} (hp : okP p) {lw : List Nat} (hl : ∀ k, k ∈ lw → k < p.rules.length) (hn : lw.length ≤ 12) : okP (selP p lw) :=
  ⟨hp.b1, hp.b8, by simpa [selP] using hn, hp.bd, fun r hr => by
    obtain ⟨k, hk, rfl⟩ := List.mem_map.1 hr
    rw [List.getD_eq_getElem?_getD, List.getElem?_eq_getElem (hl k hk)]
    exact hp.rl _ (List.getElem_mem _)⟩
def RRow (m : Mem) (v : Value) (rs : List Rl) (e : Option (Nat × Obj)) : Prop := ∃ css : List (List Value), OwnRow v 62 4 rs.length css.flatten e ∧ css.length = rs.length ∧ ∀ (i : Nat) (r : Rl) (cs : List Value), rs[i]? = some r → css[i]? = some cs → RlC m r cs
theorem RRow.lent {m : Mem} {v : Value} {rs : List Rl} {e : Option (Nat × Obj)} (h : RRow m v rs e) (hm : m.Le (memO m e)) (hbig : rs.length ≤ 140737488355328) : ∃ A c, v = .slice A rs.length c ∧ RlS (memO m e) A rs := by
  obtain ⟨css, h1, h2, h3⟩ := h
  have hl : ∀ cs, cs ∈ css → cs.length = 4 := fun cs hc => by
    obtain ⟨k, hk, rfl⟩ := List.mem_iff_getElem.1 hc
    obtain ⟨W, c, e, _⟩ := h3 k _ _ (List.getElem?_eq_getElem (by rw [← h2]; exact hk)) (List.getElem?_eq_getElem hk)
    rw [e]; rfl
  obtain ⟨A, c, h4, _, h5⟩ := OwnRow.lent (m := m) h1 hl h2 hbig
  exact ⟨A, c, h4, ⟨css, h5, h2, fun i r cs a b => (h3 i r cs a b).mono hm⟩⟩

theorem none_c (p : Pb) (pcs : Array Value) (hp : okP p) (hcn : Cn (pad8 p.bounds)) (W : Option Addr) (kw : Nat) (lw : List Nat) (hlw : ∀ k, k ∈ lw → k < p.rules.length) (hln : lw.length ≤ 12) (m : Mem) (hT : TabM m) (hpc : PbC m p pcs) (hW : Sl m 1 W (ints (zs lw))) (L : Own) (w : World) (hs : St m L w) :
    Calls Tryz.prog 49 #[.agg pcs, .slice W lw.length kw] w fun x w' => x = .returned (.tuple #[.bool (noneP p lw).1, .int .i64 (noneP p lw).2]) ∧ St m L w' := by
  have hpc0 := hpc
  obtain ⟨BA, bc, RA, rc, rfl, hBA, hRA⟩ := hpc
  obtain ⟨q, hq⟩ : ∃ q, q = selP p lw := ⟨_, rfl⟩
  have hqo : okP q := by rw [hq]; exact selP_ok hp hlw hln
  have hqb : q.bounds = p.bounds := by rw [hq]; rfl
  have hql : q.rules.length = lw.length := by rw [hq]; simp [selP]
  refine calls_of_TC (args := [_, _]) Tryz.func49 rfl Tryz.ntmps49 (Nat.le_of_ble_eq_true rfl) hs ?_
  repeat' (first | refine TC.seq ?_ | refine TC.region ?_ | refine TR.nil ?_ | refine Post.then_normal ?_ | refine TC.block ?_ | (apply TR.st1; exact rfl; exact rfl; exact rfl; (first | exact Wd.plain rfl | exact Wd.on rfl rfl rfl); (first | exact EvS.buildC (cells := #[.slice BA p.bounds.length bc, .slice none 0 0]) rfl (by kernel_rfl) | exact EvS.move rfl | exact EvS.assign rfl | exact EvS.fieldAddr rfl | (first | (apply EvS.load1; exact rfl; (first | exact Reads.mem (by assumption) | exact Reads.own (by repeat first | exact List.Mem.head _ | assumption | apply List.Mem.tail)); (first | assumption | exact nthL_arr rfl | exact rfl)) | (apply EvS.loadW; exact rfl; (first | exact Reads.mem (by assumption) | exact Reads.own (by repeat first | exact List.Mem.head _ | assumption | apply List.Mem.tail)); first | exact rfl | assumption) | (apply EvS.loadH; exact rfl; (first | exact Reads.mem (by assumption) | exact Reads.own (by repeat first | exact List.Mem.head _ | assumption | apply List.Mem.tail)); assumption; first | exact rfl | assumption)) | exact EvS.len rfl)) | (apply TR.ch1 (o := ⟨_, .box _ _, _, _, _, _⟩) ; exact rfl; exact rfl; exact rfl; (first | exact Wd.plain rfl | exact Wd.on rfl rfl rfl); exact EvC.boxA rfl; intro g) | (apply TR.ch1 (o := ⟨_, .alloc _, _, _, _, _⟩) ; exact rfl; exact rfl; exact rfl; (first | exact Wd.plain rfl | exact Wd.on rfl rfl rfl); exact EvC.alloc; intro g) | (apply TR.ch0 (o := ⟨_, .store _ _ _, _, _, _, _⟩) ; exact rfl; exact rfl; (first | exact Wd.plain rfl | exact Wd.on rfl rfl rfl); exact EvC.storeW rfl rfl (by first | exact rfl | assumption) (by first | exact bArr_one _ | exact rfl | (intro v hv; simp at hv; rcases hv with rfl | rfl | rfl | rfl | rfl | rfl | rfl | rfl <;> rfl)) (by repeat first | exact Upd.head | apply Upd.tail) (by first | exact rfl | assumption); rintro ⟨⟩))
  rename_i gp
  obtain ⟨gq, hgq⟩ : ∃ x, x = g := ⟨_, rfl⟩
  subst hgq
  refine TC.turn (fun w h => h.addNone) ?_
  refine TC.loopP (X := Gr) (fun x => x.k ≤ lw.length ∧ RRow m x.v (q.rules.take x.k) x.e)
    (fun x => [(15, .int .i64 (x.k : Int)), (14, .int .i64 (lw.length : Int)), (13, .slice W lw.length kw), (6, .pointer (some ⟨gq, 0, none⟩)), (2, .pointer (some ⟨gp, 0, none⟩))])
    (fun x => St m (x.e :: some (gq, .cells #[.slice BA p.bounds.length bc, x.v] 25 (0, 0)) :: some (gp, .cells #[.slice BA p.bounds.length bc, .slice RA p.rules.length rc] 25 (0, 0)) :: L)) (fun x => lw.length - x.k) ⟨0, .slice none 0 0, none⟩ ⟨Nat.zero_le _, ⟨[], by rw [List.take_zero]; exact OwnRow.nil, rfl, fun i r cs h => by simp at h⟩⟩ (incl.lk (by repeat first | exact trivial | refine ⟨rfl, ?_⟩)) (fun w h => h) ?_
  rintro ⟨k, v, e⟩ ⟨hk, hrow⟩
  simp only at hk hrow ⊢
  by_cases hlt : k < lw.length
  · obtain ⟨n, hn⟩ : ∃ n, lw[k]? = some n := ⟨_, List.getElem?_eq_getElem hlt⟩
    have hnl : n < p.rules.length := hlw n (List.mem_of_getElem? hn)
    obtain ⟨r, hr⟩ : ∃ r, p.rules[n]? = some r := ⟨_, List.getElem?_eq_getElem hnl⟩
    have hqr : q.rules[k]? = some r := by rw [hq]; simp [selP, hn, List.getD_eq_getElem?_getD, hr]
    obtain ⟨g1, oo, blk, T, fr, hAe, hmm, hc⟩ := hW.get1 (k := k) (v := .int .i64 (n : Int)) (by simp [ints, zs, hn])
    obtain ⟨g3, o3, blk3, T3, fr3, B3, c3, hR1, hR2, hR3, hR4, hR5⟩ := hRA.get hr
    have hd : decide ((k : Int) < (lw.length : Int)) = true := by simpa using hlt
    obtain ⟨css, hcss, hcl, hcr⟩ := hrow
    have htk : (q.rules.take k).length = k := by rw [List.length_take]; omega
    repeat' (first | refine TC.seq ?_ | refine TC.region ?_ | refine TR.nil ?_ | refine Post.then_normal ?_ | refine TC.block ?_ | refine TC.skip ?_ | (apply TC.cond_bt; exact rfl; assumption) | (apply TR.st1; exact rfl; exact rfl; exact rfl; (first | exact Wd.plain rfl | exact Wd.on rfl rfl rfl); (first | exact EvS.assign rfl | (first | (apply EvS.load1; exact rfl; (first | exact Reads.mem (by assumption) | exact Reads.own (by repeat first | exact List.Mem.head _ | assumption | apply List.Mem.tail)); (first | assumption | exact nthL_arr rfl | exact rfl)) | (apply EvS.loadW; exact rfl; (first | exact Reads.mem (by assumption) | exact Reads.own (by repeat first | exact List.Mem.head _ | assumption | apply List.Mem.tail)); first | exact rfl | assumption) | (apply EvS.loadH; exact rfl; (first | exact Reads.mem (by assumption) | exact Reads.own (by repeat first | exact List.Mem.head _ | assumption | apply List.Mem.tail)); assumption; first | exact rfl | assumption)) | exact EvS.ltI rfl rfl | (first | exact EvS.indexAddr rfl rfl (by first | exact rfl | assumption) (by omega) | exact EvS.indexAddrA rfl rfl (by omega)))))
    refine TC.draw' (L1 := [e]) (Lb := _) [.st, .st, .st, .st, .st, .st, .st, .ch, .ch, .st] mixed rfl (by kernel_rfl) ?_
    repeat' (first | (apply D.chx (o := ⟨_, .call _, _, _, _, _⟩); exact rfl; exact Wd.plain rfl; (apply EvC.append; exact rfl; exact rfl; exact hcss; exact Rep1.tail Rep1.head; (apply RdC.whole; (first | exact Reads.mem (by assumption) | exact Reads.own (by repeat first | exact List.Mem.head _ | assumption | apply List.Mem.tail))); exact rfl; exact (by first | exact (fun v hv => by simp at hv; rcases hv with rfl | rfl | rfl | rfl | rfl | rfl | rfl | rfl <;> rfl) | exact (fun v hv => by simp at hv; rcases hv with rfl | rfl | rfl | rfl | rfl | rfl | rfl <;> rfl) | exact (fun v hv => by simp at hv; rcases hv with rfl | rfl | rfl | rfl <;> rfl) | exact (fun v hv => by simp at hv; rcases hv with rfl | rfl <;> rfl) | exact (fun v hv => by simp at hv; subst hv; rfl)); exact rfl; decide; omega; (intro e2; exact Rep1.tail Rep1.head)); exact ownRow_ex (by have h4 : ∀ cs, cs ∈ css → cs.length = 4 := (fun cs hc => by obtain ⟨i, hi, rfl⟩ := List.mem_iff_getElem.1 hc; obtain ⟨W, c, e, _⟩ := hcr i _ _ (List.getElem?_eq_getElem (by rw [← hcl]; exact hi)) (List.getElem?_eq_getElem hi); rw [e]; rfl); rw [List.length_append, flatten_length h4, hcl]; simp; omega) (by simp only [maxLen]; omega); exact fun _ _ h => StX.of2 h; rintro ⟨⟨v2, e2⟩, hrow3⟩) | (apply D.st1; exact rfl; (first | exact Wd.plain rfl | exact Wd.on rfl rfl rfl); (first | exact EvS.move rfl | exact EvS.fieldAddr rfl | (first | (apply EvS.load1; exact rfl; (first | exact Reads.memX (by assumption) | exact Reads.ownX (by repeat first | exact List.Mem.head _ | assumption | apply List.Mem.tail)); (first | assumption | exact nthL_arr rfl | exact rfl)) | (apply EvS.loadW; exact rfl; (first | exact Reads.memX (by assumption) | exact Reads.ownX (by repeat first | exact List.Mem.head _ | assumption | apply List.Mem.tail)); first | exact rfl | assumption) | (apply EvS.loadH; exact rfl; (first | exact Reads.memX (by assumption) | exact Reads.ownX (by repeat first | exact List.Mem.head _ | assumption | apply List.Mem.tail)); assumption; first | exact rfl | assumption)) | (first | exact EvS.indexAddr rfl rfl (by first | exact rfl | assumption) (by omega) | exact EvS.indexAddrA rfl rfl (by omega)))) | (apply D.chx (o := ⟨_, .buildSlice _ _ _, _, _, _, _⟩) ; exact rfl; (first | exact Wd.plain rfl | exact Wd.on rfl rfl rfl); exact EvC.buildA rfl (by exact rfl) (by exact rfl) (by decide) (by decide); exact inferInstance; exact (by first | exact fun _ _ h => StX.of0 h | exact fun _ _ h => StX.of1 h | exact fun _ _ h => StX.of2 h | exact fun _ _ h => StX.of3 h | exact fun _ _ h => StX.of h); intro g) | refine D.tail_ ?_)
    simp only at hrow3 ⊢
    have h3v := ownRow_one hrow3
    repeat' (first | (apply TR.ch0 (o := ⟨_, .store _ _ _, _, _, _, _⟩); exact rfl; exact rfl; exact Wd.plain rfl; exact EvC.store1 rfl rfl h3v (by repeat first | exact Upd.head | apply Upd.tail) (by simp); rintro ⟨⟩) | refine TC.region ?_ | refine TR.nil ?_ | refine Post.then_normal ?_ | refine Post.block_normal ?_ | (apply TR.st1; exact rfl; exact rfl; exact rfl; (first | exact Wd.plain rfl | exact Wd.on rfl rfl rfl); (first | exact EvS.move rfl | (first | exact EvS.addI rfl rfl (by omega) | exact EvS.add64 rfl rfl (by first | with_reducible exact U64.var _ | exact U64.lit rfl) (by first | with_reducible exact U64.var _ | exact U64.lit rfl)))))
    refine Post.nextP ⟨k + 1, v2, e2⟩ ⟨by simp only; omega, ?_⟩ (incl.lk (by repeat first | exact trivial | refine ⟨rfl, ?_⟩)) (fun w h => h.tail) (by simp only; omega)
    have htk1 : q.rules.take (k + 1) = q.rules.take k ++ [r] := by rw [List.take_add_one, hqr]; rfl
    refine ⟨css ++ [[.int .i64 r.kind, .slice B3 r.vars.length c3, .int .i64 r.low, .int .i64 r.high]], ?_, ?_, ?_⟩
    · rw [htk1, List.length_append, List.flatten_append]
      exact hrow3
    · rw [htk1, List.length_append, List.length_append, hcl]; rfl
    · intro i t cs hit hics
      rw [htk1] at hit
      by_cases hi : i < (q.rules.take k).length
      · rw [List.getElem?_append_left hi] at hit
        rw [List.getElem?_append_left (by omega)] at hics
        exact hcr i t cs hit hics
      · rw [List.getElem?_append_right (by omega)] at hit
        rw [List.getElem?_append_right (by omega), hcl] at hics
        cases hz : i - (q.rules.take k).length with
        | zero =>
          rw [hz] at hit hics
          simp at hit hics
          subst hit hics
          exact ⟨B3, c3, rfl, hR4, hR5⟩
        | succ j => rw [hz] at hit; simp at hit
  · have hd : decide ((k : Int) < (lw.length : Int)) = false := by simpa using hlt
    obtain rfl : k = lw.length := by omega
    rw [← hql, List.take_length] at hrow
    refine TC.pull (fun w h => (lend h).1) fun hle2 => ?_
    refine TC.turn (fun w h => (lend h).2) ?_
    obtain ⟨QA, qc, rfl, hQS⟩ := hrow.lent hle2 (by omega)
    obtain ⟨m2, hm2⟩ : ∃ m2, m2 = memO m e := ⟨_, rfl⟩
    rw [← hm2] at hle2 hQS ⊢
    have hqpc : PbC m2 q #[.slice BA p.bounds.length bc, .slice QA q.rules.length qc] := ⟨BA, bc, QA, qc, by rw [hqb], by rw [hqb]; exact hBA.mono hle2, hQS⟩
    have hse := fun (w : World) (L : Own) (hs : St m2 L w) => searched_c q _ hqo (by rw [hqb]; exact hcn) 1 m2 (hT.mono hle2) hqpc L w hs
    have hnp : noneP p lw = if (searchP q 1).op then (false, 8) else (((searchP q 1).sols.length : Int) == 0, 0) := by unfold noneP; rw [← hq]
    obtain ⟨F, hF⟩ : ∃ F, F = searchP q 1 := ⟨_, rfl⟩
    rw [← hF] at hse hnp
    rw [hnp]
    cases hop : F.op with
    | true =>
      rw [hop] at hse
      repeat' (first | (apply TR.ch1 (o := ⟨_, .call _, _, _, _, _⟩); exact rfl; exact rfl; exact rfl; (first | exact Wd.plain rfl | exact Wd.on rfl rfl rfl); exact EvC.callX rfl rfl (fun w hs => hse w _ hs); rintro ⟨⟨m3, A3, c3⟩, hle3, hS3⟩) | refine TC.seq ?_ | refine TC.region ?_ | refine TR.nil ?_ | refine Post.then_normal ?_ | refine TC.ret ?_ | refine TC.exit ?_ | (apply TC.cond_t; exact rfl) | (apply TC.cond_bf; exact rfl; assumption) | refine Post.then_ret ?_ | refine Post.then_exit ?_ | refine Post.block_here ?_ | (apply TR.st1; exact rfl; exact rfl; exact rfl; (first | exact Wd.plain rfl | exact Wd.on rfl rfl rfl); (first | exact EvS.assign rfl | exact EvS.fieldAddr rfl | (first | (apply EvS.load1; exact rfl; (first | exact Reads.mem (by assumption) | exact Reads.own (by repeat first | exact List.Mem.head _ | assumption | apply List.Mem.tail)); (first | assumption | exact nthL_arr rfl | exact rfl)) | (apply EvS.loadW; exact rfl; (first | exact Reads.mem (by assumption) | exact Reads.own (by repeat first | exact List.Mem.head _ | assumption | apply List.Mem.tail)); first | exact rfl | assumption) | (apply EvS.loadH; exact rfl; (first | exact Reads.mem (by assumption) | exact Reads.own (by repeat first | exact List.Mem.head _ | assumption | apply List.Mem.tail)); assumption; first | exact rfl | assumption)) | exact EvS.ltI rfl rfl)) | (apply TR.ch1 (o := ⟨_, .alloc _, _, _, _, _⟩) ; exact rfl; exact rfl; exact rfl; (first | exact Wd.plain rfl | exact Wd.on rfl rfl rfl); exact EvC.alloc; intro g) | (apply TR.ch0 (o := ⟨_, .store _ _ _, _, _, _, _⟩) ; exact rfl; exact rfl; (first | exact Wd.plain rfl | exact Wd.on rfl rfl rfl); exact EvC.storeW rfl rfl (by first | exact rfl | assumption) (by first | exact bArr_one _ | exact rfl | (intro v hv; simp at hv; rcases hv with rfl | rfl | rfl | rfl | rfl | rfl | rfl | rfl <;> rfl)) (by repeat first | exact Upd.head | apply Upd.tail) (by first | exact rfl | assumption); rintro ⟨⟩))
      refine Post.body_ret _ (ResL.two rfl (ResV.tmp rfl) (ResV.tmp rfl)) ?_
      intro w h
      exact ⟨rfl, (h.weaken (hle2.trans hle3)).tail.tail.tail⟩
    | false =>
      rw [hop] at hse
      repeat' (first | (apply TR.ch1 (o := ⟨_, .call _, _, _, _, _⟩); exact rfl; exact rfl; exact rfl; (first | exact Wd.plain rfl | exact Wd.on rfl rfl rfl); exact EvC.callX rfl rfl (fun w hs => hse w _ hs); rintro ⟨⟨m3, A3, c3⟩, hle3, hS3⟩) | refine TC.seq ?_ | refine TC.region ?_ | refine TR.nil ?_ | refine Post.then_normal ?_ | refine TC.skip ?_ | refine TC.ret ?_ | refine TC.exit ?_ | (apply TC.cond_f; exact rfl) | (apply TC.cond_bf; exact rfl; assumption) | refine Post.then_exit ?_ | refine Post.block_here ?_ | (apply TR.st1; exact rfl; exact rfl; exact rfl; (first | exact Wd.plain rfl | exact Wd.on rfl rfl rfl); (first | exact EvS.assign rfl | exact EvS.fieldAddr rfl | (first | (apply EvS.load1; exact rfl; (first | exact Reads.mem (by assumption) | exact Reads.own (by repeat first | exact List.Mem.head _ | assumption | apply List.Mem.tail)); (first | assumption | exact nthL_arr rfl | exact rfl)) | (apply EvS.loadW; exact rfl; (first | exact Reads.mem (by assumption) | exact Reads.own (by repeat first | exact List.Mem.head _ | assumption | apply List.Mem.tail)); first | exact rfl | assumption) | (apply EvS.loadH; exact rfl; (first | exact Reads.mem (by assumption) | exact Reads.own (by repeat first | exact List.Mem.head _ | assumption | apply List.Mem.tail)); assumption; first | exact rfl | assumption)) | exact EvS.len rfl | (first | exact EvS.eq64 rfl rfl (by first | with_reducible exact U64.var _ | exact U64.lit rfl) (by first | with_reducible exact U64.var _ | exact U64.lit rfl) | exact EvS.eqI rfl rfl | exact EvS.eqB rfl rfl) | exact EvS.ltI rfl rfl)) | (apply TR.ch1 (o := ⟨_, .alloc _, _, _, _, _⟩) ; exact rfl; exact rfl; exact rfl; (first | exact Wd.plain rfl | exact Wd.on rfl rfl rfl); exact EvC.alloc; intro g) | (apply TR.ch0 (o := ⟨_, .store _ _ _, _, _, _, _⟩) ; exact rfl; exact rfl; (first | exact Wd.plain rfl | exact Wd.on rfl rfl rfl); exact EvC.storeW rfl rfl (by first | exact rfl | assumption) (by first | exact bArr_one _ | exact rfl | (intro v hv; simp at hv; rcases hv with rfl | rfl | rfl | rfl | rfl | rfl | rfl | rfl <;> rfl)) (by repeat first | exact Upd.head | apply Upd.tail) (by first | exact rfl | assumption); rintro ⟨⟩))
      refine Post.body_ret _ (ResL.two rfl (ResV.tmp rfl) (ResV.tmp rfl)) ?_
      intro w h
      exact ⟨rfl, (h.weaken (hle2.trans hle3)).tail.tail.tail⟩
end Go.Proofs.YtgpgjpcebajofaaGreatDoor
set_option maxHeartbeats 4000000
set_option linter.unusedVariables false
set_option linter.unusedSimpArgs false
set_option maxRecDepth 100000
namespace Go.Proofs.YtgpgjpcebajofaaGreatDoor
open Go Go.XC Go.RowKit Go.SetsP
attribute [local irreducible] Post TC TR D WL EvS EvC Wd ResL Code.wpIn Exit.then Exit.inBlock Exit.noGoto LoopK LoopP bodyPostM Reads Calls

def coreL (p : Pb) : List Nat → List Nat → List Nat × Int
  | [], lw => (lw, 0)
  | i :: is, lw => if (noneP p (lw.eraseIdx i)).2 != 0 then ([], (noneP p (lw.eraseIdx i)).2) else coreL p is (if (noneP p (lw.eraseIdx i)).1 then lw.eraseIdx i else lw)
def coreP (p : Pb) : List Nat × Int :=
  if checkB p then
    if (noneP p (List.range p.rules.length)).2 != 0 then ([], (noneP p (List.range p.rules.length)).2)
    else if !(noneP p (List.range p.rules.length)).1 then ([], 5)
    else coreL p (List.range p.rules.length).reverse (List.range p.rules.length)
  else ([], 2)
theorem core_bad (p : Pb) (pcs : Array Value) (hck : checkB p = false) (h9 : p.bounds.length ≤ 1000) (h13 : p.rules.length ≤ 1000) (m : Mem) (hpc : PbC m p pcs) (L : Own) (w : World) (hs : St m L w) :
    Calls Tryz.prog 14 #[.agg pcs] w fun x w' => x = .returned (.tuple #[.slice none 0 0, .int .i64 2]) ∧ St m L w' := by
  have hpc0 := hpc
  obtain ⟨BA, bc, RA, rc, rfl, hBA, hRA⟩ := hpc
  have he : (errI (checkB p) != 0) = true := by rw [hck]; rfl
  refine calls_of_TC (args := [_]) Tryz.func14 rfl Tryz.ntmps14 (Nat.le_of_ble_eq_true rfl) hs ?_
  repeat' (first | (apply a_call; exact EvC.callV rfl rfl (fun w hs => check_c p _ h9 h13 _ hpc0 _ _ hs); exact rfl; exact wd; rintro ⟨⟩) | refine TC.seq ?_ | refine TC.region ?_ | refine TR.nil ?_ | refine Post.then_normal ?_ | refine TC.ret ?_ | (apply TC.cond_bt; exact rfl; assumption) | refine Post.then_ret ?_ | (apply a_assign; exact a_assigns) | (apply a_load; exact a_loads) | (apply a_bneq; exact a_bneqs) | (apply c_boxA; exact c_boxAs; exact rfl; intro g))
  (refine Post.body_ret _ (ResL.two rfl (ResV.tmp rfl) (ResV.tmp rfl)) ?_; intro wR hR; exact ⟨rfl, (by repeat first | exact hR | replace hR := hR.tail)⟩)
theorem core_ok (p : Pb) (pcs : Array Value) (hck : checkB p = true) (m : Mem) (hT : TabM m) (hpc : PbC m p pcs) (L : Own) (w : World) (hs : St m L w) :
    Calls Tryz.prog 14 #[.agg pcs] w fun x w' => ∃ y : { y : Mem × Option Addr × Nat // m.Le y.1 ∧ Sl y.1 1 y.2.1 (ints (zs (coreP p).1)) },
      x = .returned (.tuple #[.slice y.1.2.1 (coreP p).1.length y.1.2.2, .int .i64 (coreP p).2]) ∧ St y.1.1 L w' := by
  have hp := okP_of hck
  have hcn := Cn.pad hck
  have hpc0 := hpc
  obtain ⟨BA, bc, RA, rc, rfl, hBA, hRA⟩ := hpc
  have he : (errI (checkB p) != 0) = false := by rw [hck]; rfl
  have hr12 := hp.r12
  have hb8 := hp.b8
  have hno := fun (l : List Nat) (hl : ∀ k, k ∈ l → k < p.rules.length) (hn : l.length ≤ 12) (W : Option Addr) (kw : Nat) (m' : Mem) (hm : m.Le m') (hW : Sl m' 1 W (ints (zs l))) (L : Own) (w : World) (hs : St m' L w) =>
    none_c p #[.slice BA p.bounds.length bc, .slice RA p.rules.length rc] hp hcn W kw l hl hn m' (hT.mono hm) (hpc0.mono hm) hW L w hs
  refine calls_of_TC (args := [_]) Tryz.func14 rfl Tryz.ntmps14 (Nat.le_of_ble_eq_true rfl) hs ?_
  repeat' (first | (apply a_call; exact EvC.callV rfl rfl (fun w hs => check_c p _ (by omega) (by omega) _ hpc0 _ _ hs); exact rfl; exact wd; rintro ⟨⟩) | refine TC.seq ?_ | refine TC.region ?_ | refine TR.nil ?_ | refine Post.then_normal ?_ | refine TC.block ?_ | refine TC.skip ?_ | (apply TC.cond_bf; exact rfl; assumption) | (apply a_move; exact a_moves) | (apply a_assign; exact a_assigns) | (apply a_fieldAddr; exact a_fieldAddrs) | (apply a_load; exact a_loads) | (apply a_len; exact a_lens) | (apply a_bneq; exact a_bneqs) | (apply c_boxA; exact c_boxAs; exact rfl; intro g))
  obtain ⟨gp, hgp⟩ : ∃ x, x = g := ⟨_, rfl⟩
  subst hgp
  refine TC.turn (fun w h => h.addNone) ?_
  refine TC.loopP (X := Gr) (fun x => x.k ≤ p.rules.length ∧ OwnRow x.v 3 1 x.k (vals (zs (List.range x.k))) x.e)
    (fun x => [(18, .int .i64 (x.k : Int)), (17, .int .i64 (p.rules.length : Int)), (4, x.v), (1, .pointer (some ⟨gp, 0, none⟩))])
    (fun x => St m (x.e :: some (gp, .cells #[.slice BA p.bounds.length bc, .slice RA p.rules.length rc] 25 (0, 0)) :: L)) (fun x => p.rules.length - x.k) ⟨0, .slice none 0 0, none⟩ ⟨Nat.zero_le _, OwnRow.nil⟩ inc (fun w h => h) ?_
  rintro ⟨k, v, e⟩ ⟨hk, hrow⟩
  simp only at hk hrow ⊢
  by_cases hlt : k < p.rules.length
  · have hd : decide ((k : Int) < (p.rules.length : Int)) = true := by simpa using hlt
    repeat' (first | refine TC.seq ?_ | refine TC.region ?_ | refine TR.nil ?_ | refine Post.then_normal ?_ | refine TC.block ?_ | refine TC.skip ?_ | (apply TC.cond_bt; exact rfl; assumption) | (apply a_move; exact a_moves) | (apply a_assign; exact a_assigns) | (apply a_blss; exact a_blsss) | (apply c_build1; exact c_build1s; exact rfl; intro g))
    (apply TR.ch1 (o := ⟨_, .call _, _, _, _, _⟩); exact rfl; exact rfl; exact rfl; (first | exact Wd.plain rfl | exact Wd.on rfl rfl rfl); (apply EvC.append; exact rfl; exact rfl; exact hrow; exact Rep1.tail (Rep1.head); (apply RdC.whole; (first | exact Reads.mem (by assumption) | exact Reads.own (by repeat first | exact List.Mem.head _ | assumption | apply List.Mem.tail) | assumption)); exact rfl; exact (by first | exact (fun v hv => by simp at hv; rcases hv with rfl | rfl | rfl | rfl | rfl | rfl | rfl | rfl <;> rfl) | exact (fun v hv => by simp at hv; rcases hv with rfl | rfl | rfl | rfl | rfl | rfl | rfl <;> rfl) | exact (fun v hv => by simp at hv; rcases hv with rfl | rfl | rfl | rfl <;> rfl) | exact (fun v hv => by simp at hv; rcases hv with rfl | rfl <;> rfl) | exact (fun v hv => by simp at hv; subst hv; rfl)); exact rfl; decide; omega; (intro e2; exact Rep1.tail (Rep1.head))); intro p)
    obtain ⟨⟨v2, e2⟩, hrow2⟩ := p
    repeat' (first | refine TC.region ?_ | refine TR.nil ?_ | refine Post.then_normal ?_ | refine Post.block_normal ?_ | (apply a_move; exact a_moves) | (apply a_assign; exact a_assigns) | (apply a_badd; exact a_badds))
    refine Post.nextP ⟨k + 1, v2, e2⟩ ⟨by simp only; omega, ?_⟩ inc (fun w h => h.tail) (by simp only; omega)
    have hzk : vals (zs [k]) = [.int .i64 (k : Int)] := rfl
    simp only
    rw [List.range_succ, vals_zs_append, hzk]
    exact hrow2
  have hd : decide ((k : Int) < (p.rules.length : Int)) = false := by simpa using hlt
  obtain rfl : k = p.rules.length := by omega
  obtain ⟨l0, hl0⟩ : ∃ l0, l0 = List.range p.rules.length := ⟨_, rfl⟩
  have hll : l0.length = p.rules.length := by rw [hl0]; simp
  have hlm : ∀ k, k ∈ l0 → k < p.rules.length := by rw [hl0]; intro k hk; simpa using hk
  rw [← hl0] at hrow
  rw [← hll] at hrow
  obtain ⟨Av, cv, rfl, hcv⟩ := ownRow_slice hrow
  obtain ⟨A', c', heq, hc', hSl⟩ := OwnRow.lent (m := m) (css := ints (zs l0)) (by rw [← vals_flat]; exact hrow) (ints_len _) (by simp [ints, zs]) (by omega)
  injection heq with he1 _ he3
  subst he1 he3
  have hcp : coreP p = if (noneP p l0).2 != 0 then ([], (noneP p l0).2) else if !(noneP p l0).1 then ([], 5) else coreL p l0.reverse l0 := by
    unfold coreP; rw [hck, ← hl0]; rfl
  rw [hcp]
  have hno0 := fun (w : World) (hs : St m (e :: some (gp, .cells #[.slice BA p.bounds.length bc, .slice RA p.rules.length rc] 25 (0, 0)) :: L) w) => borrowV hs fun hs2 => hno l0 hlm (by omega) Av cv _ (lend hs).1 hSl _ w hs2
  obtain ⟨N0, hN0⟩ : ∃ N0, N0 = noneP p l0 := ⟨_, rfl⟩
  rw [← hN0] at hno0 ⊢
  repeat' (first | (apply a_call; exact EvC.callV rfl rfl (fun w hs => hno0 w hs); exact rfl; exact wd; rintro ⟨⟩) | refine TC.seq ?_ | refine TC.region ?_ | refine TR.nil ?_ | refine Post.then_normal ?_ | refine TC.block ?_ | refine TC.skip ?_ | refine TC.ret ?_ | refine TC.exit ?_ | (apply TC.cond_bf; exact rfl; assumption) | refine Post.then_ret ?_ | refine Post.then_exit ?_ | refine Post.block_normal ?_ | refine Post.block_ret ?_ | refine Post.block_here ?_ | (apply TC.cond; exact rfl; all_goals (intro h)) | (apply a_move; exact a_moves) | (apply a_assign; exact a_assigns) | (apply a_load; exact a_loads) | (apply a_len; exact a_lens) | (apply a_unOp; exact a_unOps) | (apply a_bneq; exact a_bneqs) | (apply a_blss; exact a_blsss) | (apply a_bsub; exact a_bsubs) | (apply a_extract; exact a_extracts))
  · rw [if_pos h]
    refine Post.body_ret _ (ResL.two rfl (ResV.tmp rfl) (ResV.tmp rfl)) ?_
    intro w h
    exact ⟨⟨(m, none, 0), Mem.Le.refl _, Sl.nil⟩, rfl, h.tail.tail⟩
  · rename_i h1
    rw [if_neg (by rw [h1]; simp), if_pos h]
    refine Post.body_ret _ (ResL.two rfl (ResV.tmp rfl) (ResV.tmp rfl)) ?_
    intro w h
    exact ⟨⟨(m, none, 0), Mem.Le.refl _, Sl.nil⟩, rfl, h.tail.tail⟩
  rename_i h1
  rw [if_neg (by rw [h1]; simp), if_neg (by rw [h]; simp)]
  obtain ⟨Res, hRes⟩ : ∃ Res, Res = coreL p l0.reverse l0 := ⟨_, rfl⟩
  rw [← hRes]
  refine TC.loopP (X := Wy) (fun x => OwnRow x.v 3 1 x.l.length (vals (zs x.l)) x.e ∧ x.k ≤ x.l.length ∧ x.l.length ≤ 12 ∧ (∀ k, k ∈ x.l → k < p.rules.length) ∧ coreL p (List.range x.k).reverse x.l = Res)
    (fun x => [(8, .int .i64 ((x.k : Int) - 1)), (4, x.v), (1, .pointer (some ⟨gp, 0, none⟩))])
    (fun x => St m (x.e :: some (gp, .cells #[.slice BA p.bounds.length bc, .slice RA p.rules.length rc] 25 (0, 0)) :: L)) (fun x => x.k) ⟨l0.length, l0, _, e⟩ ⟨hrow, Nat.le_refl _, by simp only; omega, hlm, by simp only; rw [hRes, hll, hl0]⟩ inc (fun w h => h) ?_
  clear hrow hcv hSl hc' hno0 h h1 hN0 hRes hcp
  clear Av cv
  rintro ⟨k, l, v, e⟩ ⟨hrow, hkl, hl12, hmem, hfold⟩
  simp only at hrow hkl hl12 hmem hfold ⊢
  obtain ⟨Av, cv, rfl, hcv⟩ := ownRow_slice hrow
  obtain ⟨A', c', heq, hc', hSl⟩ := OwnRow.lent (m := m) (css := ints (zs l)) (by rw [← vals_flat]; exact hrow) (ints_len _) (by simp [ints, zs]) (by omega)
  injection heq with he1 _ he3
  subst he1 he3
  cases k with
  | zero =>
    have hd2 : decide (((0 : Nat) : Int) - 1 ≥ 0) = false := by decide
    repeat' (first | refine TC.seq ?_ | refine TC.region ?_ | refine TR.nil ?_ | refine Post.then_normal ?_ | refine TC.ret ?_ | refine TC.exit ?_ | (apply TC.cond_f; exact rfl) | refine Post.then_exit ?_ | refine Post.block_here ?_ | (apply a_move; exact a_moves) | (apply a_assign; exact a_assigns) | (apply a_bgeq; exact a_bgeqs))
    refine Post.body_ret _ (ResL.two rfl (ResV.tmp rfl) (ResV.tmp rfl)) ?_
    intro w h
    rw [← hfold]
    obtain ⟨l1, l2⟩ := lend h
    exact ⟨⟨(_, Av, cv), l1, hSl⟩, rfl, l2.tail⟩
  | succ i =>
    have hd2 : decide (((i + 1 : Nat) : Int) - 1 ≥ 0) = true := by simp
    have hi1 : ((i + 1 : Nat) : Int) - 1 = (i : Int) := by omega
    have hi2 : (i : Int) + 1 = ((i + 1 : Nat) : Int) := rfl
    rw [List.range_succ, List.reverse_append] at hfold
    simp only [List.reverse_cons, List.reverse_nil, List.nil_append, List.singleton_append] at hfold
    have hmem2 : ∀ k, k ∈ l.eraseIdx i → k < p.rules.length := fun k hk => hmem k (List.mem_of_mem_eraseIdx hk)
    have hzl : (zs l).length = l.length := zs_length l
    rw [hi1] at *
    repeat' (first | (apply a_call; exact EvC.callX rfl rfl (fun w hs => borrowAt1 Rep1.head hs (fun hs => by have := clone_c Av cv (zs l) (by rw [hzl]; omega) _ _ w hs hSl; rw [hzl] at this; exact this)); exact rfl; exact wd; rintro ⟨⟨v1, e1⟩, hrow1⟩) | refine TC.seq ?_ | refine TC.region ?_ | refine TR.nil ?_ | refine Post.then_normal ?_ | refine TC.block ?_ | refine TC.skip ?_ | (apply TC.cond_t; exact rfl) | (apply a_move; exact a_moves) | (apply a_bgeq; exact a_bgeqs) | (apply a_badd; exact a_badds))
    simp only at hrow1 ⊢
    rw [hi2]
    rw [← hzl] at hrow1
    have hil : i < (zs l).length := by omega
    (apply a_call; exact EvC.callX rfl rfl (fun w hs => delete_c v1 e1 (zs l) i hil hrow1 _ _ w hs); exact rfl; exact wd; rintro ⟨⟨v2, e2⟩, hrow2⟩)
    simp only at hrow2 ⊢
    rw [← zs_erase, hzl] at hrow2
    have hel : (l.eraseIdx i).length = l.length - 1 := by rw [List.length_eraseIdx, if_pos (by omega)]
    rw [← hel] at hrow2
    obtain ⟨A2, c2, rfl, hc2⟩ := ownRow_slice hrow2
    obtain ⟨A2', c2', he2, hc2', hSl2⟩ := OwnRow.lent (m := m) (css := ints (zs (l.eraseIdx i))) (by rw [← vals_flat]; exact hrow2) (ints_len _) (by simp [ints, zs]) (by omega)
    injection he2 with he1 _ he3
    subst he1 he3
    have hno2 := fun (w : World) (hs : St m (e2 :: e :: some (gp, .cells #[.slice BA p.bounds.length bc, .slice RA p.rules.length rc] 25 (0, 0)) :: L) w) => borrowV hs fun hs2 => hno (l.eraseIdx i) hmem2 (by omega) A2 c2 _ (lend hs).1 hSl2 _ w hs2
    unfold coreL at hfold
    obtain ⟨N2, hN2⟩ : ∃ N2, N2 = noneP p (l.eraseIdx i) := ⟨_, rfl⟩
    rw [← hN2] at hno2 hfold
    repeat' (first | (apply a_call; exact EvC.callV rfl rfl (fun w hs => hno2 w hs); exact rfl; exact wd; rintro ⟨⟩) | refine TC.seq ?_ | refine TC.region ?_ | refine TR.nil ?_ | refine Post.then_normal ?_ | refine TC.skip ?_ | refine TC.ret ?_ | refine Post.then_ret ?_ | refine Post.block_normal ?_ | refine Post.block_ret ?_ | (apply TC.cond; exact rfl; all_goals (intro h)) | (apply a_move; exact a_moves) | (apply a_assign; exact a_assigns) | (apply a_load; exact a_loads) | (apply a_bneq; exact a_bneqs) | (apply a_bsub; exact a_bsubs) | (apply a_extract; exact a_extracts))
    · rw [if_pos h] at hfold
      rw [← hfold]
      refine Post.body_ret _ (ResL.two rfl (ResV.tmp rfl) (ResV.tmp rfl)) ?_
      intro w h
      exact ⟨⟨(m, none, 0), Mem.Le.refl _, Sl.nil⟩, rfl, h.tail.tail.tail⟩
    · rename_i h1
      rw [if_neg (by rw [h1]; simp), if_pos h] at hfold
      exact Post.nextP ⟨i, l.eraseIdx i, _, e2⟩ ⟨hrow2, by simp only; omega, by simp only; omega, hmem2, hfold⟩ inc (fun w h => h.sublist (List.Sublist.cons_cons _ (List.Sublist.cons _ (List.Sublist.refl _)))) (by simp only; omega)
    · rename_i h1
      rw [if_neg (by rw [h1]; simp), if_neg (by rw [h]; simp)] at hfold
      exact Post.nextP ⟨i, l, _, e⟩ ⟨hrow, by simp only; omega, hl12, hmem, hfold⟩ inc (fun w h => h.tail) (by simp only; omega)
end Go.Proofs.YtgpgjpcebajofaaGreatDoor
set_option maxHeartbeats 4000000
set_option linter.unusedVariables false
set_option linter.unusedSimpArgs false
set_option maxRecDepth 100000
namespace Go.Proofs.YtgpgjpcebajofaaGreatDoor
open Go Go.XC Go.RowKit Go.SetsP
attribute [local irreducible] Post TC TR D WL EvS EvC Wd ResL Code.wpIn Exit.then Exit.inBlock Exit.noGoto LoopK LoopP bodyPostM Reads Calls

theorem in_c (n l h : Int) (m : Mem) (L : Own) (w : World) (hs : St m L w) :
    Calls Tryz.prog 52 #[.int .i64 n, .int .i64 l, .int .i64 h] w fun r w' => r = .returned (.bool (decide (l ≤ n ∧ n ≤ h))) ∧ St m L w' := by
  refine calls_of_TC (args := [_, _, _]) Tryz.func52 rfl Tryz.ntmps52 (Nat.le_of_ble_eq_true rfl) hs ?_
  repeat' (first | refine TC.seq ?_ | refine TC.region ?_ | refine TR.nil ?_ | refine Post.then_normal ?_ | refine TC.ret ?_ | (apply a_sk; exact a_sks) | (apply a_gs; exact a_gss; all_goals (intro h)) | (apply a_move; exact a_moves) | (apply a_assign; exact a_assigns) | (apply a_bleq; exact a_bleqs) | (apply a_bgeq; exact a_bgeqs) | (apply a_pick; exact a_picks))
  all_goals exact Post.body_ret _ (ResL.one rfl (ResV.tmp rfl)) fun w h => ⟨by congr 2; simp_all <;> omega, h⟩
theorem EvS.convU {P : Program} {N : Nat} {E : Env} {Sb : World → Prop} {d : Option Tmp} {ty t : TypeId} {pos : String} {aft : Array Edge} {gd : Option (Nat × Bool)} {x : Operand} {s : TypeId} {k : IntKind} {a : Nat} [hs : IntT P s k] [hd : IntT P t .u64] (hx : evE E x = some (.int k (a : Int))) (h : a < 18446744073709551616) : EvS P N ⟨d, .convert s t x, ty, pos, aft, gd⟩ E Sb (.int .u64 (a : Int)) := by
  have := EvS.convI (P := P) (N := N) (s := s) (t := t) (d := d) (ty := ty) (pos := pos) (aft := aft) (gd := gd) (Sb := Sb) (kd := .u64) hx
  rwa [show IntKind.u64.wrap (a : Int) = (a : Int) by rw [wrap_u64]; omega] at this
theorem shr_one (s : BV) (e : Nat) (he : e < 64) : ((s >>> e &&& 1#64) == 1#64) = has s e := by
  unfold has
  have h1 : (s >>> e &&& 1#64) = if s.getLsbD e then 1#64 else 0#64 := by
    apply BitVec.eq_of_getLsbD_eq
    intro k hk
    rw [BitVec.getLsbD_and, BitVec.getLsbD_ushiftRight]
    by_cases h0 : k = 0
    · subst h0
      cases s.getLsbD e <;> simp
    · have : (1#64).getLsbD k = false := by rw [BitVec.getLsbD_one]; simp [h0]
      rw [this, Bool.and_false]
      split
      · rw [this]
      · simp
  rw [h1]
  cases s.getLsbD e <;> rfl
theorem has_c (s : BV) (e : Nat) (he : e < 12) (m : Mem) (L : Own) (w : World) (hs : St m L w) :
    Calls Tryz.prog 64 #[.int .u64 (s.toNat : Int), .int .i64 (e : Int)] w fun r w' => r = .returned (.bool (has s e)) ∧ St m L w' := by
  have hin : decide (0 ≤ (e : Int) ∧ (e : Int) ≤ 11) = true := by simp; omega
  refine calls_of_TC (args := [_, _]) Tryz.func64 rfl Tryz.ntmps64 (Nat.le_of_ble_eq_true rfl) hs ?_
  repeat' (first | (apply a_call; exact EvC.callV rfl rfl (fun w hs => in_c _ _ _ _ _ _ hs); exact rfl; exact wd; rintro ⟨⟩) | refine TC.seq ?_ | refine TC.region ?_ | refine TR.nil ?_ | refine Post.then_normal ?_ | refine TC.ret ?_ | (apply a_gt; exact a_gss; (first | exact rfl | assumption)) | (apply TR.st1 (o := ⟨_, .convert _ _ _, _, _, _, _⟩); exact rfl; exact rfl; exact rfl; (first | exact Wd.plain rfl | exact Wd.on rfl rfl rfl); exact EvS.convU rfl (by omega)) | (apply a_move; exact a_moves) | (apply a_assign; exact a_assigns) | (apply a_beql; exact a_beqls) | (apply a_band; exact a_bands) | (apply a_pick; exact a_picks) | (apply a_bshr; exact a_bshrs))
  (refine Post.body_ret _ (ResL.one rfl (ResV.tmp rfl)) ?_; intro wR hR; exact ⟨by rw [← shr_one s e (by omega)]; rfl, (by repeat first | exact hR | replace hR := hR.tail)⟩)
theorem count_c (s : BV) (m : Mem) (L : Own) (w : World) (hs : St m L w) :
    Calls Tryz.prog 25 #[.int .u64 (s.toNat : Int)] w fun r w' => r = .returned (.int .i64 (pop s : Int)) ∧ St m L w' := by
  refine calls_of_TC (args := [_]) Tryz.func25 rfl Tryz.ntmps25 (Nat.le_of_ble_eq_true rfl) hs ?_
  repeat' (first | refine TC.seq ?_ | refine TC.region ?_ | refine TR.nil ?_ | refine Post.then_normal ?_ | refine TC.block ?_ | (apply a_assign; exact a_assigns))
  refine TC.loopP (X := Nat) (fun k => k ≤ 12) (fun k => [(3, .int .i64 (((List.range k).countP (has s) : Nat) : Int)), (4, .int .i64 (k : Int)), (0, .int .u64 (s.toNat : Int))]) (fun _ => St m L) (fun k => 12 - k) 0 (by omega) inc (fun w h => h) ?_
  intro k hk
  have hcl : (List.range k).countP (has s) ≤ k := by have := List.countP_le_length (p := has s) (l := List.range k); simpa using this
  by_cases hlt : k < 12
  · have hd : decide ((k : Int) < 12) = true := by simp; omega
    have hnx : (List.range (k + 1)).countP (has s) = (List.range k).countP (has s) + if has s k then 1 else 0 := by
      rw [List.range_succ, List.countP_append, List.countP_cons, List.countP_nil]; simp
    repeat' (first | (apply a_call; exact EvC.callV rfl rfl (fun w hs => has_c s k hlt _ _ _ hs); exact rfl; exact wd; rintro ⟨⟩) | refine TC.seq ?_ | refine TC.region ?_ | refine TR.nil ?_ | refine Post.then_normal ?_ | refine TC.block ?_ | refine TC.skip ?_ | (apply TC.cond_bt; exact rfl; assumption) | refine Post.block_normal ?_ | (apply TC.cond; exact rfl; all_goals (intro h)) | (apply a_move; exact a_moves) | (apply a_assign; exact a_assigns) | (apply a_blss; exact a_blsss) | (apply a_badd; exact a_badds))
    · rw [h] at hnx
      refine Post.nextP (k + 1) (by omega) (fun s v h => ?_) (fun w h => h) (by omega)
      simp only [hnx, if_true] at h
      exact (show _ from inc) s v h
    · rw [h] at hnx
      refine Post.nextP (k + 1) (by omega) (fun s v h => ?_) (fun w h => h) (by omega)
      simp only [hnx, Bool.false_eq_true, if_false, Nat.add_zero] at h
      exact (show _ from inc) s v h
  · have hd : decide ((k : Int) < 12) = false := by simp; omega
    obtain rfl : k = 12 := by omega
    repeat' (first | refine TC.seq ?_ | refine TC.region ?_ | refine TR.nil ?_ | refine Post.then_normal ?_ | refine TC.ret ?_ | refine TC.exit ?_ | (apply TC.cond_f; exact rfl) | refine Post.then_exit ?_ | refine Post.block_here ?_ | (apply a_move; exact a_moves) | (apply a_assign; exact a_assigns) | (apply a_blss; exact a_blsss))
    (refine Post.body_ret _ (ResL.one rfl (ResV.tmp rfl)) ?_; intro wR hR; exact ⟨rfl, (by repeat first | exact hR | replace hR := hR.tail)⟩)
theorem set_c (s : BV) (m : Mem) (L : Own) (w : World) (hs : St m L w) :
    Calls Tryz.prog 53 #[.int .u64 (s.toNat : Int)] w fun r w' => r = .returned (.bool ((s &&& ~~~4095#64) == 0#64)) ∧ St m L w' := by
  have he : ((s >>> (12 : Int).toNat) == 0#64) = ((s &&& ~~~4095#64) == 0#64) := by
    rw [Bool.eq_iff_iff, beq_iff_eq, beq_iff_eq]
    constructor
    · intro h
      apply BitVec.eq_of_getLsbD_eq
      intro i hi
      rw [BitVec.getLsbD_and, BitVec.getLsbD_not]
      by_cases h12 : i < 12
      · have : ∀ j, j < 12 → (4095#64).getLsbD j = true := by decide
        simp [this i h12]
      · have h2 : (s >>> 12).getLsbD (i - 12) = false := by rw [show s >>> 12 = 0#64 from h]; simp
        rw [BitVec.getLsbD_ushiftRight, show 12 + (i - 12) = i by omega] at h2
        simp [h2]
    · intro h
      have hsm : small s := small_of (by simpa using h)
      apply BitVec.eq_of_toNat_eq
      rw [BitVec.toNat_ushiftRight, Nat.shiftRight_eq_div_pow]
      exact Nat.div_eq_of_lt hsm
  refine calls_of_TC (args := [_]) Tryz.func53 rfl Tryz.ntmps53 (Nat.le_of_ble_eq_true rfl) hs ?_
  repeat' (first | refine TC.seq ?_ | refine TC.region ?_ | refine TR.nil ?_ | refine Post.then_normal ?_ | refine TC.ret ?_ | (apply a_move; exact a_moves) | (apply a_assign; exact a_assigns) | (apply a_beql; exact a_beqls) | (apply a_bshr; exact a_bshrs))
  (refine Post.body_ret _ (ResL.one rfl (ResV.tmp rfl)) ?_; intro wR hR; exact ⟨by rw [← he], (by repeat first | exact hR | replace hR := hR.tail)⟩)
theorem asks_c (k : Int) (m : Mem) (L : Own) (w : World) (hs : St m L w) :
    Calls Tryz.prog 86 #[.int .i64 k] w fun r w' => r = .returned (.int .i64 (varsZ k)) ∧ St m L w' := by
  refine calls_of_TC (args := [_]) Tryz.func86 rfl Tryz.ntmps86 (Nat.le_of_ble_eq_true rfl) hs ?_
  repeat' (first | refine TC.seq ?_ | refine TC.region ?_ | refine TR.nil ?_ | refine Post.then_normal ?_ | refine TC.block ?_ | refine TC.skip ?_ | refine TC.ret ?_ | (apply TC.cond_bt; exact rfl; assumption) | refine Post.then_ret ?_ | refine Post.block_normal ?_ | refine Post.block_ret ?_ | (apply TC.cond; exact rfl; all_goals (intro h)) | (apply a_move; exact a_moves) | (apply a_assign; exact a_assigns) | (apply a_beql; exact a_beqls))
  all_goals exact Post.body_ret _ (ResL.one rfl (ResV.tmp rfl)) fun w h => ⟨by unfold varsZ; simp_all, h⟩
end Go.Proofs.YtgpgjpcebajofaaGreatDoor
set_option maxHeartbeats 4000000
set_option linter.unusedVariables false
set_option linter.unusedSimpArgs false
set_option maxRecDepth 100000
namespace Go.Proofs.YtgpgjpcebajofaaGreatDoor
open Go Go.XC Go.RowKit Go.SetsP
attribute [local irreducible] Post TC TR D WL EvS EvC Wd ResL Code.wpIn Exit.then Exit.inBlock Exit.noGoto LoopK LoopP bodyPostM Reads Calls

theorem openN_take {l : List Bd} {k : Nat} {x : Bd} (h : l[k]? = some x) : openN (l.take (k + 1)) = openN (l.take k) + pop (openB x) := by
  unfold openN
  rw [List.take_add_one, h]
  simp
theorem pop_le (s : BV) : pop s ≤ 12 := by
  have := List.countP_le_length (p := has s) (l := List.range 12)
  simpa [pop] using this
theorem openN_len : ∀ (l : List Bd), openN l ≤ l.length * 12 := by
  intro l
  unfold openN
  induction l with
  | nil => simp
  | cons a l ih =>
    have h1 := pop_le (openB a)
    simp only [List.map_cons, List.sum_cons, List.length_cons]
    omega
theorem open_c (p : Pb) (pcs : Array Value) (h9 : p.bounds.length ≤ 1000) (m : Mem) (hpc : PbC m p pcs) (L : Own) (w : World) (hs : St m L w) :
    Calls Tryz.prog 6 #[.agg pcs] w fun x w' => x = .returned (.int .i64 (openN p.bounds : Int)) ∧ St m L w' := by
  have hpc0 := hpc
  obtain ⟨BA, bc, RA, rc, rfl, hBA, hRA⟩ := hpc
  refine calls_of_TC (args := [_]) Tryz.func6 rfl Tryz.ntmps6 (Nat.le_of_ble_eq_true rfl) hs ?_
  repeat' (first | refine TC.seq ?_ | refine TC.region ?_ | refine TR.nil ?_ | refine Post.then_normal ?_ | refine TC.block ?_ | (apply TR.st1 (o := ⟨_, .assign _, _, _, _, _⟩); exact rfl; exact rfl; exact rfl; (first | exact Wd.plain rfl | exact Wd.on rfl rfl rfl); exact EvS.assign rfl) | (apply TR.ch1 (o := ⟨_, .box _ _, _, _, _, _⟩) ; exact rfl; exact rfl; exact rfl; (first | exact Wd.plain rfl | exact Wd.on rfl rfl rfl); exact EvC.boxA rfl; intro g))
  obtain ⟨gp, hgp⟩ : ∃ x, x = g := ⟨_, rfl⟩
  subst hgp
  refine TC.loopP (X := Nat) (fun k => k ≤ p.bounds.length) (fun k => [(3, .int .i64 (openN (p.bounds.take k) : Int)), (4, .int .i64 (k : Int)), (1, .pointer (some ⟨gp, 0, none⟩))]) (fun _ => St m (some (gp, .cells #[.slice BA p.bounds.length bc, .slice RA p.rules.length rc] 25 (0, 0)) :: L)) (fun k => p.bounds.length - k) 0 (by omega) (incl.lk (by repeat first | exact trivial | refine ⟨rfl, ?_⟩)) (fun w h => h) ?_
  intro k hk
  by_cases hlt : k < p.bounds.length
  · obtain ⟨x, hx⟩ : ∃ x, p.bounds[k]? = some x := ⟨_, List.getElem?_eq_getElem hlt⟩
    have hd : decide ((k : Int) < (p.bounds.length : Int)) = true := by simpa using hlt
    obtain ⟨g1, o, blk, T, fr, hAe, hm, hc⟩ := hBA.get (k := k) (cs := bdC x) (by simp [bds, hx])
    have hlo : blk[o + (k : Int).toNat * 2 + 0]? = some (.int .u64 (x.lo.toNat : Int)) := hc 0 _ rfl
    have hcan : blk[o + (k : Int).toNat * 2 + 1]? = some (.int .u64 (x.can.toNat : Int)) := hc 1 _ rfl
    clear hc
    have h1 := openN_len (p.bounds.take k)
    have h2 : (p.bounds.take k).length ≤ 1000 := by rw [List.length_take]; omega
    have h3 := pop_le (openB x)
    have hcnt := fun (w : World) (L : Own) (hs : St m L w) => count_c (openB x) m L w hs
    have hnx := openN_take hx
    repeat' (first | refine TC.seq ?_ | refine TC.region ?_ | refine TR.nil ?_ | refine Post.then_normal ?_ | refine TC.block ?_ | refine TC.skip ?_ | (apply TC.cond_bt; exact rfl; assumption) | (apply TR.st1; exact rfl; exact rfl; exact rfl; (first | exact Wd.plain rfl | exact Wd.on rfl rfl rfl); (first | exact EvS.move rfl | exact EvS.fieldAddr rfl | (first | (apply EvS.load1; exact rfl; (first | exact Reads.mem (by assumption) | exact Reads.own (by repeat first | exact List.Mem.head _ | assumption | apply List.Mem.tail)); (first | assumption | exact nthL_arr rfl | exact rfl)) | (apply EvS.loadW; exact rfl; (first | exact Reads.mem (by assumption) | exact Reads.own (by repeat first | exact List.Mem.head _ | assumption | apply List.Mem.tail)); first | exact rfl | assumption) | (apply EvS.loadH; exact rfl; (first | exact Reads.mem (by assumption) | exact Reads.own (by repeat first | exact List.Mem.head _ | assumption | apply List.Mem.tail)); assumption; first | exact rfl | assumption)) | exact EvS.len rfl | exact EvS.ltI rfl rfl)))
    refine TC.draw_ [.st, .st, .st, .st, .st, .st, .st, .st, .st, .st, .st, .st, .st, .st, .ch, .st] mixed rfl (by kernel_rfl) ?_
    repeat' (first | (apply D.chx (o := ⟨_, .call _, _, _, _, _⟩); exact rfl; (first | exact Wd.plain rfl | exact Wd.on rfl rfl rfl); exact EvC.callV rfl rfl (fun w hs => hcnt w _ hs); exact inferInstance; exact (by first | exact fun _ _ h => StX.of0 h | exact fun _ _ h => StX.of1 h | exact fun _ _ h => StX.of2 h | exact fun _ _ h => StX.of3 h | exact fun _ _ h => StX.of h); rintro ⟨⟩) | (apply D.st1; exact rfl; (first | exact Wd.plain rfl | exact Wd.on rfl rfl rfl); (first | exact EvS.move rfl | exact EvS.fieldAddr rfl | (first | (apply EvS.load1; exact rfl; (first | exact Reads.memX (by assumption) | exact Reads.ownX (by repeat first | exact List.Mem.head _ | assumption | apply List.Mem.tail)); (first | assumption | exact nthL_arr rfl | exact rfl)) | (apply EvS.loadW; exact rfl; (first | exact Reads.memX (by assumption) | exact Reads.ownX (by repeat first | exact List.Mem.head _ | assumption | apply List.Mem.tail)); first | exact rfl | assumption) | (apply EvS.loadH; exact rfl; (first | exact Reads.memX (by assumption) | exact Reads.ownX (by repeat first | exact List.Mem.head _ | assumption | apply List.Mem.tail)); assumption; first | exact rfl | assumption)) | exact EvS.andNot64 rfl rfl (by first | with_reducible exact U64.var _ | exact U64.lit rfl) (by first | with_reducible exact U64.var _ | exact U64.lit rfl) | (first | exact EvS.addI rfl rfl (by omega) | exact EvS.add64 rfl rfl (by first | with_reducible exact U64.var _ | exact U64.lit rfl) (by first | with_reducible exact U64.var _ | exact U64.lit rfl)) | (first | exact EvS.indexAddr rfl rfl (by first | exact rfl | assumption) (by omega) | exact EvS.indexAddrA rfl rfl (by omega)))) | refine D.tail_ ?_)
    repeat' (first | refine TC.region ?_ | refine TR.nil ?_ | refine Post.then_normal ?_ | refine Post.block_normal ?_ | (apply TR.st1; exact rfl; exact rfl; exact rfl; (first | exact Wd.plain rfl | exact Wd.on rfl rfl rfl); (first | exact EvS.move rfl | exact EvS.assign rfl | (first | exact EvS.addI rfl rfl (by omega) | exact EvS.add64 rfl rfl (by first | with_reducible exact U64.var _ | exact U64.lit rfl) (by first | with_reducible exact U64.var _ | exact U64.lit rfl)))))
    refine Post.nextP (k + 1) (by omega) (fun s v h => ?_) (fun w h => h) (by omega)
    rw [hnx] at h
    exact (show _ from inc) s v h
  · have hd : decide ((k : Int) < (p.bounds.length : Int)) = false := by simpa using hlt
    obtain rfl : k = p.bounds.length := by omega
    rw [List.take_length]
    repeat' (first | refine TC.seq ?_ | refine TC.region ?_ | refine TR.nil ?_ | refine Post.then_normal ?_ | refine TC.ret ?_ | refine TC.exit ?_ | (apply TC.cond_bf; exact rfl; assumption) | refine Post.then_exit ?_ | refine Post.block_here ?_ | (apply TR.st1; exact rfl; exact rfl; exact rfl; (first | exact Wd.plain rfl | exact Wd.on rfl rfl rfl); (first | exact EvS.move rfl | exact EvS.assign rfl | exact EvS.fieldAddr rfl | (first | (apply EvS.load1; exact rfl; (first | exact Reads.mem (by assumption) | exact Reads.own (by repeat first | exact List.Mem.head _ | assumption | apply List.Mem.tail)); (first | assumption | exact nthL_arr rfl | exact rfl)) | (apply EvS.loadW; exact rfl; (first | exact Reads.mem (by assumption) | exact Reads.own (by repeat first | exact List.Mem.head _ | assumption | apply List.Mem.tail)); first | exact rfl | assumption) | (apply EvS.loadH; exact rfl; (first | exact Reads.mem (by assumption) | exact Reads.own (by repeat first | exact List.Mem.head _ | assumption | apply List.Mem.tail)); assumption; first | exact rfl | assumption)) | exact EvS.len rfl | exact EvS.ltI rfl rfl)))
    (refine Post.body_ret _ (ResL.one rfl (ResV.tmp rfl)) ?_; intro wR hR; exact ⟨rfl, (by first | exact hR | exact hR.tail | exact hR.tail.tail | exact hR.tail.tail.tail | exact hR.tail.tail.tail.tail | exact hR.tail.tail.tail.tail.tail | exact hR.tail.tail.tail.tail.tail.tail)⟩)

def smallB (p : Pb) : Bool := decide (p.bounds.length ≤ 9) && decide (p.rules.length ≤ 13) && p.rules.all fun r => decide (r.vars.length ≤ 5)
theorem small_c (p : Pb) (pcs : Array Value) (m : Mem) (hpc : PbC m p pcs) (L : Own) (w : World) (hs : St m L w) :
    Calls Tryz.prog 16 #[.agg pcs] w fun x w' => x = .returned (.bool (smallB p)) ∧ St m L w' := by
  have hpc0 := hpc
  obtain ⟨BA, bc, RA, rc, rfl, hBA, hRA⟩ := hpc
  have hr1 := hRA.big
  refine calls_of_TC (args := [_]) Tryz.func16 rfl Tryz.ntmps16 (Nat.le_of_ble_eq_true rfl) hs ?_
  repeat' (first | refine TC.seq ?_ | refine TC.region ?_ | refine TR.nil ?_ | refine Post.then_normal ?_ | refine TC.block ?_ | refine TC.skip ?_ | refine TC.ret ?_ | (apply TC.cond_t; exact rfl) | refine Post.then_ret ?_ | (apply TC.cond; exact rfl; all_goals (intro h)) | (apply TR.sk1 (o := ⟨_, _, _, _, _, some _⟩); exact rfl; exact rfl; (first | exact Wd.off rfl rfl rfl rfl | exact Wd.offU rfl rfl rfl)) | (apply TR.gs (o := ⟨_, .move _, _, _, _, _⟩); exact rfl; exact rfl; exact rfl; exact rfl; (first | exact Wd.plain rfl | exact Wd.on rfl rfl rfl); exact EvS.move rfl; all_goals (intro h)) | (apply TR.st1; exact rfl; exact rfl; exact rfl; (first | exact Wd.plain rfl | exact Wd.on rfl rfl rfl); (first | exact EvS.assign rfl | exact EvS.fieldAddr rfl | (first | (apply EvS.load1; exact rfl; (first | exact Reads.mem (by assumption) | exact Reads.own (by repeat first | exact List.Mem.head _ | assumption | apply List.Mem.tail)); (first | assumption | exact nthL_arr rfl | exact rfl)) | (apply EvS.loadW; exact rfl; (first | exact Reads.mem (by assumption) | exact Reads.own (by repeat first | exact List.Mem.head _ | assumption | apply List.Mem.tail)); first | exact rfl | assumption) | (apply EvS.loadH; exact rfl; (first | exact Reads.mem (by assumption) | exact Reads.own (by repeat first | exact List.Mem.head _ | assumption | apply List.Mem.tail)); assumption; first | exact rfl | assumption)) | exact EvS.len rfl | exact EvS.gtI rfl rfl | (first | exact EvS.pick_t rfl rfl | exact EvS.pick_f rfl rfl))) | (apply TR.ch1 (o := ⟨_, .box _ _, _, _, _, _⟩) ; exact rfl; exact rfl; exact rfl; (first | exact Wd.plain rfl | exact Wd.on rfl rfl rfl); exact EvC.boxA rfl; intro g))
  · (refine Post.body_ret _ (ResL.one rfl (ResV.tmp rfl)) ?_; intro wR hR; exact ⟨by congr 1; unfold smallB; rw [show decide (p.bounds.length ≤ 9) = false by have := of_decide_eq_true h; rw [decide_eq_false_iff_not]; omega]; rfl, (by first | exact hR | exact hR.tail | exact hR.tail.tail | exact hR.tail.tail.tail | exact hR.tail.tail.tail.tail | exact hR.tail.tail.tail.tail.tail | exact hR.tail.tail.tail.tail.tail.tail)⟩)
  · (refine Post.body_ret _ (ResL.one rfl (ResV.tmp rfl)) ?_; intro wR hR; exact ⟨by congr 1; unfold smallB; rw [show decide (p.rules.length ≤ 13) = false by have := of_decide_eq_true h; rw [decide_eq_false_iff_not]; omega]; simp, (by first | exact hR | exact hR.tail | exact hR.tail.tail | exact hR.tail.tail.tail | exact hR.tail.tail.tail.tail | exact hR.tail.tail.tail.tail.tail | exact hR.tail.tail.tail.tail.tail.tail)⟩)
  rename_i h1
  have e1 : decide (p.bounds.length ≤ 9) = true := by have := of_decide_eq_false h1; rw [decide_eq_true_eq]; omega
  have e2 : decide (p.rules.length ≤ 13) = true := by have := of_decide_eq_false h; rw [decide_eq_true_eq]; omega
  have e3 : smallB p = p.rules.all fun r => decide (r.vars.length ≤ 5) := by unfold smallB; rw [e1, e2]; rfl
  rw [e3]
  obtain ⟨gp, hgp⟩ : ∃ x, x = g := ⟨_, rfl⟩
  subst hgp
  refine TC.loopP (X := Nat) (fun k => k ≤ p.rules.length ∧ ∀ j r, j < k → p.rules[j]? = some r → r.vars.length ≤ 5) (fun k => [(3, .int .i64 (k : Int)), (1, .pointer (some ⟨gp, 0, none⟩))]) (fun _ => St m (some (gp, .cells #[.slice BA p.bounds.length bc, .slice RA p.rules.length rc] 25 (0, 0)) :: L)) (fun k => p.rules.length - k) 0 ⟨by omega, fun j r h => by omega⟩ (incl.lk (by repeat first | exact trivial | refine ⟨rfl, ?_⟩)) (fun w h => h) ?_
  rintro k ⟨hk, hno⟩
  by_cases hlt : k < p.rules.length
  · obtain ⟨r, hr⟩ : ∃ r, p.rules[k]? = some r := ⟨_, List.getElem?_eq_getElem hlt⟩
    have hd : decide ((k : Int) < (p.rules.length : Int)) = true := by simpa using hlt
    obtain ⟨g3, o3, blk3, T3, fr3, B3, c3, hR1, hR2, hR3, hR4, hR5⟩ := hRA.get hr
    have hrv : blk3[o3 + (k : Int).toNat * 4 + 1]? = some (.slice B3 r.vars.length c3) := hR3 1 _ rfl
    repeat' (first | refine TC.seq ?_ | refine TC.region ?_ | refine TR.nil ?_ | refine Post.then_normal ?_ | refine TC.block ?_ | refine TC.skip ?_ | refine TC.ret ?_ | (apply TC.cond_bt; exact rfl; assumption) | refine Post.then_ret ?_ | refine Post.block_normal ?_ | refine Post.block_ret ?_ | (apply TC.cond; exact rfl; all_goals (intro h)) | (apply TR.st1; exact rfl; exact rfl; exact rfl; (first | exact Wd.plain rfl | exact Wd.on rfl rfl rfl); (first | exact EvS.move rfl | exact EvS.assign rfl | exact EvS.fieldAddr rfl | (first | (apply EvS.load1; exact rfl; (first | exact Reads.mem (by assumption) | exact Reads.own (by repeat first | exact List.Mem.head _ | assumption | apply List.Mem.tail)); (first | assumption | exact nthL_arr rfl | exact rfl)) | (apply EvS.loadW; exact rfl; (first | exact Reads.mem (by assumption) | exact Reads.own (by repeat first | exact List.Mem.head _ | assumption | apply List.Mem.tail)); first | exact rfl | assumption) | (apply EvS.loadH; exact rfl; (first | exact Reads.mem (by assumption) | exact Reads.own (by repeat first | exact List.Mem.head _ | assumption | apply List.Mem.tail)); assumption; first | exact rfl | assumption)) | exact EvS.len rfl | exact EvS.ltI rfl rfl | exact EvS.gtI rfl rfl | (first | exact EvS.addI rfl rfl (by omega) | exact EvS.add64 rfl rfl (by first | with_reducible exact U64.var _ | exact U64.lit rfl) (by first | with_reducible exact U64.var _ | exact U64.lit rfl)) | (first | exact EvS.indexAddr rfl rfl (by first | exact rfl | assumption) (by omega) | exact EvS.indexAddrA rfl rfl (by omega)))))
    · have h6 := of_decide_eq_true h
      (refine Post.body_ret _ (ResL.one rfl (ResV.tmp rfl)) ?_; intro wR hR; exact ⟨by congr 2; symm; rw [List.all_eq_false]; exact ⟨r, List.mem_of_getElem? hr, by simp; omega⟩, (by first | exact hR | exact hR.tail | exact hR.tail.tail | exact hR.tail.tail.tail | exact hR.tail.tail.tail.tail | exact hR.tail.tail.tail.tail.tail | exact hR.tail.tail.tail.tail.tail.tail)⟩)
    · have h6 := of_decide_eq_false h
      refine Post.nextP (k + 1) ⟨by omega, fun j z hj hz => ?_⟩ (incl.lk (by repeat first | exact trivial | refine ⟨rfl, ?_⟩)) (fun w h => h) (by omega)
      by_cases e : j = k
      · subst e; rw [hr] at hz; cases hz; omega
      · exact hno j z (by omega) hz
  · have hd : decide ((k : Int) < (p.rules.length : Int)) = false := by simpa using hlt
    obtain rfl : k = p.rules.length := by omega
    repeat' (first | refine TC.seq ?_ | refine TC.region ?_ | refine TR.nil ?_ | refine Post.then_normal ?_ | refine TC.ret ?_ | refine TC.exit ?_ | (apply TC.cond_bf; exact rfl; assumption) | refine Post.then_exit ?_ | refine Post.block_here ?_ | (apply TR.st1; exact rfl; exact rfl; exact rfl; (first | exact Wd.plain rfl | exact Wd.on rfl rfl rfl); (first | exact EvS.move rfl | exact EvS.assign rfl | exact EvS.fieldAddr rfl | (first | (apply EvS.load1; exact rfl; (first | exact Reads.mem (by assumption) | exact Reads.own (by repeat first | exact List.Mem.head _ | assumption | apply List.Mem.tail)); (first | assumption | exact nthL_arr rfl | exact rfl)) | (apply EvS.loadW; exact rfl; (first | exact Reads.mem (by assumption) | exact Reads.own (by repeat first | exact List.Mem.head _ | assumption | apply List.Mem.tail)); first | exact rfl | assumption) | (apply EvS.loadH; exact rfl; (first | exact Reads.mem (by assumption) | exact Reads.own (by repeat first | exact List.Mem.head _ | assumption | apply List.Mem.tail)); assumption; first | exact rfl | assumption)) | exact EvS.len rfl | exact EvS.ltI rfl rfl)))
    (refine Post.body_ret _ (ResL.one rfl (ResV.tmp rfl)) ?_; intro wR hR; exact ⟨by congr 2; symm; rw [List.all_eq_true]; intro r hr; obtain ⟨j, hj, rfl⟩ := List.mem_iff_getElem.1 hr; simpa using hno j _ hj (List.getElem?_eq_getElem hj), (by first | exact hR | exact hR.tail | exact hR.tail.tail | exact hR.tail.tail.tail | exact hR.tail.tail.tail.tail | exact hR.tail.tail.tail.tail.tail | exact hR.tail.tail.tail.tail.tail.tail)⟩)
theorem sameInts_c (A C : Option Addr) (ca cc : Nat) (a b : List Int) (m : Mem) (hA : Sl m 1 A (ints a)) (hB : Sl m 1 C (ints b)) (L : Own) (w : World) (hs : St m L w) :
    Calls Tryz.prog 24 #[.slice A a.length ca, .slice C b.length cc] w fun x w' => x = .returned (.bool (decide (a = b))) ∧ St m L w' := by
  have hl := hA.big
  rw [ints_length] at hl
  refine calls_of_TC (args := [_, _]) Tryz.func24 rfl Tryz.ntmps24 (Nat.le_of_ble_eq_true rfl) hs ?_
  repeat' (first | refine TC.seq ?_ | refine TC.region ?_ | refine TR.nil ?_ | refine Post.then_normal ?_ | refine TC.block ?_ | refine TC.skip ?_ | refine TC.ret ?_ | refine Post.then_ret ?_ | (apply TC.cond; exact rfl; all_goals (intro h)) | (apply TR.st1; exact rfl; exact rfl; exact rfl; (first | exact Wd.plain rfl | exact Wd.on rfl rfl rfl); (first | exact EvS.move rfl | exact EvS.assign rfl | exact EvS.len rfl | (first | exact EvS.ne64 rfl rfl (by first | with_reducible exact U64.var _ | exact U64.lit rfl) (by first | with_reducible exact U64.var _ | exact U64.lit rfl) | exact EvS.neB rfl rfl | exact EvS.neI rfl rfl))))
  · (refine Post.body_ret _ (ResL.one rfl (ResV.tmp rfl)) ?_; intro wR hR; exact ⟨by congr 2; symm; rw [decide_eq_false_iff_not]; rintro rfl; simp at h, (by first | exact hR | exact hR.tail | exact hR.tail.tail | exact hR.tail.tail.tail | exact hR.tail.tail.tail.tail | exact hR.tail.tail.tail.tail.tail | exact hR.tail.tail.tail.tail.tail.tail)⟩)
  have hab : a.length = b.length := by have : (a.length : Int) = b.length := by simpa [bne] using h
                                       omega
  refine TC.loopP (X := Nat) (fun k => k ≤ a.length ∧ ∀ j, j < k → a[j]? = b[j]?) (fun k => [(5, .int .i64 (k : Int)), (0, .slice A a.length ca), (1, .slice C b.length cc)]) (fun _ => St m L) (fun k => a.length - k) 0 ⟨by omega, fun j h => by omega⟩ (incl.lk (by repeat first | exact trivial | refine ⟨rfl, ?_⟩)) (fun w h => h) ?_
  rintro k ⟨hk, hno⟩
  by_cases hlt : k < a.length
  · obtain ⟨x, hx⟩ : ∃ x, a[k]? = some x := ⟨_, List.getElem?_eq_getElem hlt⟩
    obtain ⟨y, hy⟩ : ∃ y, b[k]? = some y := ⟨_, List.getElem?_eq_getElem (by omega)⟩
    obtain ⟨g1, o1, blk1, T1, fr1, hA1, hm1, hc1⟩ := hA.get1 (k := k) (v := .int .i64 x) (by simp [ints, hx])
    obtain ⟨g2, o2, blk2, T2, fr2, hA2, hm2, hc2⟩ := hB.get1 (k := k) (v := .int .i64 y) (by simp [ints, hy])
    have hd : decide ((k : Int) < (a.length : Int)) = true := by simpa using hlt
    repeat' (first | refine TC.seq ?_ | refine TC.region ?_ | refine TR.nil ?_ | refine Post.then_normal ?_ | refine TC.block ?_ | refine TC.skip ?_ | (apply TC.cond_bt; exact rfl; assumption) | (apply TR.st1; exact rfl; exact rfl; exact rfl; (first | exact Wd.plain rfl | exact Wd.on rfl rfl rfl); (first | exact EvS.move rfl | exact EvS.len rfl | exact EvS.ltI rfl rfl)))
    refine TC.draw_ [.st, .st, .st, .st, .st, .st, .st, .st, .st] mixed rfl (by kernel_rfl) ?_
    repeat' (first | (apply D.st1; exact rfl; (first | exact Wd.plain rfl | exact Wd.on rfl rfl rfl); (first | exact EvS.move rfl | (first | (apply EvS.load1; exact rfl; (first | exact Reads.memX (by assumption) | exact Reads.ownX (by repeat first | exact List.Mem.head _ | assumption | apply List.Mem.tail)); (first | assumption | exact nthL_arr rfl | exact rfl)) | (apply EvS.loadW; exact rfl; (first | exact Reads.memX (by assumption) | exact Reads.ownX (by repeat first | exact List.Mem.head _ | assumption | apply List.Mem.tail)); first | exact rfl | assumption) | (apply EvS.loadH; exact rfl; (first | exact Reads.memX (by assumption) | exact Reads.ownX (by repeat first | exact List.Mem.head _ | assumption | apply List.Mem.tail)); assumption; first | exact rfl | assumption)) | (first | exact EvS.ne64 rfl rfl (by first | with_reducible exact U64.var _ | exact U64.lit rfl) (by first | with_reducible exact U64.var _ | exact U64.lit rfl) | exact EvS.neB rfl rfl | exact EvS.neI rfl rfl) | (first | exact EvS.indexAddr rfl rfl (by first | exact rfl | assumption) (by omega) | exact EvS.indexAddrA rfl rfl (by omega)))) | refine D.tail_ ?_)
    repeat' (first | refine TC.seq ?_ | refine TC.region ?_ | refine TR.nil ?_ | refine Post.then_normal ?_ | refine TC.skip ?_ | refine TC.ret ?_ | refine Post.then_ret ?_ | refine Post.block_normal ?_ | refine Post.block_ret ?_ | (apply TC.cond; exact rfl; all_goals (intro h)) | (apply TR.st1; exact rfl; exact rfl; exact rfl; (first | exact Wd.plain rfl | exact Wd.on rfl rfl rfl); (first | exact EvS.move rfl | exact EvS.assign rfl | (first | exact EvS.addI rfl rfl (by omega) | exact EvS.add64 rfl rfl (by first | with_reducible exact U64.var _ | exact U64.lit rfl) (by first | with_reducible exact U64.var _ | exact U64.lit rfl)))))
    · have hne := h
      (refine Post.body_ret _ (ResL.one rfl (ResV.tmp rfl)) ?_; intro wR hR; exact ⟨by congr 2; symm; rw [decide_eq_false_iff_not]; rintro rfl; rw [hx] at hy; cases hy; simp at hne, (by first | exact hR | exact hR.tail | exact hR.tail.tail | exact hR.tail.tail.tail | exact hR.tail.tail.tail.tail | exact hR.tail.tail.tail.tail.tail | exact hR.tail.tail.tail.tail.tail.tail)⟩)
    · have hne := h
      have hxy : x = y := by simpa [bne] using hne
      refine Post.nextP (k + 1) ⟨by omega, fun j hj => ?_⟩ (incl.lk (by repeat first | exact trivial | refine ⟨rfl, ?_⟩)) (fun w h => h) (by omega)
      by_cases e : j = k
      · subst e; rw [hx, hy, hxy]
      · exact hno j (by omega)
  · have hd : decide ((k : Int) < (a.length : Int)) = false := by simpa using hlt
    obtain rfl : k = a.length := by omega
    repeat' (first | refine TC.seq ?_ | refine TC.region ?_ | refine TR.nil ?_ | refine Post.then_normal ?_ | refine TC.ret ?_ | refine TC.exit ?_ | (apply TC.cond_bf; exact rfl; assumption) | refine Post.then_exit ?_ | refine Post.block_here ?_ | (apply TR.st1; exact rfl; exact rfl; exact rfl; (first | exact Wd.plain rfl | exact Wd.on rfl rfl rfl); (first | exact EvS.move rfl | exact EvS.assign rfl | exact EvS.len rfl | exact EvS.ltI rfl rfl)))
    (refine Post.body_ret _ (ResL.one rfl (ResV.tmp rfl)) ?_; intro wR hR; exact ⟨by congr 2; symm; rw [decide_eq_true_eq]; apply List.ext_getElem?; intro j; rcases Nat.lt_or_ge j a.length with hj | hj; exact hno j hj; rw [List.getElem?_eq_none hj, List.getElem?_eq_none (by omega)], (by first | exact hR | exact hR.tail | exact hR.tail.tail | exact hR.tail.tail.tail | exact hR.tail.tail.tail.tail | exact hR.tail.tail.tail.tail.tail | exact hR.tail.tail.tail.tail.tail.tail)⟩)

theorem run_neBd (x y : Bd) (w : World) : (Go.binOp .neq 53 (.agg (bdC x).toArray) (.agg (bdC y).toArray)).run Tryz.prog w = .ok (.bool (x != y)) w := by
  have hkt : (Tryz.prog).keyTypeAt 2 53 = true := by kernel_rfl
  obtain ⟨fs, hu, _, _⟩ := u48
  have hfm (x : Bd) : (Value.agg (bdC x).toArray).formed Tryz.prog 53 = true := by
    unfold Value.formed
    rw [hu]
    simp only
    rw [cells48]; rfl
  obtain ⟨r, h1, h2⟩ := run_equalIn_deep 9998 2 53 hkt w 2 2 (.agg (bdC x).toArray) (.agg (bdC y).toArray) _ _ (hfm x) (hfm y) (keyLits_bd 0 x) (keyLits_bd 0 y)
  have hr : r = (x == y) := by
    rw [Bool.eq_iff_iff, h2, beq_iff_eq]
    constructor
    · intro h
      have := bdL_inj (a := [x]) (b := [y]) (by simpa using h)
      simpa using this
    · rintro rfl; rfl
  subst hr
  have he : (Op.equal 53 (.agg (bdC x).toArray) (.agg (bdC y).toArray)).run Tryz.prog w = .ok (x == y) w := h1
  simp only [Go.binOp, Sem.run_bind, he, Result.andThen_ok, Sem.run_pure]
  rfl
theorem EvS.neBd {N : Nat} {E : Env} {Sb : World → Prop} {d : Option Tmp} {ty : TypeId} {pos : String} {aft : Array Edge} {gd : Option (Nat × Bool)} {x y : Operand} {yT : TypeId} (b c : Bd) (hx : evE E x = some (.agg (bdC b).toArray)) (hy : evE E y = some (.agg (bdC c).toArray)) :
    EvS Tryz.prog N ⟨d, .binOp .neq 53 x y yT, ty, pos, aft, gd⟩ E Sb (.bool (b != c)) := by
  unfold EvS
  intro a w ha _
  have hg : (eqGuard .neq 53 x y (.agg (bdC b).toArray) (.agg (bdC c).toArray)).run Tryz.prog w = .ok () w := run_eqGuard_agg w .neq 53 x y _ _ (by kernel_rfl)
  simp only [execOp, ha.eval hx, ha.eval hy, Sem.run_bind, hg, Result.andThen_ok, run_neBd b c, Sem.run_pure]
theorem sameBounds_c (A C : Option Addr) (ca cc : Nat) (a b : List Bd) (m : Mem) (hA : Sl m 2 A (bds a)) (hB : Sl m 2 C (bds b)) (L : Own) (w : World) (hs : St m L w) :
    Calls Tryz.prog 23 #[.slice A a.length ca, .slice C b.length cc] w fun x w' => x = .returned (.bool (decide (a = b))) ∧ St m L w' := by
  have hl := hA.big
  rw [bds_length] at hl
  refine calls_of_TC (args := [_, _]) Tryz.func23 rfl Tryz.ntmps23 (Nat.le_of_ble_eq_true rfl) hs ?_
  repeat' (first | refine TC.seq ?_ | refine TC.region ?_ | refine TR.nil ?_ | refine Post.then_normal ?_ | refine TC.block ?_ | refine TC.skip ?_ | refine TC.ret ?_ | refine Post.then_ret ?_ | (apply TC.cond; exact rfl; all_goals (intro h)) | (apply TR.st1; exact rfl; exact rfl; exact rfl; (first | exact Wd.plain rfl | exact Wd.on rfl rfl rfl); (first | exact EvS.move rfl | exact EvS.assign rfl | exact EvS.len rfl | (first | exact EvS.ne64 rfl rfl (by first | with_reducible exact U64.var _ | exact U64.lit rfl) (by first | with_reducible exact U64.var _ | exact U64.lit rfl) | exact EvS.neB rfl rfl | exact EvS.neI rfl rfl))))
  · (refine Post.body_ret _ (ResL.one rfl (ResV.tmp rfl)) ?_; intro wR hR; exact ⟨by congr 2; symm; rw [decide_eq_false_iff_not]; rintro rfl; simp at h, (by first | exact hR | exact hR.tail | exact hR.tail.tail | exact hR.tail.tail.tail | exact hR.tail.tail.tail.tail | exact hR.tail.tail.tail.tail.tail | exact hR.tail.tail.tail.tail.tail.tail)⟩)
  have hab : a.length = b.length := by have : (a.length : Int) = b.length := by simpa [bne] using h
                                       omega
  refine TC.loopP (X := Nat) (fun k => k ≤ a.length ∧ ∀ j, j < k → a[j]? = b[j]?) (fun k => [(5, .int .i64 (k : Int)), (0, .slice A a.length ca), (1, .slice C b.length cc)]) (fun _ => St m L) (fun k => a.length - k) 0 ⟨by omega, fun j h => by omega⟩ (incl.lk (by repeat first | exact trivial | refine ⟨rfl, ?_⟩)) (fun w h => h) ?_
  rintro k ⟨hk, hno⟩
  by_cases hlt : k < a.length
  · obtain ⟨x, hx⟩ : ∃ x, a[k]? = some x := ⟨_, List.getElem?_eq_getElem hlt⟩
    obtain ⟨y, hy⟩ : ∃ y, b[k]? = some y := ⟨_, List.getElem?_eq_getElem (by omega)⟩
    obtain ⟨g1, o1, blk1, T1, fr1, hA1, hm1, hc1⟩ := hA.get (k := k) (cs := bdC x) (by simp [bds, hx])
    obtain ⟨g2, o2, blk2, T2, fr2, hA2, hm2, hc2⟩ := hB.get (k := k) (cs := bdC y) (by simp [bds, hy])
    have hd : decide ((k : Int) < (a.length : Int)) = true := by simpa using hlt
    repeat' (first | refine TC.seq ?_ | refine TC.region ?_ | refine TR.nil ?_ | refine Post.then_normal ?_ | refine TC.block ?_ | refine TC.skip ?_ | (apply TC.cond_bt; exact rfl; assumption) | (apply TR.st1; exact rfl; exact rfl; exact rfl; (first | exact Wd.plain rfl | exact Wd.on rfl rfl rfl); (first | exact EvS.move rfl | exact EvS.len rfl | exact EvS.ltI rfl rfl)))
    refine TC.draw_ [.st, .st, .st, .st, .st, .st, .st, .st, .st] mixed rfl (by kernel_rfl) ?_
    repeat' (first | (apply D.st1; exact rfl; (first | exact Wd.plain rfl | exact Wd.on rfl rfl rfl); (first | (first | exact EvS.neBd x y rfl rfl | exact EvS.ne64 rfl rfl (by first | with_reducible exact U64.var _ | exact U64.lit rfl) (by first | with_reducible exact U64.var _ | exact U64.lit rfl) | exact EvS.neB rfl rfl | exact EvS.neI rfl rfl) | exact EvS.move rfl | (first | (apply EvS.load1; exact rfl; (first | exact Reads.memX (by assumption) | exact Reads.ownX (by repeat first | exact List.Mem.head _ | assumption | apply List.Mem.tail)); (first | assumption | exact nthL_arr rfl | exact rfl)) | (apply EvS.loadW; exact rfl; (first | exact Reads.memX (by assumption) | exact Reads.ownX (by repeat first | exact List.Mem.head _ | assumption | apply List.Mem.tail)); first | exact rfl | assumption) | (apply EvS.loadH; exact rfl; (first | exact Reads.memX (by assumption) | exact Reads.ownX (by repeat first | exact List.Mem.head _ | assumption | apply List.Mem.tail)); assumption; first | exact rfl | assumption)) | (first | exact EvS.indexAddr rfl rfl (by first | exact rfl | assumption) (by omega) | exact EvS.indexAddrA rfl rfl (by omega)))) | refine D.tail_ ?_)
    repeat' (first | refine TC.seq ?_ | refine TC.region ?_ | refine TR.nil ?_ | refine Post.then_normal ?_ | refine TC.skip ?_ | refine TC.ret ?_ | refine Post.then_ret ?_ | refine Post.block_normal ?_ | refine Post.block_ret ?_ | (apply TC.cond; exact rfl; all_goals (intro h)) | (apply TR.st1; exact rfl; exact rfl; exact rfl; (first | exact Wd.plain rfl | exact Wd.on rfl rfl rfl); (first | exact EvS.move rfl | exact EvS.assign rfl | (first | exact EvS.addI rfl rfl (by omega) | exact EvS.add64 rfl rfl (by first | with_reducible exact U64.var _ | exact U64.lit rfl) (by first | with_reducible exact U64.var _ | exact U64.lit rfl)))))
    · have hne := h
      (refine Post.body_ret _ (ResL.one rfl (ResV.tmp rfl)) ?_; intro wR hR; exact ⟨by congr 2; symm; rw [decide_eq_false_iff_not]; rintro rfl; rw [hx] at hy; cases hy; simp at hne, (by first | exact hR | exact hR.tail | exact hR.tail.tail | exact hR.tail.tail.tail | exact hR.tail.tail.tail.tail | exact hR.tail.tail.tail.tail.tail | exact hR.tail.tail.tail.tail.tail.tail)⟩)
    · have hne := h
      have hxy : x = y := by simpa [bne] using hne
      refine Post.nextP (k + 1) ⟨by omega, fun j hj => ?_⟩ (incl.lk (by repeat first | exact trivial | refine ⟨rfl, ?_⟩)) (fun w h => h) (by omega)
      by_cases e : j = k
      · subst e; rw [hx, hy, hxy]
      · exact hno j (by omega)
  · have hd : decide ((k : Int) < (a.length : Int)) = false := by simpa using hlt
    obtain rfl : k = a.length := by omega
    repeat' (first | refine TC.seq ?_ | refine TC.region ?_ | refine TR.nil ?_ | refine Post.then_normal ?_ | refine TC.ret ?_ | refine TC.exit ?_ | (apply TC.cond_bf; exact rfl; assumption) | refine Post.then_exit ?_ | refine Post.block_here ?_ | (apply TR.st1; exact rfl; exact rfl; exact rfl; (first | exact Wd.plain rfl | exact Wd.on rfl rfl rfl); (first | exact EvS.move rfl | exact EvS.assign rfl | exact EvS.len rfl | exact EvS.ltI rfl rfl)))
    (refine Post.body_ret _ (ResL.one rfl (ResV.tmp rfl)) ?_; intro wR hR; exact ⟨by congr 2; symm; rw [decide_eq_true_eq]; apply List.ext_getElem?; intro j; rcases Nat.lt_or_ge j a.length with hj | hj; exact hno j hj; rw [List.getElem?_eq_none hj, List.getElem?_eq_none (by omega)], (by first | exact hR | exact hR.tail | exact hR.tail.tail | exact hR.tail.tail.tail | exact hR.tail.tail.tail.tail | exact hR.tail.tail.tail.tail.tail | exact hR.tail.tail.tail.tail.tail.tail)⟩)
theorem SolS.get {m : Mem} {A : Option Addr} {sols : List (List BV)} (h : SolS m A sols) {k : Nat} {l : List BV} (hk : sols[k]? = some l) :
    ∃ g o blk T fr W c, A = some ⟨g, o, none⟩ ∧ m.blk g = some (.cells blk T fr) ∧ blk[o + (k : Int).toNat * 1]? = some (.slice W l.length c) ∧ Sl m 1 W (u64s l) := by
  obtain ⟨css, h1, h2, h3⟩ := h
  have hlt : k < sols.length := (List.getElem?_eq_some_iff.1 hk).1
  have hcs : css[k]? = some css[k] := List.getElem?_eq_getElem (by omega)
  obtain ⟨W, c, e, hB⟩ := h3 k l _ hk hcs
  rw [e] at hcs
  obtain ⟨g, o, blk, T, fr, g1, g2, g3⟩ := h1.get1 hcs
  exact ⟨g, o, blk, T, fr, W, c, g1, g2, g3, hB⟩
theorem SolS.big {m : Mem} {A : Option Addr} {sols : List (List BV)} (h : SolS m A sols) : sols.length ≤ 140737488355328 := by
  obtain ⟨css, h1, h2, _⟩ := h
  rw [← h2]; exact h1.big
theorem sameSets_c (A C : Option Addr) (ca cc : Nat) (a b : List (List BV)) (m : Mem) (hA : SolS m A a) (hB : SolS m C b) (L : Own) (w : World) (hs : St m L w) :
    Calls Tryz.prog 13 #[.slice A a.length ca, .slice C b.length cc] w fun x w' => x = .returned (.bool (decide (a = b))) ∧ St m L w' := by
  have hl := hA.big
  refine calls_of_TC (args := [_, _]) Tryz.func13 rfl Tryz.ntmps13 (Nat.le_of_ble_eq_true rfl) hs ?_
  repeat' (first | refine TC.seq ?_ | refine TC.region ?_ | refine TR.nil ?_ | refine Post.then_normal ?_ | refine TC.block ?_ | refine TC.skip ?_ | refine TC.ret ?_ | refine Post.then_ret ?_ | (apply TC.cond; exact rfl; all_goals (intro h)) | (apply TR.st1; exact rfl; exact rfl; exact rfl; (first | exact Wd.plain rfl | exact Wd.on rfl rfl rfl); (first | exact EvS.move rfl | exact EvS.assign rfl | exact EvS.len rfl | (first | exact EvS.ne64 rfl rfl (by first | with_reducible exact U64.var _ | exact U64.lit rfl) (by first | with_reducible exact U64.var _ | exact U64.lit rfl) | exact EvS.neB rfl rfl | exact EvS.neI rfl rfl))))
  · (refine Post.body_ret _ (ResL.one rfl (ResV.tmp rfl)) ?_; intro wR hR; exact ⟨by congr 2; symm; rw [decide_eq_false_iff_not]; rintro rfl; simp at h, (by first | exact hR | exact hR.tail | exact hR.tail.tail | exact hR.tail.tail.tail | exact hR.tail.tail.tail.tail | exact hR.tail.tail.tail.tail.tail | exact hR.tail.tail.tail.tail.tail.tail)⟩)
  have hab : a.length = b.length := by have : (a.length : Int) = b.length := by simpa [bne] using h
                                       omega
  refine TC.loopP (X := Nat) (fun k => k ≤ a.length ∧ ∀ j, j < k → a[j]? = b[j]?) (fun k => [(5, .int .i64 (k : Int)), (0, .slice A a.length ca), (1, .slice C b.length cc)]) (fun _ => St m L) (fun k => a.length - k) 0 ⟨by omega, fun j h => by omega⟩ (incl.lk (by repeat first | exact trivial | refine ⟨rfl, ?_⟩)) (fun w h => h) ?_
  rintro k ⟨hk, hno⟩
  by_cases hlt : k < a.length
  · obtain ⟨x, hx⟩ : ∃ x, a[k]? = some x := ⟨_, List.getElem?_eq_getElem hlt⟩
    obtain ⟨y, hy⟩ : ∃ y, b[k]? = some y := ⟨_, List.getElem?_eq_getElem (by omega)⟩
    obtain ⟨g1, o1, blk1, T1, fr1, W1, c1, hA1, hm1, hc1, hW1⟩ := hA.get hx
    obtain ⟨g2, o2, blk2, T2, fr2, W2, c2, hA2, hm2, hc2, hW2⟩ := hB.get hy
    have hl1 : x.length ≤ 140737488355328 := by have := hW1.big; simpa [u64s] using this
    have hd : decide ((k : Int) < (a.length : Int)) = true := by simpa using hlt
    repeat' (first | refine TC.seq ?_ | refine TC.region ?_ | refine TR.nil ?_ | refine Post.then_normal ?_ | refine TC.block ?_ | refine TC.skip ?_ | (apply TC.cond_bt; exact rfl; assumption) | (apply TR.st1; exact rfl; exact rfl; exact rfl; (first | exact Wd.plain rfl | exact Wd.on rfl rfl rfl); (first | exact EvS.move rfl | exact EvS.len rfl | exact EvS.ltI rfl rfl)))
    refine TC.draw_ [.st, .st, .st, .st, .st, .st, .st, .st, .st, .st, .st] mixed rfl (by kernel_rfl) ?_
    repeat' (first | (apply D.st1; exact rfl; (first | exact Wd.plain rfl | exact Wd.on rfl rfl rfl); (first | exact EvS.move rfl | (first | (apply EvS.load1; exact rfl; (first | exact Reads.memX (by assumption) | exact Reads.ownX (by repeat first | exact List.Mem.head _ | assumption | apply List.Mem.tail)); (first | assumption | exact nthL_arr rfl | exact rfl)) | (apply EvS.loadW; exact rfl; (first | exact Reads.memX (by assumption) | exact Reads.ownX (by repeat first | exact List.Mem.head _ | assumption | apply List.Mem.tail)); first | exact rfl | assumption) | (apply EvS.loadH; exact rfl; (first | exact Reads.memX (by assumption) | exact Reads.ownX (by repeat first | exact List.Mem.head _ | assumption | apply List.Mem.tail)); assumption; first | exact rfl | assumption)) | exact EvS.len rfl | (first | exact EvS.ne64 rfl rfl (by first | with_reducible exact U64.var _ | exact U64.lit rfl) (by first | with_reducible exact U64.var _ | exact U64.lit rfl) | exact EvS.neB rfl rfl | exact EvS.neI rfl rfl) | (first | exact EvS.indexAddr rfl rfl (by first | exact rfl | assumption) (by omega) | exact EvS.indexAddrA rfl rfl (by omega)))) | refine D.tail_ ?_)
    repeat' (first | refine TC.seq ?_ | refine TC.region ?_ | refine TR.nil ?_ | refine Post.then_normal ?_ | refine TC.block ?_ | refine TC.skip ?_ | refine TC.ret ?_ | refine Post.then_ret ?_ | refine Post.block_ret ?_ | (apply TC.cond; exact rfl; all_goals (intro h)) | (apply TR.st1 (o := ⟨_, .assign _, _, _, _, _⟩); exact rfl; exact rfl; exact rfl; (first | exact Wd.plain rfl | exact Wd.on rfl rfl rfl); exact EvS.assign rfl))
    · have hne := h
      (refine Post.body_ret _ (ResL.one rfl (ResV.tmp rfl)) ?_; intro wR hR; exact ⟨by congr 2; symm; rw [decide_eq_false_iff_not]; rintro rfl; rw [hx] at hy; cases hy; simp at hne, (by first | exact hR | exact hR.tail | exact hR.tail.tail | exact hR.tail.tail.tail | exact hR.tail.tail.tail.tail | exact hR.tail.tail.tail.tail.tail | exact hR.tail.tail.tail.tail.tail.tail)⟩)
    have hxy : x.length = y.length := by have : (x.length : Int) = y.length := by simpa [bne] using h
                                         omega
    refine TC.loopP (X := Nat) (fun i => i ≤ x.length ∧ ∀ j, j < i → x[j]? = y[j]?) (fun i => [(6, .int .i64 (i : Int)), (5, .int .i64 (k : Int)), (0, .slice A a.length ca), (1, .slice C b.length cc)]) (fun _ => St m L) (fun i => x.length - i) 0 ⟨by omega, fun j h => by omega⟩ (incl.lk (by repeat first | exact trivial | refine ⟨rfl, ?_⟩)) (fun w h => h) ?_
    rintro i ⟨hi, hno2⟩
    by_cases hlt2 : i < x.length
    · obtain ⟨s, hs1⟩ : ∃ s, x[i]? = some s := ⟨_, List.getElem?_eq_getElem hlt2⟩
      obtain ⟨t, ht1⟩ : ∃ t, y[i]? = some t := ⟨_, List.getElem?_eq_getElem (by omega)⟩
      obtain ⟨g3, o3, blk3, T3, fr3, hA3, hm3, hc3⟩ := hW1.get1 (k := i) (v := u64v s) (by simp [u64s, hs1])
      obtain ⟨g4, o4, blk4, T4, fr4, hA4, hm4, hc4⟩ := hW2.get1 (k := i) (v := u64v t) (by simp [u64s, ht1])
      unfold u64v at hc3 hc4
      have hd2 : decide ((i : Int) < (x.length : Int)) = true := by simpa using hlt2
      repeat' (first | refine TC.seq ?_ | refine TC.region ?_ | refine TR.nil ?_ | refine Post.then_normal ?_ | refine TC.block ?_ | refine TC.skip ?_ | (apply TC.cond_bt; exact rfl; assumption) | (apply TR.st1; exact rfl; exact rfl; exact rfl; (first | exact Wd.plain rfl | exact Wd.on rfl rfl rfl); (first | exact EvS.move rfl | (first | (apply EvS.load1; exact rfl; (first | exact Reads.mem (by assumption) | exact Reads.own (by repeat first | exact List.Mem.head _ | assumption | apply List.Mem.tail)); (first | assumption | exact nthL_arr rfl | exact rfl)) | (apply EvS.loadW; exact rfl; (first | exact Reads.mem (by assumption) | exact Reads.own (by repeat first | exact List.Mem.head _ | assumption | apply List.Mem.tail)); first | exact rfl | assumption) | (apply EvS.loadH; exact rfl; (first | exact Reads.mem (by assumption) | exact Reads.own (by repeat first | exact List.Mem.head _ | assumption | apply List.Mem.tail)); assumption; first | exact rfl | assumption)) | exact EvS.len rfl | exact EvS.ltI rfl rfl | (first | exact EvS.indexAddr rfl rfl (by first | exact rfl | assumption) (by omega) | exact EvS.indexAddrA rfl rfl (by omega)))))
      refine TC.draw_ [.st, .st, .st, .st, .st, .st, .st, .st, .st, .st, .st, .st, .st, .st, .st] mixed rfl (by kernel_rfl) ?_
      repeat' (first | (apply D.st1; exact rfl; (first | exact Wd.plain rfl | exact Wd.on rfl rfl rfl); (first | exact EvS.move rfl | (first | (apply EvS.load1; exact rfl; (first | exact Reads.memX (by assumption) | exact Reads.ownX (by repeat first | exact List.Mem.head _ | assumption | apply List.Mem.tail)); (first | assumption | exact nthL_arr rfl | exact rfl)) | (apply EvS.loadW; exact rfl; (first | exact Reads.memX (by assumption) | exact Reads.ownX (by repeat first | exact List.Mem.head _ | assumption | apply List.Mem.tail)); first | exact rfl | assumption) | (apply EvS.loadH; exact rfl; (first | exact Reads.memX (by assumption) | exact Reads.ownX (by repeat first | exact List.Mem.head _ | assumption | apply List.Mem.tail)); assumption; first | exact rfl | assumption)) | (first | exact EvS.ne64 rfl rfl (by first | with_reducible exact U64.var _ | exact U64.lit rfl) (by first | with_reducible exact U64.var _ | exact U64.lit rfl) | exact EvS.neB rfl rfl | exact EvS.neI rfl rfl) | (first | exact EvS.indexAddr rfl rfl (by first | exact rfl | assumption) (by omega) | exact EvS.indexAddrA rfl rfl (by omega)))) | refine D.tail_ ?_)
      repeat' (first | refine TC.seq ?_ | refine TC.region ?_ | refine TR.nil ?_ | refine Post.then_normal ?_ | refine TC.skip ?_ | refine TC.ret ?_ | refine Post.then_ret ?_ | refine Post.block_normal ?_ | refine Post.block_ret ?_ | (apply TC.cond; exact rfl; all_goals (intro h)) | (apply TR.st1; exact rfl; exact rfl; exact rfl; (first | exact Wd.plain rfl | exact Wd.on rfl rfl rfl); (first | exact EvS.move rfl | exact EvS.assign rfl | (first | exact EvS.addI rfl rfl (by omega) | exact EvS.add64 rfl rfl (by first | with_reducible exact U64.var _ | exact U64.lit rfl) (by first | with_reducible exact U64.var _ | exact U64.lit rfl)))))
      · have hne := h
        (refine Post.body_ret _ (ResL.one rfl (ResV.tmp rfl)) ?_; intro wR hR; exact ⟨by congr 2; symm; rw [decide_eq_false_iff_not]; rintro rfl; rw [hx] at hy; cases hy; rw [hs1] at ht1; cases ht1; simp at hne, (by first | exact hR | exact hR.tail | exact hR.tail.tail | exact hR.tail.tail.tail | exact hR.tail.tail.tail.tail | exact hR.tail.tail.tail.tail.tail | exact hR.tail.tail.tail.tail.tail.tail)⟩)
      · have hne := h
        have hst : s = t := by simpa [bne] using hne
        refine Post.nextP (i + 1) ⟨by omega, fun j hj => ?_⟩ (incl.lk (by repeat first | exact trivial | refine ⟨rfl, ?_⟩)) (fun w h => h) (by omega)
        by_cases e : j = i
        · subst e; rw [hs1, ht1, hst]
        · exact hno2 j (by omega)
    · have hd2 : decide ((i : Int) < (x.length : Int)) = false := by simpa using hlt2
      obtain rfl : i = x.length := by omega
      have hxy2 : x = y := by
        apply List.ext_getElem?; intro j
        rcases Nat.lt_or_ge j x.length with hj | hj
        · exact hno2 j hj
        · rw [List.getElem?_eq_none hj, List.getElem?_eq_none (by omega)]
      repeat' (first | refine TC.seq ?_ | refine TC.region ?_ | refine TR.nil ?_ | refine Post.then_normal ?_ | refine TC.exit ?_ | (apply TC.cond_bf; exact rfl; assumption) | refine Post.then_exit ?_ | refine Post.block_normal ?_ | refine Post.block_here ?_ | (apply TR.st1; exact rfl; exact rfl; exact rfl; (first | exact Wd.plain rfl | exact Wd.on rfl rfl rfl); (first | exact EvS.move rfl | exact EvS.assign rfl | (first | (apply EvS.load1; exact rfl; (first | exact Reads.mem (by assumption) | exact Reads.own (by repeat first | exact List.Mem.head _ | assumption | apply List.Mem.tail)); (first | assumption | exact nthL_arr rfl | exact rfl)) | (apply EvS.loadW; exact rfl; (first | exact Reads.mem (by assumption) | exact Reads.own (by repeat first | exact List.Mem.head _ | assumption | apply List.Mem.tail)); first | exact rfl | assumption) | (apply EvS.loadH; exact rfl; (first | exact Reads.mem (by assumption) | exact Reads.own (by repeat first | exact List.Mem.head _ | assumption | apply List.Mem.tail)); assumption; first | exact rfl | assumption)) | exact EvS.len rfl | exact EvS.ltI rfl rfl | (first | exact EvS.addI rfl rfl (by omega) | exact EvS.add64 rfl rfl (by first | with_reducible exact U64.var _ | exact U64.lit rfl) (by first | with_reducible exact U64.var _ | exact U64.lit rfl)) | (first | exact EvS.indexAddr rfl rfl (by first | exact rfl | assumption) (by omega) | exact EvS.indexAddrA rfl rfl (by omega)))))
      refine Post.nextP (k + 1) ⟨by omega, fun j hj => ?_⟩ (incl.lk (by repeat first | exact trivial | refine ⟨rfl, ?_⟩)) (fun w h => h) (by omega)
      by_cases e : j = k
      · subst e; rw [hx, hy, hxy2]
      · exact hno j (by omega)
  · have hd : decide ((k : Int) < (a.length : Int)) = false := by simpa using hlt
    obtain rfl : k = a.length := by omega
    repeat' (first | refine TC.seq ?_ | refine TC.region ?_ | refine TR.nil ?_ | refine Post.then_normal ?_ | refine TC.ret ?_ | refine TC.exit ?_ | (apply TC.cond_bf; exact rfl; assumption) | refine Post.then_exit ?_ | refine Post.block_here ?_ | (apply TR.st1; exact rfl; exact rfl; exact rfl; (first | exact Wd.plain rfl | exact Wd.on rfl rfl rfl); (first | exact EvS.move rfl | exact EvS.assign rfl | exact EvS.len rfl | exact EvS.ltI rfl rfl)))
    (refine Post.body_ret _ (ResL.one rfl (ResV.tmp rfl)) ?_; intro wR hR; exact ⟨by congr 2; symm; rw [decide_eq_true_eq]; apply List.ext_getElem?; intro j; rcases Nat.lt_or_ge j a.length with hj | hj; exact hno j hj; rw [List.getElem?_eq_none hj, List.getElem?_eq_none (by omega)], (by first | exact hR | exact hR.tail | exact hR.tail.tail | exact hR.tail.tail.tail | exact hR.tail.tail.tail.tail | exact hR.tail.tail.tail.tail.tail | exact hR.tail.tail.tail.tail.tail.tail)⟩)
end Go.Proofs.YtgpgjpcebajofaaGreatDoor
