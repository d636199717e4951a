import Derived.Test.YtgpgjpcebajofaaGreatDoorZE
import Derived.DeepKeys
set_option linter.unusedVariables false
set_option linter.unusedSimpArgs false
set_option linter.all false
set_option maxHeartbeats 4000000
set_option linter.unusedVariables false
set_option linter.unusedSimpArgs false
set_option maxRecDepth 100000
namespace Go.Proofs.YtgpgjpcebajofaaGreatDoor
open Go Go.XC Go.RowKit Go.SetsP
attribute [local irreducible] Post TC TR D WL EvS EvC Wd ResL Code.wpIn Exit.then Exit.inBlock Exit.noGoto LoopK LoopP bodyPostM Reads Calls

structure Rg where
  k : Nat
  gs : List Nat
  m : Mem
  s : Ps
  v : Value
  e : Option (Nat × Obj)
theorem nats_inj : ∀ {l k : List Nat}, nats l = nats k → l = k := by
  intro l k h
  unfold nats at h
  have h1 := congrArg (List.map fun v : Value => match v with | .int _ (Int.ofNat n) => n | _ => 0) h
  simp only [List.map_map] at h1
  have h2 : ((fun v : Value => match v with | .int _ (Int.ofNat n) => n | _ => 0) ∘ fun (e : Nat) => Value.int .i64 (e : Int)) = id := by funext e; rfl
  rw [h2, List.map_id, List.map_id] at h1
  exact h1
theorem nats_split {l pre : List Nat} {x : Value} {rest : List Value} (h : nats l = nats pre ++ x :: rest) : ∃ (e : Nat) (rest' : List Nat), l = pre ++ e :: rest' ∧ x = .int .i64 (e : Int) := by
  obtain ⟨l1, l2, rfl, h1, h2⟩ := List.map_eq_append_iff.1 h
  have : l1 = pre := nats_inj h1
  subst this
  cases l2 with
  | nil => simp at h2
  | cons e l2 =>
    rw [List.map_cons] at h2
    injection h2 with h3 h4
    exact ⟨e, l2, rfl, h3.symm⟩

theorem rule_ok (p : Pb) (pcs : Array Value) (hp : okP p) (s : Ps) (re : Bool) (n : Nat) (r : Rl) (hr : p.rules[n]? = some r) (fv : Value) (e : Option (Nat × Obj)) (gx : Nat) (hI : Iv s) (hps : possB s.b r = true)
    (m : Mem) (hT : TabM m) (hpc : PbC m p pcs) (hrow : FRow m fv s.fs e) (L : Own) (w : World) (hs : St m (xO gx pcs s.b fv re :: e :: L) w) :
    Calls Tryz.prog 95 #[.pointer (some ⟨gx, 0, none⟩), .int .i64 (n : Int)] w fun x w' =>
      ∃ y : { y : Mem × Value × Option (Nat × Obj) // m.Le y.1 ∧ FRow y.1 y.2.1 (ruleS p re n s).fs y.2.2 }, x = .returned (.tuple #[]) ∧ St y.1.1 (xO gx pcs (ruleS p re n s).b y.1.2.1 re :: y.1.2.2 :: L) w' := by
  have hpc0 := hpc
  obtain ⟨BA, bc, RA, rc, hcs, hBA, hRA⟩ := hpc
  have hsz : pcs.size = 2 := by rw [hcs]; rfl
  have hn : n < p.rules.length := (List.getElem?_eq_some_iff.1 hr).1
  obtain ⟨g3, o3, blk3, T3, fr3, B3, c3, hR1, hR2, hR3, hR4, hR5⟩ := hRA.get hr
  have hx0 (b fv) : CellsAt (xC pcs b fv re) (0 + 0) pcs := xC_p hsz
  have hxr : (xC pcs s.b fv re)[0 + 0 + 1]? = some (.slice RA p.rules.length rc) := hx0 s.b fv 1 _ (by rw [hcs]; rfl)
  have hxb := xC_b (pcs := pcs) (b := s.b) (fv := fv) (re := re) hsz
  have hbs : (bArr s.b).size = 16 := by rw [bArr_size, hI.b.1]
  have hrok := hp.rl r (List.mem_of_getElem? hr)
  have hrD : p.rules.getD n default = r := by rw [List.getD_eq_getElem?_getD, hr]; rfl
  have hpo := fun (w : World) (m : Mem) (hT : TabM m) (hB : Sl m 1 B3 (ints r.vars)) (L : Own) (hs : St m L w) => possible_c s.b r B3 c3 hI.b hrok m hT hB L w hs
  unfold rlV at hpo
  have hps2 : (!possB s.b r) = false := by rw [hps]; rfl
  unfold xO at hs ⊢
  refine calls_of_TC (args := [_, _]) Tryz.func95 rfl Tryz.ntmps95 (Nat.le_of_ble_eq_true rfl) hs ?_
  repeat' (first | refine TC.seq ?_ | refine TC.region ?_ | refine TR.nil ?_ | refine Post.then_normal ?_ | (apply TR.ch1 (o := ⟨_, .box _ _, _, _, _, _⟩) ; exact rfl; exact rfl; exact rfl; (first | exact Wd.plain rfl | exact Wd.on rfl rfl rfl); exact EvC.box1 rfl rfl; intro g))
  refine TC.draw_ [.st, .st, .st, .st, .st, .st, .st, .st, .ch] mixed rfl (by kernel_rfl) ?_
  repeat' (first | (apply D.st1; exact rfl; (first | exact Wd.plain rfl | exact Wd.on rfl rfl rfl); (first | exact EvS.fieldAddr rfl | (first | (apply EvS.load1; exact rfl; (first | exact Reads.memX (by assumption) | exact Reads.ownX (by repeat first | exact List.Mem.head _ | assumption | apply List.Mem.tail)); (first | assumption | exact nthL_arr rfl | exact rfl)) | (apply EvS.loadW; exact rfl; (first | exact Reads.memX (by assumption) | exact Reads.ownX (by repeat first | exact List.Mem.head _ | assumption | apply List.Mem.tail)); first | exact rfl | assumption) | (apply EvS.loadH; exact rfl; (first | exact Reads.memX (by assumption) | exact Reads.ownX (by repeat first | exact List.Mem.head _ | assumption | apply List.Mem.tail)); assumption; first | exact rfl | assumption)) | (first | exact EvS.indexAddr rfl rfl (by first | exact rfl | assumption) (by omega) | exact EvS.indexAddrA rfl rfl (by omega)) | exact EvS.nilCheck rfl)) | (apply D.chx (o := ⟨_, .alloc _, _, _, _, _⟩) ; exact rfl; (first | exact Wd.plain rfl | exact Wd.on rfl rfl rfl); exact EvC.alloc; exact inferInstance; exact (by first | exact fun _ _ h => StX.of0 h | exact fun _ _ h => StX.of1 h | exact fun _ _ h => StX.of2 h | exact fun _ _ h => StX.of3 h | exact fun _ _ h => StX.of h); intro g) | refine D.tail_ ?_)
  repeat' (first | refine TC.seq ?_ | refine TR.nil ?_ | refine Post.then_normal ?_ | (apply TR.ch0 (o := ⟨_, .store _ _ _, _, _, _, _⟩) ; exact rfl; exact rfl; (first | exact Wd.plain rfl | exact Wd.on rfl rfl rfl); exact EvC.storeW rfl rfl (by first | exact rfl | assumption) (by first | exact bArr_one _ | exact rfl | (intro v hv; simp at hv; rcases hv with rfl | rfl | rfl | rfl | rfl | rfl | rfl | rfl <;> rfl)) (by repeat first | exact Upd.head | apply Upd.tail) (by first | exact rfl | assumption); rintro ⟨⟩))
  refine TC.draw_ [.st, .st, .st, .st, .st, .ch, .st] mixed rfl (by kernel_rfl) ?_
  repeat' (first | (apply D.chx (o := ⟨_, .call _, _, _, _, _⟩); exact rfl; (first | exact Wd.plain rfl | exact Wd.on rfl rfl rfl); exact EvC.callV rfl rfl (fun w hs => hpo _ _ hT hR4 _ hs); exact inferInstance; exact (by first | exact fun _ _ h => StX.of0 h | exact fun _ _ h => StX.of1 h | exact fun _ _ h => StX.of2 h | exact fun _ _ h => StX.of3 h | exact fun _ _ h => StX.of h); rintro ⟨⟩) | (apply D.st1; exact rfl; (first | exact Wd.plain rfl | exact Wd.on rfl rfl rfl); (first | exact EvS.fieldAddr rfl | (first | (apply EvS.load1; exact rfl; (first | exact Reads.memX (by assumption) | exact Reads.ownX (by repeat first | exact List.Mem.head _ | assumption | apply List.Mem.tail)); (first | assumption | exact nthL_arr rfl | exact rfl)) | (apply EvS.loadW; exact rfl; (first | exact Reads.memX (by assumption) | exact Reads.ownX (by repeat first | exact List.Mem.head _ | assumption | apply List.Mem.tail)); first | exact rfl | assumption) | (apply EvS.loadH; exact rfl; (first | exact Reads.memX (by assumption) | exact Reads.ownX (by repeat first | exact List.Mem.head _ | assumption | apply List.Mem.tail)); assumption; first | exact rfl | assumption)) | (first | exact EvS.not rfl | exact EvS.neg64 rfl (by first | with_reducible exact U64.var _ | exact U64.lit rfl)) | exact EvS.nilCheck rfl)) | refine D.tail_ ?_)
  repeat' (first | refine TC.seq ?_ | refine TC.region ?_ | refine TR.nil ?_ | refine Post.then_normal ?_ | refine TC.block ?_ | refine TC.skip ?_ | (apply TC.cond_bf; exact rfl; assumption) | (apply TR.st1; exact rfl; exact rfl; exact rfl; (first | exact Wd.plain rfl | exact Wd.on rfl rfl rfl); (first | exact EvS.move rfl | exact EvS.fieldAddr rfl | (first | (apply EvS.load1; exact rfl; (first | exact Reads.mem (by assumption) | exact Reads.own (by repeat first | exact List.Mem.head _ | assumption | apply List.Mem.tail)); (first | assumption | exact nthL_arr rfl | exact rfl)) | (apply EvS.loadW; exact rfl; (first | exact Reads.mem (by assumption) | exact Reads.own (by repeat first | exact List.Mem.head _ | assumption | apply List.Mem.tail)); first | exact rfl | assumption) | (apply EvS.loadH; exact rfl; (first | exact Reads.mem (by assumption) | exact Reads.own (by repeat first | exact List.Mem.head _ | assumption | apply List.Mem.tail)); assumption; first | exact rfl | assumption)) | exact EvS.len rfl)))
  rename_i ga gb
  obtain ⟨gc, hgc⟩ : ∃ x, x = g := ⟨_, rfl⟩
  subst hgc
  clear hpo
  have hvl : r.vars.length ≤ 140737488355328 := by have := hR4.big; simpa [ints] using this
  refine TC.loopD (X := Rg) (fun x => x.k ≤ r.vars.length ∧ x.s = (r.vars.take x.k).foldl (stepV p re n) s ∧ m.Le x.m ∧ FRow x.m x.v x.s.fs x.e ∧ Iv x.s) (fun x => markD x.gs)
    (fun x => [(30, .int .i64 (x.k : Int)), (29, .int .i64 (r.vars.length : Int)), (28, .slice B3 r.vars.length c3), (4, .pointer (some ⟨gc, 0, none⟩)), (3, .pointer (some ⟨gb, 0, none⟩)), (2, .pointer (some ⟨ga, 0, none⟩))])
    (fun x => St x.m (some (gc, .cells #[.int .i64 r.kind, .slice B3 r.vars.length c3, .int .i64 r.low, .int .i64 r.high] 62 (0, 0)) :: some (gb, .cells #[.int .i64 (n : Int)] 3 (0, 0)) :: some (ga, .cells #[.pointer (some ⟨gx, 0, none⟩)] 92 (0, 0)) :: some (gx, .cells (xC pcs x.s.b x.v re) 95 (0, 0)) :: x.e :: (markL x.gs ++ L)))
    (fun x => r.vars.length - x.k) ⟨0, [], m, s, fv, e⟩ ⟨Nat.zero_le _, rfl, Mem.Le.refl _, hrow, hI⟩ rfl (incl.lk (by repeat first | exact trivial | refine ⟨rfl, ?_⟩)) (fun w h => h) ?_
  rintro ⟨k, gs, m1, s1, v1, e1⟩ ⟨hk, hs1, hle1, hrow1, hI1⟩
  simp only at hk hs1 hle1 hrow1 hI1 ⊢
  by_cases hlt : k < r.vars.length
  · have hd : decide ((k : Int) < (r.vars.length : Int)) = true := by simpa using hlt
    obtain ⟨v, hv⟩ : ∃ v, r.vars[k]? = some v := ⟨_, List.getElem?_eq_getElem hlt⟩
    have hv8 := hrok.1 v (List.mem_of_getElem? hv)
    obtain ⟨y, hy⟩ : ∃ y, y = nth s1.b v := ⟨_, rfl⟩
    have hyg := nth_get hI1.b.1 hv8
    rw [← hy] at hyg
    have hxlo := xC_lo (pcs := pcs) (fv := v1) (re := re) hsz hyg
    have hxcan := xC_can (pcs := pcs) (fv := v1) (re := re) hsz hyg
    obtain ⟨g5, o5, blk5, T5, fr5, hB5, hm5, hc5⟩ := (hR4.mono hle1).get1 (k := k) (v := .int .i64 v) (by simp [ints, hv])
    repeat' (first | refine TC.seq ?_ | refine TC.region ?_ | refine TR.nil ?_ | refine Post.then_normal ?_ | refine TC.block ?_ | refine TC.skip ?_ | (apply TC.cond_bt; exact rfl; assumption) | (apply TR.st1; exact rfl; exact rfl; exact rfl; (first | exact Wd.plain rfl | exact Wd.on rfl rfl rfl); (first | (first | (apply EvS.load1; exact rfl; (first | exact Reads.mem (by assumption) | exact Reads.own (by repeat first | exact List.Mem.head _ | assumption | apply List.Mem.tail)); (first | assumption | exact nthL_arr rfl | exact rfl)) | (apply EvS.loadW; exact rfl; (first | exact Reads.mem (by assumption) | exact Reads.own (by repeat first | exact List.Mem.head _ | assumption | apply List.Mem.tail)); first | exact rfl | assumption) | (apply EvS.loadH; exact rfl; (first | exact Reads.mem (by assumption) | exact Reads.own (by repeat first | exact List.Mem.head _ | assumption | apply List.Mem.tail)); assumption; first | exact rfl | assumption)) | exact EvS.ltI rfl rfl | (first | exact EvS.indexAddr rfl rfl (by first | exact rfl | assumption) (by omega) | exact EvS.indexAddrA rfl rfl (by omega)))) | (apply TR.ch1 (o := ⟨_, .alloc _, _, _, _, _⟩) ; exact rfl; exact rfl; exact rfl; (first | exact Wd.plain rfl | exact Wd.on rfl rfl rfl); exact EvC.alloc; intro g) | (apply TR.ch0 (o := ⟨_, .store _ _ _, _, _, _, _⟩) ; exact rfl; exact rfl; (first | exact Wd.plain rfl | exact Wd.on rfl rfl rfl); exact EvC.store1 rfl rfl rfl (by repeat first | exact Upd.head | apply Upd.tail) (by first | assumption | exact Nat.lt_of_sub_eq_succ rfl | (simp; omega) | simp); rintro ⟨⟩))
    refine TC.draw_ [.st, .st, .st, .st, .st, .st, .st, .st, .st, .st, .st, .st, .st, .st, .st, .ch] mixed rfl (by kernel_rfl) ?_
    repeat' (first | (apply D.chx (o := ⟨_, .call _, _, _, _, _⟩); exact rfl; (first | exact Wd.plain rfl | exact Wd.on rfl rfl rfl); exact EvC.callX rfl rfl (fun w hs => elements_c (openB y) _ _ w hs); exact inferInstance; exact (by first | exact fun _ _ h => StX.of0 h | exact fun _ _ h => StX.of1 h | exact fun _ _ h => StX.of2 h | exact fun _ _ h => StX.of3 h | exact fun _ _ h => StX.of h); rintro ge) | (apply D.st1; exact rfl; (first | exact Wd.plain rfl | exact Wd.on rfl rfl rfl); (first | exact EvS.fieldAddr rfl | (first | (apply EvS.load1; exact rfl; (first | exact Reads.memX (by assumption) | exact Reads.ownX (by repeat first | exact List.Mem.head _ | assumption | apply List.Mem.tail)); (first | assumption | exact nthL_arr rfl | exact rfl)) | (apply EvS.loadW; exact rfl; (first | exact Reads.memX (by assumption) | exact Reads.ownX (by repeat first | exact List.Mem.head _ | assumption | apply List.Mem.tail)); first | exact rfl | assumption) | (apply EvS.loadH; exact rfl; (first | exact Reads.memX (by assumption) | exact Reads.ownX (by repeat first | exact List.Mem.head _ | assumption | apply List.Mem.tail)); assumption; first | exact rfl | assumption)) | exact EvS.andNot64 rfl rfl (by first | with_reducible exact U64.var _ | exact U64.lit rfl) (by first | with_reducible exact U64.var _ | exact U64.lit rfl) | (first | exact EvS.indexAddr rfl rfl (by first | exact rfl | assumption) (by omega) | exact EvS.indexAddrA rfl rfl (by omega)) | exact EvS.nilCheck rfl)) | refine D.tail_ ?_)
    repeat' (first | refine TR.nil ?_ | refine Post.then_normal ?_ | refine TC.block ?_)
    rw [show (Value.int .i64 0).cells.setIfInBounds 0 (Value.int .i64 v) = #[.int .i64 v] from rfl]
    refine TC.turn (fun w h => h.perm (List.perm_append_comm (l₁ := [_]))) ?_
    obtain ⟨g6, hg6⟩ : ∃ x, x = g := ⟨_, rfl⟩
    subst hg6
    obtain ⟨ST, hST⟩ : ∃ ST : List Nat → Ps, ST = fun pre => pre.foldl (stepE p re n v) s1 := ⟨_, rfl⟩
    have hsm := small_openB (nth_ok hI1.b hv8).2
    rw [← hy] at hsm
    have hel : ∀ e, e ∈ elems (openB y) → e < 12 ∧ has (openB (nth s1.b v)) e = true := fun e he => by rw [← hy]; exact elems_lt hsm he
    have hIST : ∀ pre, pre <+: elems (openB y) → Iv (ST pre) ∧ ∀ k, k < 64 → k ∉ pre → has (openB (nth (ST pre).b v)) k = has (openB (nth s1.b v)) k := fun pre hpre => by
      rw [hST]
      exact Iv.fold hv8 pre s1 hI1 ((elems_nodup _).sublist hpre.sublist) fun e he => hel e (hpre.subset he)
    refine TC.rangeFunc rfl rfl (iter_c (openB y) hsm ge _ m1 (hT.mono hle1))
      (fun pre m Lc => ∃ (pre' : List Nat) (v' : Value) (e' : Option (Nat × Obj)), pre = nats pre' ∧ m1.Le m ∧ FRow m v' (ST pre').fs e' ∧ Lc = some (g6, .cells #[.int .i64 v] 3 (0, 0)) :: some (gc, .cells #[.int .i64 r.kind, .slice B3 r.vars.length c3, .int .i64 r.low, .int .i64 r.high] 62 (0, 0)) :: some (gb, .cells #[.int .i64 (n : Int)] 3 (0, 0)) :: some (ga, .cells #[.pointer (some ⟨gx, 0, none⟩)] 92 (0, 0)) :: some (gx, .cells (xC pcs (ST pre').b v' re) 95 (0, 0)) :: e' :: (markL gs ++ L))
      (fun _ _ _ _ => False) ⟨[], v1, e1, rfl, Mem.Le.refl _, by rw [hST]; exact hrow1, by rw [hST]; rfl⟩ ?_ ?_ ?_
    · rintro l gd rec pre xv rest m2 Lc Li hxs ⟨pre', v', e', rfl, hle2, hrow2, rfl⟩
      obtain ⟨el, rest', hxe, rfl⟩ := nats_split hxs
      have hpre : pre' <+: elems (openB y) := ⟨_, hxe.symm⟩
      have hel12 := (hel el (by rw [hxe]; simp)).1
      have hnotin : el ∉ pre' := by
        have := elems_nodup (openB y)
        rw [hxe] at this
        exact fun h => (List.nodup_append.1 this).2.2 el h el List.mem_cons_self rfl
      obtain ⟨hIS, hop⟩ := hIST pre' hpre
      have hopen : has (openB (nth (ST pre').b v)) el = true := by rw [hop el (by omega) hnotin]; exact (hel el (by rw [hxe]; simp)).2
      have hnext : ST (pre' ++ [el]) = stepE p re n v (ST pre') el := by rw [hST]; simp
      obtain ⟨S2, hS2⟩ : ∃ S2, S2 = ST pre' := ⟨_, rfl⟩
      rw [← hS2] at hrow2 hIS hopen hnext ⊢
      have hnp : nats pre' ++ [Value.int .i64 (el : Int)] = nats (pre' ++ [el]) := by simp [nats]
      rw [hnp]
      have hx2b := xC_b (pcs := pcs) (b := S2.b) (fv := v') (re := re) hsz
      have hx2r : (xC pcs S2.b v' re)[0 + 19]? = some (.bool re) := xC_r hsz hIS.b.1
      have hx2f : (xC pcs S2.b v' re)[0 + 18]? = some v' := xC_f hsz hIS.b.1
      have hb2s : (bArr S2.b).size = 16 := by rw [bArr_size, hIS.b.1]
      have hT2 : TabM m2 := hT.mono (hle1.trans hle2)
      have hR42 := hR4.mono (hle1.trans hle2)
      have hfo (i : Bool) := fun (w : World) (m : Mem) (hT : TabM m) (hB : Sl m 1 B3 (ints r.vars)) (L : Own) (hs : St m L w) => follows_c S2.b r B3 c3 v el i (n : Int) none 0 0 hIS.b hrok hv8 hel12 m hT hB L w hs
      unfold rlV fcC at hfo
      repeat' (first | refine TC.region ?_ | refine TR.nil ?_ | (apply TR.st1 (o := ⟨_, .assign _, _, _, _, _⟩); exact rfl; exact rfl; exact rfl; (first | exact Wd.plain rfl | exact Wd.on rfl rfl rfl); exact EvS.assign rfl))
      refine Post.asg (Mem.Le.refl _) ?_
      by_cases hq1 : folB S2.b r v el true = true
      · have hn1 : (!folB S2.b r v el true) = false := by rw [hq1]; rfl
        have hsame : ST (pre' ++ [el]) = addP p re n v el true S2 := by rw [hnext]; unfold stepE dirB; rw [hrD, if_pos hq1]
        have hfsb : S2.fs.length ≤ 96 := by have := hIS.n; omega
        have hb3s : (bArr (withB S2.b v ((el : Int)).toNat true)).size = 16 := by rw [bArr_size]; simp [withB, hIS.b.1]
        have hst3 (fv2 : Value) : spl (xC pcs S2.b fv2 re) (0 + 2) (bArr (withB S2.b v ((el : Int)).toNat true)) = xC pcs (withB S2.b v el true) fv2 re := xC_setB hsz hIS.b.1 (by simp [withB, hIS.b.1])
        have hxs3 (fv2 : Value) : (xC pcs S2.b fv2 re).size = 20 := xC_size hsz hIS.b.1
        repeat' (first | refine TC.seq ?_ | refine TC.region ?_ | refine TR.nil ?_ | refine Post.then_normal ?_ | refine TC.block ?_ | (apply TR.st1; exact rfl; exact rfl; exact rfl; (first | exact Wd.plain rfl | exact Wd.on rfl rfl rfl); (first | exact EvS.buildC (cells := #[.int .i64 v, .int .i64 (el : Int), .bool true, .int .i64 (n : Int), .slice none 0 0]) rfl (by kernel_rfl) | exact EvS.move rfl | (first | (apply EvS.load1; exact rfl; (first | exact Reads.mem (by assumption) | exact Reads.own (by repeat first | exact List.Mem.head _ | assumption | apply List.Mem.tail)); (first | assumption | exact nthL_arr rfl | exact rfl)) | (apply EvS.loadW; exact rfl; (first | exact Reads.mem (by assumption) | exact Reads.own (by repeat first | exact List.Mem.head _ | assumption | apply List.Mem.tail)); first | exact rfl | assumption) | (apply EvS.loadH; exact rfl; (first | exact Reads.mem (by assumption) | exact Reads.own (by repeat first | exact List.Mem.head _ | assumption | apply List.Mem.tail)); assumption; first | exact rfl | assumption)))) | (apply TR.ch1 (o := ⟨_, .alloc _, _, _, _, _⟩) ; exact rfl; exact rfl; exact rfl; (first | exact Wd.plain rfl | exact Wd.on rfl rfl rfl); exact EvC.alloc; intro g) | (apply TR.ch0 (o := ⟨_, .store _ _ _, _, _, _, _⟩) ; exact rfl; exact rfl; (first | exact Wd.plain rfl | exact Wd.on rfl rfl rfl); exact EvC.storeW rfl rfl (by first | exact rfl | assumption) (by first | exact bArr_one _ | exact rfl | (intro v hv; simp at hv; rcases hv with rfl | rfl | rfl | rfl | rfl | rfl | rfl | rfl <;> rfl)) (by repeat first | exact Upd.head | apply Upd.tail) (by first | exact rfl | assumption); rintro ⟨⟩))
        refine TC.draw_ [.st, .st, .st, .st, .st, .st, .ch, .st] mixed rfl (by kernel_rfl) ?_
        repeat' (first | (apply D.chx (o := ⟨_, .call _, _, _, _, _⟩); exact rfl; (first | exact Wd.plain rfl | exact Wd.on rfl rfl rfl); exact EvC.callV rfl rfl (fun w hs => hfo true _ _ hT2 hR42 _ hs); exact inferInstance; exact (by first | exact fun _ _ h => StX.of0 h | exact fun _ _ h => StX.of1 h | exact fun _ _ h => StX.of2 h | exact fun _ _ h => StX.of3 h | exact fun _ _ h => StX.of h); rintro ⟨⟩) | (apply D.st1; exact rfl; (first | exact Wd.plain rfl | exact Wd.on rfl rfl rfl); (first | exact EvS.fieldAddr rfl | (first | (apply EvS.load1; exact rfl; (first | exact Reads.memX (by assumption) | exact Reads.ownX (by repeat first | exact List.Mem.head _ | assumption | apply List.Mem.tail)); (first | assumption | exact nthL_arr rfl | exact rfl)) | (apply EvS.loadW; exact rfl; (first | exact Reads.memX (by assumption) | exact Reads.ownX (by repeat first | exact List.Mem.head _ | assumption | apply List.Mem.tail)); first | exact rfl | assumption) | (apply EvS.loadH; exact rfl; (first | exact Reads.memX (by assumption) | exact Reads.ownX (by repeat first | exact List.Mem.head _ | assumption | apply List.Mem.tail)); assumption; first | exact rfl | assumption)) | (first | exact EvS.not rfl | exact EvS.neg64 rfl (by first | with_reducible exact U64.var _ | exact U64.lit rfl)) | exact EvS.nilCheck rfl)) | refine D.tail_ ?_)
        cases re
        · repeat' (first | refine TC.seq ?_ | refine TC.region ?_ | refine TR.nil ?_ | refine Post.then_normal ?_ | refine TC.skip ?_ | (apply TC.cond_f; exact rfl) | (apply TC.cond_bf; exact rfl; assumption) | (apply TR.st1; exact rfl; exact rfl; exact rfl; (first | exact Wd.plain rfl | exact Wd.on rfl rfl rfl); (first | exact EvS.fieldAddr rfl | (first | (apply EvS.load1; exact rfl; (first | exact Reads.mem (by assumption) | exact Reads.own (by repeat first | exact List.Mem.head _ | assumption | apply List.Mem.tail)); (first | assumption | exact nthL_arr rfl | exact rfl)) | (apply EvS.loadW; exact rfl; (first | exact Reads.mem (by assumption) | exact Reads.own (by repeat first | exact List.Mem.head _ | assumption | apply List.Mem.tail)); first | exact rfl | assumption) | (apply EvS.loadH; exact rfl; (first | exact Reads.mem (by assumption) | exact Reads.own (by repeat first | exact List.Mem.head _ | assumption | apply List.Mem.tail)); assumption; first | exact rfl | assumption)) | exact EvS.nilCheck rfl)))
          refine TC.draw_ [.st, .st, .st, .st, .st, .st, .st, .st, .st, .ch, .st, .st] mixed rfl (by kernel_rfl) ?_
          repeat' (first | (apply D.chx (o := ⟨_, .call _, _, _, _, _⟩); exact rfl; (first | exact Wd.plain rfl | exact Wd.on rfl rfl rfl); exact EvC.callV rfl rfl (fun w hs => with_c S2.b v (el : Int) true hIS.b.1 hv8 (by omega) _ _ w hs); exact inferInstance; exact (by first | exact fun _ _ h => StX.of0 h | exact fun _ _ h => StX.of1 h | exact fun _ _ h => StX.of2 h | exact fun _ _ h => StX.of3 h | exact fun _ _ h => StX.of h); rintro ⟨⟩) | (apply D.st1; exact rfl; (first | exact Wd.plain rfl | exact Wd.on rfl rfl rfl); (first | exact EvS.move rfl | exact EvS.fieldAddr rfl | (first | (apply EvS.load1; exact rfl; (first | exact Reads.memX (by assumption) | exact Reads.ownX (by repeat first | exact List.Mem.head _ | assumption | apply List.Mem.tail)); (first | assumption | exact nthL_arr rfl | exact rfl)) | (apply EvS.loadW; exact rfl; (first | exact Reads.memX (by assumption) | exact Reads.ownX (by repeat first | exact List.Mem.head _ | assumption | apply List.Mem.tail)); first | exact rfl | assumption) | (apply EvS.loadH; exact rfl; (first | exact Reads.memX (by assumption) | exact Reads.ownX (by repeat first | exact List.Mem.head _ | assumption | apply List.Mem.tail)); assumption; first | exact rfl | assumption)) | exact EvS.nilCheck rfl)) | refine D.tail_ ?_)
          repeat' (first | (apply TR.ch0 (o := ⟨_, .store _ _ _, _, _, _, _⟩); exact rfl; exact rfl; exact Wd.plain rfl; exact EvC.storeN rfl rfl hb3s (by first | exact bArr_one _ | exact rfl | (intro v hv; simp at hv; rcases hv with rfl | rfl | rfl | rfl | rfl | rfl | rfl | rfl <;> rfl)) (Upd.castC (hst3 _) (by repeat first | exact Upd.head | apply Upd.tail)) (by rw [hxs3]; decide); rintro ⟨⟩) | refine TR.nil ?_ | refine Post.block_normal ?_)
          refine Post.turn (fun w h => h.tail) ?_
          refine Post.rq (some (g6, .cells #[.int .i64 v] 3 (0, 0)) :: some (gc, .cells #[.int .i64 r.kind, .slice B3 r.vars.length c3, .int .i64 r.low, .int .i64 r.high] 62 (0, 0)) :: some (gb, .cells #[.int .i64 (n : Int)] 3 (0, 0)) :: some (ga, .cells #[.pointer (some ⟨gx, 0, none⟩)] 92 (0, 0)) :: some (gx, .cells (xC pcs (withB S2.b v el true) v' false) 95 (0, 0)) :: e' :: (markL gs ++ L)) (Mem.Le.refl _) ⟨pre' ++ [el], v', e', rfl, hle2, by rw [hsame]; exact hrow2, by rw [hsame]; rfl⟩
        · repeat' (first | refine TC.seq ?_ | refine TC.region ?_ | refine TR.nil ?_ | refine Post.then_normal ?_ | refine TC.skip ?_ | (apply TC.cond_t; exact rfl) | (apply TC.cond_bf; exact rfl; assumption) | (apply TR.st1; exact rfl; exact rfl; exact rfl; (first | exact Wd.plain rfl | exact Wd.on rfl rfl rfl); (first | exact EvS.fieldAddr rfl | (first | (apply EvS.load1; exact rfl; (first | exact Reads.mem (by assumption) | exact Reads.own (by repeat first | exact List.Mem.head _ | assumption | apply List.Mem.tail)); (first | assumption | exact nthL_arr rfl | exact rfl)) | (apply EvS.loadW; exact rfl; (first | exact Reads.mem (by assumption) | exact Reads.own (by repeat first | exact List.Mem.head _ | assumption | apply List.Mem.tail)); first | exact rfl | assumption) | (apply EvS.loadH; exact rfl; (first | exact Reads.mem (by assumption) | exact Reads.own (by repeat first | exact List.Mem.head _ | assumption | apply List.Mem.tail)); assumption; first | exact rfl | assumption)) | exact EvS.nilCheck rfl)))
          refine TR.pull (fun w h => memO_le (lendAt (Rep1.tail (Rep1.tail (Rep1.tail (Rep1.tail (Rep1.tail (Rep1.tail Rep1.head)))))) h).1) fun hme => ?_
          obtain ⟨FA, fc, rfl, hFS⟩ := hrow2.lent hme (by omega)
          obtain ⟨css, hcss, hFL⟩ := hrow2
          obtain ⟨wl, hwl⟩ : ∃ wl, wl = whyB p S2.fs ⟨v, el, true, n, []⟩ := ⟨_, rfl⟩
          have hwlen : wl.length ≤ 96 := by
            have h1 : ∀ (l : List Nat) (w : List Nat), (l.foldl (trimB p S2.fs ⟨v, el, true, n, []⟩) w).length ≤ w.length := by
              intro l
              induction l with
              | nil => intro w; exact Nat.le_refl _
              | cons a l ih =>
                intro w
                refine Nat.le_trans (ih _) ?_
                unfold trimB
                split
                · exact List.length_eraseIdx_le _ _
                · exact Nat.le_refl _
            rw [hwl]
            unfold whyB
            refine Nat.le_trans (h1 _ _) (Nat.le_trans ?_ hfsb)
            unfold relB
            exact Nat.le_trans (List.length_filter_le _ _) (by simp)
          (apply TR.ch1 (o := ⟨_, .call _, _, _, _, _⟩); exact rfl; exact rfl; exact rfl; (first | exact Wd.plain rfl | exact Wd.on rfl rfl rfl); exact EvC.callX rfl rfl (fun w hs => borrowAt1 (Rep1.tail (Rep1.tail (Rep1.tail (Rep1.tail (Rep1.tail (Rep1.tail Rep1.head)))))) hs (fun hs => why_c p pcs hp S2.fs FA fc ⟨v, el, true, n, []⟩ gx (xC pcs S2.b (.slice FA S2.fs.length fc) true) _ hIS.f ⟨hv8, hel12⟩ hn (by omega) _ (hT2.mono hme) (hpc0.mono ((hle1.trans hle2).trans hme)) hFS (hx0 _ _) hx2f _ (by repeat first | exact List.Mem.head _ | apply List.Mem.tail) w hs)); rintro ⟨⟨wv, we⟩, hwrow⟩)
          simp only at hwrow ⊢
          rw [← hwl] at hwrow
          refine TR.pull (fun w h => (lend h).1) fun hmw => ?_
          refine TR.turn (fun w h => (lend h).2) ?_
          obtain ⟨WA, wc, rfl, _, hWS⟩ := OwnRow.lent (m := m2) (css := ints (zs wl)) (by rw [← vals_flat]; exact hwrow) (ints_len _) (by simp [ints, zs]) (by omega)
          repeat' (first | refine TR.nil ?_ | refine Post.then_normal ?_ | (apply TR.st1 (o := ⟨_, .fieldAddr _ _ _, _, _, _, _⟩); exact rfl; exact rfl; exact rfl; (first | exact Wd.plain rfl | exact Wd.on rfl rfl rfl); exact EvS.fieldAddr rfl) | (apply TR.ch0 (o := ⟨_, .store _ _ _, _, _, _, _⟩) ; exact rfl; exact rfl; (first | exact Wd.plain rfl | exact Wd.on rfl rfl rfl); exact EvC.store1 rfl rfl rfl (by repeat first | exact Upd.head | apply Upd.tail) (by first | assumption | exact Nat.lt_of_sub_eq_succ rfl | (simp; omega) | simp); rintro ⟨⟩))
          refine TC.turn (fun w h => h.perm (List.perm_middle (l₁ := [_, _, _, _, _, _]))) ?_
          refine TC.draw' (L1 := [e']) (Lb := _) [.st, .st, .st, .st, .st, .st, .ch, .ch, .st, .st] mixed rfl (by kernel_rfl) ?_
          repeat' (first | (apply D.chx (o := ⟨_, .call _, _, _, _, _⟩); exact rfl; exact Wd.plain rfl; (apply EvC.append; exact rfl; exact rfl; exact hcss; exact Rep1.tail Rep1.head; (apply RdC.whole; (first | exact Reads.mem (by assumption) | exact Reads.own (by repeat first | exact List.Mem.head _ | assumption | apply List.Mem.tail))); exact rfl; exact (by first | exact (fun v hv => by simp at hv; rcases hv with rfl | rfl | rfl | rfl | rfl | rfl | rfl | rfl <;> rfl) | exact (fun v hv => by simp at hv; rcases hv with rfl | rfl | rfl | rfl | rfl | rfl | rfl <;> rfl) | exact (fun v hv => by simp at hv; rcases hv with rfl | rfl | rfl | rfl <;> rfl) | exact (fun v hv => by simp at hv; rcases hv with rfl | rfl <;> rfl) | exact (fun v hv => by simp at hv; subst hv; rfl)); exact rfl; decide; omega; (intro e2; exact Rep1.tail Rep1.head)); exact ownRow_ex (by simp [flatten_length hFL.len, hFL.1]; omega) (by simp only [maxLen]; omega); exact fun _ _ h => StX.of2 h; rintro ⟨⟨v2, e2⟩, hrow3⟩) | (apply D.st1; exact rfl; (first | exact Wd.plain rfl | exact Wd.on rfl rfl rfl); (first | exact EvS.fieldAddr rfl | (first | (apply EvS.load1; exact rfl; (first | exact Reads.memX (by assumption) | exact Reads.ownX (by repeat first | exact List.Mem.head _ | assumption | apply List.Mem.tail)); (first | assumption | exact nthL_arr rfl | exact rfl)) | (apply EvS.loadW; exact rfl; (first | exact Reads.memX (by assumption) | exact Reads.ownX (by repeat first | exact List.Mem.head _ | assumption | apply List.Mem.tail)); first | exact rfl | assumption) | (apply EvS.loadH; exact rfl; (first | exact Reads.memX (by assumption) | exact Reads.ownX (by repeat first | exact List.Mem.head _ | assumption | apply List.Mem.tail)); assumption; first | exact rfl | assumption)) | exact EvS.nilCheck rfl)) | (apply D.chx (o := ⟨_, .buildSlice _ _ _, _, _, _, _⟩) ; exact rfl; (first | exact Wd.plain rfl | exact Wd.on rfl rfl rfl); exact EvC.buildA rfl (by exact rfl) (by exact rfl) (by decide) (by decide); exact inferInstance; exact (by first | exact fun _ _ h => StX.of0 h | exact fun _ _ h => StX.of1 h | exact fun _ _ h => StX.of2 h | exact fun _ _ h => StX.of3 h | exact fun _ _ h => StX.of h); intro g) | refine D.tail_ ?_)
          simp only at hrow3 ⊢
          have h3v := ownRow_one hrow3
          obtain ⟨nf, hnf⟩ : ∃ nf : Fc, nf = ⟨v, el, true, n, wl⟩ := ⟨_, rfl⟩
          have hFRow3 : FRow (memO m2 we) v2 (S2.fs ++ [nf]) e2 := by
            refine ⟨css ++ [[.int .i64 v, .int .i64 (el : Int), .bool true, .int .i64 (n : Int), .slice WA wl.length wc]], ?_, ?_, ?_⟩
            · rw [List.length_append, List.flatten_append]
              exact hrow3
            · simp [hFL.1]
            · intro k f cs hkf hkc
              by_cases hk : k < S2.fs.length
              · rw [List.getElem?_append_left hk] at hkf
                rw [List.getElem?_append_left (by rw [hFL.1]; exact hk)] at hkc
                exact (hFL.2 k f cs hkf hkc).mono hmw
              · rw [List.getElem?_append_right (by omega)] at hkf
                rw [List.getElem?_append_right (by rw [hFL.1]; omega), hFL.1] at hkc
                obtain ⟨rfl, hk0⟩ : f = nf ∧ k - S2.fs.length = 0 := by
                  cases hz : k - S2.fs.length with
                  | zero => rw [hz] at hkf; simp at hkf; exact ⟨hkf.symm, rfl⟩
                  | succ j => rw [hz] at hkf; simp at hkf
                rw [hk0] at hkc
                simp at hkc
                subst hkc hnf
                exact ⟨WA, wc, rfl, hWS⟩
          have hx3b := xC_b (pcs := pcs) (b := S2.b) (fv := v2) (re := true) hsz
          have hsf : (xC pcs S2.b (.slice FA S2.fs.length fc) true).setIfInBounds (0 + 18) v2 = xC pcs S2.b v2 true := xC_setF hsz hIS.b.1 v2
          have hxss : 0 + 18 < (xC pcs S2.b (.slice FA S2.fs.length fc) true).size := by rw [hxs3]; decide
          repeat' (first | (apply TR.ch0 (o := ⟨_, .store 48 _ _, _, _, _, _⟩); exact rfl; exact rfl; exact Wd.plain rfl; exact EvC.store1 rfl rfl h3v (Upd.castC hsf (by repeat first | exact Upd.head | apply Upd.tail)) hxss; rintro ⟨⟩) | refine TR.nil ?_ | refine Post.then_normal ?_)
          refine TC.draw_ [.st, .st, .st, .st, .st, .st, .st, .st, .st, .ch, .st, .st] mixed rfl (by kernel_rfl) ?_
          repeat' (first | (apply D.chx (o := ⟨_, .call _, _, _, _, _⟩); exact rfl; (first | exact Wd.plain rfl | exact Wd.on rfl rfl rfl); exact EvC.callV rfl rfl (fun w hs => with_c S2.b v (el : Int) true hIS.b.1 hv8 (by omega) _ _ w hs); exact inferInstance; exact (by first | exact fun _ _ h => StX.of0 h | exact fun _ _ h => StX.of1 h | exact fun _ _ h => StX.of2 h | exact fun _ _ h => StX.of3 h | exact fun _ _ h => StX.of h); rintro ⟨⟩) | (apply D.st1; exact rfl; (first | exact Wd.plain rfl | exact Wd.on rfl rfl rfl); (first | exact EvS.move rfl | exact EvS.fieldAddr rfl | (first | (apply EvS.load1; exact rfl; (first | exact Reads.memX (by assumption) | exact Reads.ownX (by repeat first | exact List.Mem.head _ | assumption | apply List.Mem.tail)); (first | assumption | exact nthL_arr rfl | exact rfl)) | (apply EvS.loadW; exact rfl; (first | exact Reads.memX (by assumption) | exact Reads.ownX (by repeat first | exact List.Mem.head _ | assumption | apply List.Mem.tail)); first | exact rfl | assumption) | (apply EvS.loadH; exact rfl; (first | exact Reads.memX (by assumption) | exact Reads.ownX (by repeat first | exact List.Mem.head _ | assumption | apply List.Mem.tail)); assumption; first | exact rfl | assumption)) | exact EvS.nilCheck rfl)) | refine D.tail_ ?_)
          repeat' (first | (apply TR.ch0 (o := ⟨_, .store _ _ _, _, _, _, _⟩); exact rfl; exact rfl; exact Wd.plain rfl; exact EvC.storeN rfl rfl hb3s (by first | exact bArr_one _ | exact rfl | (intro v hv; simp at hv; rcases hv with rfl | rfl | rfl | rfl | rfl | rfl | rfl | rfl <;> rfl)) (Upd.castC (hst3 _) (by repeat first | exact Upd.head | apply Upd.tail)) (by rw [hxs3]; decide); rintro ⟨⟩) | refine TR.nil ?_ | refine Post.block_normal ?_)
          refine Post.turn (fun w h => (h.tail.sublist (List.Sublist.cons_cons _ (List.Sublist.cons _ (List.Sublist.refl _)))).perm (List.perm_middle (l₁ := [_, _, _, _, _])).symm) ?_
          refine Post.rq (some (g6, .cells #[.int .i64 v] 3 (0, 0)) :: some (gc, .cells #[.int .i64 r.kind, .slice B3 r.vars.length c3, .int .i64 r.low, .int .i64 r.high] 62 (0, 0)) :: some (gb, .cells #[.int .i64 (n : Int)] 3 (0, 0)) :: some (ga, .cells #[.pointer (some ⟨gx, 0, none⟩)] 92 (0, 0)) :: some (gx, .cells (xC pcs (withB S2.b v el true) v2 true) 95 (0, 0)) :: e2 :: (markL gs ++ L)) hmw ⟨pre' ++ [el], v2, e2, rfl, hle2.trans hmw, by rw [hsame]; unfold addP; rw [← hwl, ← hnf]; exact hFRow3, by rw [hsame]; rfl⟩
      · rw [Bool.not_eq_true] at hq1
        by_cases hq2 : folB S2.b r v el false = true
        · have hn1 : (!folB S2.b r v el true) = true := by rw [hq1]; rfl
          have hn2 : (!folB S2.b r v el false) = false := by rw [hq2]; rfl
          have hsame : ST (pre' ++ [el]) = addP p re n v el false S2 := by rw [hnext]; unfold stepE dirB; rw [hrD, hq1, hq2]; rfl
          have hfsb : S2.fs.length ≤ 96 := by have := hIS.n; omega
          have hb3s : (bArr (withB S2.b v ((el : Int)).toNat false)).size = 16 := by rw [bArr_size]; simp [withB, hIS.b.1]
          have hst3 (fv2 : Value) : spl (xC pcs S2.b fv2 re) (0 + 2) (bArr (withB S2.b v ((el : Int)).toNat false)) = xC pcs (withB S2.b v el false) fv2 re := xC_setB hsz hIS.b.1 (by simp [withB, hIS.b.1])
          have hxs3 (fv2 : Value) : (xC pcs S2.b fv2 re).size = 20 := xC_size hsz hIS.b.1
          repeat' (first | refine TC.seq ?_ | refine TC.region ?_ | refine TR.nil ?_ | refine Post.then_normal ?_ | refine TC.block ?_ | (apply TR.st1; exact rfl; exact rfl; exact rfl; (first | exact Wd.plain rfl | exact Wd.on rfl rfl rfl); (first | exact EvS.buildC (cells := #[.int .i64 v, .int .i64 (el : Int), .bool true, .int .i64 (n : Int), .slice none 0 0]) rfl (by kernel_rfl) | exact EvS.move rfl | (first | (apply EvS.load1; exact rfl; (first | exact Reads.mem (by assumption) | exact Reads.own (by repeat first | exact List.Mem.head _ | assumption | apply List.Mem.tail)); (first | assumption | exact nthL_arr rfl | exact rfl)) | (apply EvS.loadW; exact rfl; (first | exact Reads.mem (by assumption) | exact Reads.own (by repeat first | exact List.Mem.head _ | assumption | apply List.Mem.tail)); first | exact rfl | assumption) | (apply EvS.loadH; exact rfl; (first | exact Reads.mem (by assumption) | exact Reads.own (by repeat first | exact List.Mem.head _ | assumption | apply List.Mem.tail)); assumption; first | exact rfl | assumption)))) | (apply TR.ch1 (o := ⟨_, .alloc _, _, _, _, _⟩) ; exact rfl; exact rfl; exact rfl; (first | exact Wd.plain rfl | exact Wd.on rfl rfl rfl); exact EvC.alloc; intro g) | (apply TR.ch0 (o := ⟨_, .store _ _ _, _, _, _, _⟩) ; exact rfl; exact rfl; (first | exact Wd.plain rfl | exact Wd.on rfl rfl rfl); exact EvC.storeW rfl rfl (by first | exact rfl | assumption) (by first | exact bArr_one _ | exact rfl | (intro v hv; simp at hv; rcases hv with rfl | rfl | rfl | rfl | rfl | rfl | rfl | rfl <;> rfl)) (by repeat first | exact Upd.head | apply Upd.tail) (by first | exact rfl | assumption); rintro ⟨⟩))
          refine TC.draw_ [.st, .st, .st, .st, .st, .st, .ch, .st] mixed rfl (by kernel_rfl) ?_
          repeat' (first | (apply D.chx (o := ⟨_, .call _, _, _, _, _⟩); exact rfl; (first | exact Wd.plain rfl | exact Wd.on rfl rfl rfl); exact EvC.callV rfl rfl (fun w hs => hfo true _ _ hT2 hR42 _ hs); exact inferInstance; exact (by first | exact fun _ _ h => StX.of0 h | exact fun _ _ h => StX.of1 h | exact fun _ _ h => StX.of2 h | exact fun _ _ h => StX.of3 h | exact fun _ _ h => StX.of h); rintro ⟨⟩) | (apply D.st1; exact rfl; (first | exact Wd.plain rfl | exact Wd.on rfl rfl rfl); (first | exact EvS.fieldAddr rfl | (first | (apply EvS.load1; exact rfl; (first | exact Reads.memX (by assumption) | exact Reads.ownX (by repeat first | exact List.Mem.head _ | assumption | apply List.Mem.tail)); (first | assumption | exact nthL_arr rfl | exact rfl)) | (apply EvS.loadW; exact rfl; (first | exact Reads.memX (by assumption) | exact Reads.ownX (by repeat first | exact List.Mem.head _ | assumption | apply List.Mem.tail)); first | exact rfl | assumption) | (apply EvS.loadH; exact rfl; (first | exact Reads.memX (by assumption) | exact Reads.ownX (by repeat first | exact List.Mem.head _ | assumption | apply List.Mem.tail)); assumption; first | exact rfl | assumption)) | (first | exact EvS.not rfl | exact EvS.neg64 rfl (by first | with_reducible exact U64.var _ | exact U64.lit rfl)) | exact EvS.nilCheck rfl)) | refine D.tail_ ?_)
          repeat' (first | refine TC.seq ?_ | refine TC.region ?_ | refine TR.nil ?_ | refine Post.then_normal ?_ | (apply TC.cond_bt; exact rfl; assumption) | (apply TR.st1 (o := ⟨_, .fieldAddr _ _ _, _, _, _, _⟩); exact rfl; exact rfl; exact rfl; (first | exact Wd.plain rfl | exact Wd.on rfl rfl rfl); exact EvS.fieldAddr rfl) | (apply TR.ch0 (o := ⟨_, .store _ _ _, _, _, _, _⟩) ; exact rfl; exact rfl; (first | exact Wd.plain rfl | exact Wd.on rfl rfl rfl); exact EvC.store1 rfl rfl rfl (by repeat first | exact Upd.head | apply Upd.tail) (by first | assumption | exact Nat.lt_of_sub_eq_succ rfl | (simp; omega) | simp); rintro ⟨⟩))
          rw [show (#[Value.int .i64 v, .int .i64 (el : Int), .bool true, .int .i64 (n : Int), .slice none 0 0].setIfInBounds (0 + 2) (.bool false)) = #[.int .i64 v, .int .i64 (el : Int), .bool false, .int .i64 (n : Int), .slice none 0 0] from rfl]
          refine TC.draw_ [.st, .st, .st, .st, .st, .st, .ch, .st] mixed rfl (by kernel_rfl) ?_
          repeat' (first | (apply D.chx (o := ⟨_, .call _, _, _, _, _⟩); exact rfl; (first | exact Wd.plain rfl | exact Wd.on rfl rfl rfl); exact EvC.callV rfl rfl (fun w hs => hfo false _ _ hT2 hR42 _ hs); exact inferInstance; exact (by first | exact fun _ _ h => StX.of0 h | exact fun _ _ h => StX.of1 h | exact fun _ _ h => StX.of2 h | exact fun _ _ h => StX.of3 h | exact fun _ _ h => StX.of h); rintro ⟨⟩) | (apply D.st1; exact rfl; (first | exact Wd.plain rfl | exact Wd.on rfl rfl rfl); (first | exact EvS.fieldAddr rfl | (first | (apply EvS.load1; exact rfl; (first | exact Reads.memX (by assumption) | exact Reads.ownX (by repeat first | exact List.Mem.head _ | assumption | apply List.Mem.tail)); (first | assumption | exact nthL_arr rfl | exact rfl)) | (apply EvS.loadW; exact rfl; (first | exact Reads.memX (by assumption) | exact Reads.ownX (by repeat first | exact List.Mem.head _ | assumption | apply List.Mem.tail)); first | exact rfl | assumption) | (apply EvS.loadH; exact rfl; (first | exact Reads.memX (by assumption) | exact Reads.ownX (by repeat first | exact List.Mem.head _ | assumption | apply List.Mem.tail)); assumption; first | exact rfl | assumption)) | (first | exact EvS.not rfl | exact EvS.neg64 rfl (by first | with_reducible exact U64.var _ | exact U64.lit rfl)) | exact EvS.nilCheck rfl)) | refine D.tail_ ?_)
          cases re
          · repeat' (first | refine TC.seq ?_ | refine TC.region ?_ | refine TR.nil ?_ | refine Post.then_normal ?_ | refine TC.skip ?_ | (apply TC.cond_f; exact rfl) | (apply TC.cond_bf; exact rfl; assumption) | (apply TR.st1; exact rfl; exact rfl; exact rfl; (first | exact Wd.plain rfl | exact Wd.on rfl rfl rfl); (first | exact EvS.fieldAddr rfl | (first | (apply EvS.load1; exact rfl; (first | exact Reads.mem (by assumption) | exact Reads.own (by repeat first | exact List.Mem.head _ | assumption | apply List.Mem.tail)); (first | assumption | exact nthL_arr rfl | exact rfl)) | (apply EvS.loadW; exact rfl; (first | exact Reads.mem (by assumption) | exact Reads.own (by repeat first | exact List.Mem.head _ | assumption | apply List.Mem.tail)); first | exact rfl | assumption) | (apply EvS.loadH; exact rfl; (first | exact Reads.mem (by assumption) | exact Reads.own (by repeat first | exact List.Mem.head _ | assumption | apply List.Mem.tail)); assumption; first | exact rfl | assumption)) | exact EvS.nilCheck rfl)))
            refine TC.draw_ [.st, .st, .st, .st, .st, .st, .st, .st, .st, .ch, .st, .st] mixed rfl (by kernel_rfl) ?_
            repeat' (first | (apply D.chx (o := ⟨_, .call _, _, _, _, _⟩); exact rfl; (first | exact Wd.plain rfl | exact Wd.on rfl rfl rfl); exact EvC.callV rfl rfl (fun w hs => with_c S2.b v (el : Int) false hIS.b.1 hv8 (by omega) _ _ w hs); exact inferInstance; exact (by first | exact fun _ _ h => StX.of0 h | exact fun _ _ h => StX.of1 h | exact fun _ _ h => StX.of2 h | exact fun _ _ h => StX.of3 h | exact fun _ _ h => StX.of h); rintro ⟨⟩) | (apply D.st1; exact rfl; (first | exact Wd.plain rfl | exact Wd.on rfl rfl rfl); (first | exact EvS.move rfl | exact EvS.fieldAddr rfl | (first | (apply EvS.load1; exact rfl; (first | exact Reads.memX (by assumption) | exact Reads.ownX (by repeat first | exact List.Mem.head _ | assumption | apply List.Mem.tail)); (first | assumption | exact nthL_arr rfl | exact rfl)) | (apply EvS.loadW; exact rfl; (first | exact Reads.memX (by assumption) | exact Reads.ownX (by repeat first | exact List.Mem.head _ | assumption | apply List.Mem.tail)); first | exact rfl | assumption) | (apply EvS.loadH; exact rfl; (first | exact Reads.memX (by assumption) | exact Reads.ownX (by repeat first | exact List.Mem.head _ | assumption | apply List.Mem.tail)); assumption; first | exact rfl | assumption)) | exact EvS.nilCheck rfl)) | refine D.tail_ ?_)
            repeat' (first | (apply TR.ch0 (o := ⟨_, .store _ _ _, _, _, _, _⟩); exact rfl; exact rfl; exact Wd.plain rfl; exact EvC.storeN rfl rfl hb3s (by first | exact bArr_one _ | exact rfl | (intro v hv; simp at hv; rcases hv with rfl | rfl | rfl | rfl | rfl | rfl | rfl | rfl <;> rfl)) (Upd.castC (hst3 _) (by repeat first | exact Upd.head | apply Upd.tail)) (by rw [hxs3]; decide); rintro ⟨⟩) | refine TR.nil ?_ | refine Post.block_normal ?_)
            refine Post.turn (fun w h => h.tail) ?_
            refine Post.rq (some (g6, .cells #[.int .i64 v] 3 (0, 0)) :: some (gc, .cells #[.int .i64 r.kind, .slice B3 r.vars.length c3, .int .i64 r.low, .int .i64 r.high] 62 (0, 0)) :: some (gb, .cells #[.int .i64 (n : Int)] 3 (0, 0)) :: some (ga, .cells #[.pointer (some ⟨gx, 0, none⟩)] 92 (0, 0)) :: some (gx, .cells (xC pcs (withB S2.b v el false) v' false) 95 (0, 0)) :: e' :: (markL gs ++ L)) (Mem.Le.refl _) ⟨pre' ++ [el], v', e', rfl, hle2, by rw [hsame]; exact hrow2, by rw [hsame]; rfl⟩
          · repeat' (first | refine TC.seq ?_ | refine TC.region ?_ | refine TR.nil ?_ | refine Post.then_normal ?_ | refine TC.skip ?_ | (apply TC.cond_t; exact rfl) | (apply TC.cond_bf; exact rfl; assumption) | (apply TR.st1; exact rfl; exact rfl; exact rfl; (first | exact Wd.plain rfl | exact Wd.on rfl rfl rfl); (first | exact EvS.fieldAddr rfl | (first | (apply EvS.load1; exact rfl; (first | exact Reads.mem (by assumption) | exact Reads.own (by repeat first | exact List.Mem.head _ | assumption | apply List.Mem.tail)); (first | assumption | exact nthL_arr rfl | exact rfl)) | (apply EvS.loadW; exact rfl; (first | exact Reads.mem (by assumption) | exact Reads.own (by repeat first | exact List.Mem.head _ | assumption | apply List.Mem.tail)); first | exact rfl | assumption) | (apply EvS.loadH; exact rfl; (first | exact Reads.mem (by assumption) | exact Reads.own (by repeat first | exact List.Mem.head _ | assumption | apply List.Mem.tail)); assumption; first | exact rfl | assumption)) | exact EvS.nilCheck rfl)))
            refine TR.pull (fun w h => memO_le (lendAt (Rep1.tail (Rep1.tail (Rep1.tail (Rep1.tail (Rep1.tail (Rep1.tail Rep1.head)))))) h).1) fun hme => ?_
            obtain ⟨FA, fc, rfl, hFS⟩ := hrow2.lent hme (by omega)
            obtain ⟨css, hcss, hFL⟩ := hrow2
            obtain ⟨wl, hwl⟩ : ∃ wl, wl = whyB p S2.fs ⟨v, el, false, n, []⟩ := ⟨_, rfl⟩
            have hwlen : wl.length ≤ 96 := by
              have h1 : ∀ (l : List Nat) (w : List Nat), (l.foldl (trimB p S2.fs ⟨v, el, false, n, []⟩) w).length ≤ w.length := by
                intro l
                induction l with
                | nil => intro w; exact Nat.le_refl _
                | cons a l ih =>
                  intro w
                  refine Nat.le_trans (ih _) ?_
                  unfold trimB
                  split
                  · exact List.length_eraseIdx_le _ _
                  · exact Nat.le_refl _
              rw [hwl]
              unfold whyB
              refine Nat.le_trans (h1 _ _) (Nat.le_trans ?_ hfsb)
              unfold relB
              exact Nat.le_trans (List.length_filter_le _ _) (by simp)
            (apply TR.ch1 (o := ⟨_, .call _, _, _, _, _⟩); exact rfl; exact rfl; exact rfl; (first | exact Wd.plain rfl | exact Wd.on rfl rfl rfl); exact EvC.callX rfl rfl (fun w hs => borrowAt1 (Rep1.tail (Rep1.tail (Rep1.tail (Rep1.tail (Rep1.tail (Rep1.tail Rep1.head)))))) hs (fun hs => why_c p pcs hp S2.fs FA fc ⟨v, el, false, n, []⟩ gx (xC pcs S2.b (.slice FA S2.fs.length fc) true) _ hIS.f ⟨hv8, hel12⟩ hn (by omega) _ (hT2.mono hme) (hpc0.mono ((hle1.trans hle2).trans hme)) hFS (hx0 _ _) hx2f _ (by repeat first | exact List.Mem.head _ | apply List.Mem.tail) w hs)); rintro ⟨⟨wv, we⟩, hwrow⟩)
            simp only at hwrow ⊢
            rw [← hwl] at hwrow
            refine TR.pull (fun w h => (lend h).1) fun hmw => ?_
            refine TR.turn (fun w h => (lend h).2) ?_
            obtain ⟨WA, wc, rfl, _, hWS⟩ := OwnRow.lent (m := m2) (css := ints (zs wl)) (by rw [← vals_flat]; exact hwrow) (ints_len _) (by simp [ints, zs]) (by omega)
            repeat' (first | refine TR.nil ?_ | refine Post.then_normal ?_ | (apply TR.st1 (o := ⟨_, .fieldAddr _ _ _, _, _, _, _⟩); exact rfl; exact rfl; exact rfl; (first | exact Wd.plain rfl | exact Wd.on rfl rfl rfl); exact EvS.fieldAddr rfl) | (apply TR.ch0 (o := ⟨_, .store _ _ _, _, _, _, _⟩) ; exact rfl; exact rfl; (first | exact Wd.plain rfl | exact Wd.on rfl rfl rfl); exact EvC.store1 rfl rfl rfl (by repeat first | exact Upd.head | apply Upd.tail) (by first | assumption | exact Nat.lt_of_sub_eq_succ rfl | (simp; omega) | simp); rintro ⟨⟩))
            refine TC.turn (fun w h => h.perm (List.perm_middle (l₁ := [_, _, _, _, _, _]))) ?_
            refine TC.draw' (L1 := [e']) (Lb := _) [.st, .st, .st, .st, .st, .st, .ch, .ch, .st, .st] mixed rfl (by kernel_rfl) ?_
            repeat' (first | (apply D.chx (o := ⟨_, .call _, _, _, _, _⟩); exact rfl; exact Wd.plain rfl; (apply EvC.append; exact rfl; exact rfl; exact hcss; exact Rep1.tail Rep1.head; (apply RdC.whole; (first | exact Reads.mem (by assumption) | exact Reads.own (by repeat first | exact List.Mem.head _ | assumption | apply List.Mem.tail))); exact rfl; exact (by first | exact (fun v hv => by simp at hv; rcases hv with rfl | rfl | rfl | rfl | rfl | rfl | rfl | rfl <;> rfl) | exact (fun v hv => by simp at hv; rcases hv with rfl | rfl | rfl | rfl | rfl | rfl | rfl <;> rfl) | exact (fun v hv => by simp at hv; rcases hv with rfl | rfl | rfl | rfl <;> rfl) | exact (fun v hv => by simp at hv; rcases hv with rfl | rfl <;> rfl) | exact (fun v hv => by simp at hv; subst hv; rfl)); exact rfl; decide; omega; (intro e2; exact Rep1.tail Rep1.head)); exact ownRow_ex (by simp [flatten_length hFL.len, hFL.1]; omega) (by simp only [maxLen]; omega); exact fun _ _ h => StX.of2 h; rintro ⟨⟨v2, e2⟩, hrow3⟩) | (apply D.st1; exact rfl; (first | exact Wd.plain rfl | exact Wd.on rfl rfl rfl); (first | exact EvS.fieldAddr rfl | (first | (apply EvS.load1; exact rfl; (first | exact Reads.memX (by assumption) | exact Reads.ownX (by repeat first | exact List.Mem.head _ | assumption | apply List.Mem.tail)); (first | assumption | exact nthL_arr rfl | exact rfl)) | (apply EvS.loadW; exact rfl; (first | exact Reads.memX (by assumption) | exact Reads.ownX (by repeat first | exact List.Mem.head _ | assumption | apply List.Mem.tail)); first | exact rfl | assumption) | (apply EvS.loadH; exact rfl; (first | exact Reads.memX (by assumption) | exact Reads.ownX (by repeat first | exact List.Mem.head _ | assumption | apply List.Mem.tail)); assumption; first | exact rfl | assumption)) | exact EvS.nilCheck rfl)) | (apply D.chx (o := ⟨_, .buildSlice _ _ _, _, _, _, _⟩) ; exact rfl; (first | exact Wd.plain rfl | exact Wd.on rfl rfl rfl); exact EvC.buildA rfl (by exact rfl) (by exact rfl) (by decide) (by decide); exact inferInstance; exact (by first | exact fun _ _ h => StX.of0 h | exact fun _ _ h => StX.of1 h | exact fun _ _ h => StX.of2 h | exact fun _ _ h => StX.of3 h | exact fun _ _ h => StX.of h); intro g) | refine D.tail_ ?_)
            simp only at hrow3 ⊢
            have h3v := ownRow_one hrow3
            obtain ⟨nf, hnf⟩ : ∃ nf : Fc, nf = ⟨v, el, false, n, wl⟩ := ⟨_, rfl⟩
            have hFRow3 : FRow (memO m2 we) v2 (S2.fs ++ [nf]) e2 := by
              refine ⟨css ++ [[.int .i64 v, .int .i64 (el : Int), .bool false, .int .i64 (n : Int), .slice WA wl.length wc]], ?_, ?_, ?_⟩
              · rw [List.length_append, List.flatten_append]
                exact hrow3
              · simp [hFL.1]
              · intro k f cs hkf hkc
                by_cases hk : k < S2.fs.length
                · rw [List.getElem?_append_left hk] at hkf
                  rw [List.getElem?_append_left (by rw [hFL.1]; exact hk)] at hkc
                  exact (hFL.2 k f cs hkf hkc).mono hmw
                · rw [List.getElem?_append_right (by omega)] at hkf
                  rw [List.getElem?_append_right (by rw [hFL.1]; omega), hFL.1] at hkc
                  obtain ⟨rfl, hk0⟩ : f = nf ∧ k - S2.fs.length = 0 := by
                    cases hz : k - S2.fs.length with
                    | zero => rw [hz] at hkf; simp at hkf; exact ⟨hkf.symm, rfl⟩
                    | succ j => rw [hz] at hkf; simp at hkf
                  rw [hk0] at hkc
                  simp at hkc
                  subst hkc hnf
                  exact ⟨WA, wc, rfl, hWS⟩
            have hx3b := xC_b (pcs := pcs) (b := S2.b) (fv := v2) (re := true) hsz
            have hsf : (xC pcs S2.b (.slice FA S2.fs.length fc) true).setIfInBounds (0 + 18) v2 = xC pcs S2.b v2 true := xC_setF hsz hIS.b.1 v2
            have hxss : 0 + 18 < (xC pcs S2.b (.slice FA S2.fs.length fc) true).size := by rw [hxs3]; decide
            repeat' (first | (apply TR.ch0 (o := ⟨_, .store 48 _ _, _, _, _, _⟩); exact rfl; exact rfl; exact Wd.plain rfl; exact EvC.store1 rfl rfl h3v (Upd.castC hsf (by repeat first | exact Upd.head | apply Upd.tail)) hxss; rintro ⟨⟩) | refine TR.nil ?_ | refine Post.then_normal ?_)
            refine TC.draw_ [.st, .st, .st, .st, .st, .st, .st, .st, .st, .ch, .st, .st] mixed rfl (by kernel_rfl) ?_
            repeat' (first | (apply D.chx (o := ⟨_, .call _, _, _, _, _⟩); exact rfl; (first | exact Wd.plain rfl | exact Wd.on rfl rfl rfl); exact EvC.callV rfl rfl (fun w hs => with_c S2.b v (el : Int) false hIS.b.1 hv8 (by omega) _ _ w hs); exact inferInstance; exact (by first | exact fun _ _ h => StX.of0 h | exact fun _ _ h => StX.of1 h | exact fun _ _ h => StX.of2 h | exact fun _ _ h => StX.of3 h | exact fun _ _ h => StX.of h); rintro ⟨⟩) | (apply D.st1; exact rfl; (first | exact Wd.plain rfl | exact Wd.on rfl rfl rfl); (first | exact EvS.move rfl | exact EvS.fieldAddr rfl | (first | (apply EvS.load1; exact rfl; (first | exact Reads.memX (by assumption) | exact Reads.ownX (by repeat first | exact List.Mem.head _ | assumption | apply List.Mem.tail)); (first | assumption | exact nthL_arr rfl | exact rfl)) | (apply EvS.loadW; exact rfl; (first | exact Reads.memX (by assumption) | exact Reads.ownX (by repeat first | exact List.Mem.head _ | assumption | apply List.Mem.tail)); first | exact rfl | assumption) | (apply EvS.loadH; exact rfl; (first | exact Reads.memX (by assumption) | exact Reads.ownX (by repeat first | exact List.Mem.head _ | assumption | apply List.Mem.tail)); assumption; first | exact rfl | assumption)) | exact EvS.nilCheck rfl)) | refine D.tail_ ?_)
            repeat' (first | (apply TR.ch0 (o := ⟨_, .store _ _ _, _, _, _, _⟩); exact rfl; exact rfl; exact Wd.plain rfl; exact EvC.storeN rfl rfl hb3s (by first | exact bArr_one _ | exact rfl | (intro v hv; simp at hv; rcases hv with rfl | rfl | rfl | rfl | rfl | rfl | rfl | rfl <;> rfl)) (Upd.castC (hst3 _) (by repeat first | exact Upd.head | apply Upd.tail)) (by rw [hxs3]; decide); rintro ⟨⟩) | refine TR.nil ?_ | refine Post.block_normal ?_)
            refine Post.turn (fun w h => (h.tail.sublist (List.Sublist.cons_cons _ (List.Sublist.cons _ (List.Sublist.refl _)))).perm (List.perm_middle (l₁ := [_, _, _, _, _])).symm) ?_
            refine Post.rq (some (g6, .cells #[.int .i64 v] 3 (0, 0)) :: some (gc, .cells #[.int .i64 r.kind, .slice B3 r.vars.length c3, .int .i64 r.low, .int .i64 r.high] 62 (0, 0)) :: some (gb, .cells #[.int .i64 (n : Int)] 3 (0, 0)) :: some (ga, .cells #[.pointer (some ⟨gx, 0, none⟩)] 92 (0, 0)) :: some (gx, .cells (xC pcs (withB S2.b v el false) v2 true) 95 (0, 0)) :: e2 :: (markL gs ++ L)) hmw ⟨pre' ++ [el], v2, e2, rfl, hle2.trans hmw, by rw [hsame]; unfold addP; rw [← hwl, ← hnf]; exact hFRow3, by rw [hsame]; rfl⟩
        · rw [Bool.not_eq_true] at hq2
          have hn1 : (!folB S2.b r v el true) = true := by rw [hq1]; rfl
          have hn2 : (!folB S2.b r v el false) = true := by rw [hq2]; rfl
          have hsame : ST (pre' ++ [el]) = S2 := by rw [hnext]; unfold stepE dirB; rw [hrD, hq1, hq2]; rfl
          repeat' (first | refine TC.seq ?_ | refine TC.region ?_ | refine TR.nil ?_ | refine Post.then_normal ?_ | refine TC.block ?_ | (apply TR.st1; exact rfl; exact rfl; exact rfl; (first | exact Wd.plain rfl | exact Wd.on rfl rfl rfl); (first | exact EvS.buildC (cells := #[.int .i64 v, .int .i64 (el : Int), .bool true, .int .i64 (n : Int), .slice none 0 0]) rfl (by kernel_rfl) | exact EvS.move rfl | (first | (apply EvS.load1; exact rfl; (first | exact Reads.mem (by assumption) | exact Reads.own (by repeat first | exact List.Mem.head _ | assumption | apply List.Mem.tail)); (first | assumption | exact nthL_arr rfl | exact rfl)) | (apply EvS.loadW; exact rfl; (first | exact Reads.mem (by assumption) | exact Reads.own (by repeat first | exact List.Mem.head _ | assumption | apply List.Mem.tail)); first | exact rfl | assumption) | (apply EvS.loadH; exact rfl; (first | exact Reads.mem (by assumption) | exact Reads.own (by repeat first | exact List.Mem.head _ | assumption | apply List.Mem.tail)); assumption; first | exact rfl | assumption)))) | (apply TR.ch1 (o := ⟨_, .alloc _, _, _, _, _⟩) ; exact rfl; exact rfl; exact rfl; (first | exact Wd.plain rfl | exact Wd.on rfl rfl rfl); exact EvC.alloc; intro g) | (apply TR.ch0 (o := ⟨_, .store _ _ _, _, _, _, _⟩) ; exact rfl; exact rfl; (first | exact Wd.plain rfl | exact Wd.on rfl rfl rfl); exact EvC.storeW rfl rfl (by first | exact rfl | assumption) (by first | exact bArr_one _ | exact rfl | (intro v hv; simp at hv; rcases hv with rfl | rfl | rfl | rfl | rfl | rfl | rfl | rfl <;> rfl)) (by repeat first | exact Upd.head | apply Upd.tail) (by first | exact rfl | assumption); rintro ⟨⟩))
          refine TC.draw_ [.st, .st, .st, .st, .st, .st, .ch, .st] mixed rfl (by kernel_rfl) ?_
          repeat' (first | (apply D.chx (o := ⟨_, .call _, _, _, _, _⟩); exact rfl; (first | exact Wd.plain rfl | exact Wd.on rfl rfl rfl); exact EvC.callV rfl rfl (fun w hs => hfo true _ _ hT2 hR42 _ hs); exact inferInstance; exact (by first | exact fun _ _ h => StX.of0 h | exact fun _ _ h => StX.of1 h | exact fun _ _ h => StX.of2 h | exact fun _ _ h => StX.of3 h | exact fun _ _ h => StX.of h); rintro ⟨⟩) | (apply D.st1; exact rfl; (first | exact Wd.plain rfl | exact Wd.on rfl rfl rfl); (first | exact EvS.fieldAddr rfl | (first | (apply EvS.load1; exact rfl; (first | exact Reads.memX (by assumption) | exact Reads.ownX (by repeat first | exact List.Mem.head _ | assumption | apply List.Mem.tail)); (first | assumption | exact nthL_arr rfl | exact rfl)) | (apply EvS.loadW; exact rfl; (first | exact Reads.memX (by assumption) | exact Reads.ownX (by repeat first | exact List.Mem.head _ | assumption | apply List.Mem.tail)); first | exact rfl | assumption) | (apply EvS.loadH; exact rfl; (first | exact Reads.memX (by assumption) | exact Reads.ownX (by repeat first | exact List.Mem.head _ | assumption | apply List.Mem.tail)); assumption; first | exact rfl | assumption)) | (first | exact EvS.not rfl | exact EvS.neg64 rfl (by first | with_reducible exact U64.var _ | exact U64.lit rfl)) | exact EvS.nilCheck rfl)) | refine D.tail_ ?_)
          repeat' (first | refine TC.seq ?_ | refine TC.region ?_ | refine TR.nil ?_ | refine Post.then_normal ?_ | (apply TC.cond_bt; exact rfl; assumption) | (apply TR.st1 (o := ⟨_, .fieldAddr _ _ _, _, _, _, _⟩); exact rfl; exact rfl; exact rfl; (first | exact Wd.plain rfl | exact Wd.on rfl rfl rfl); exact EvS.fieldAddr rfl) | (apply TR.ch0 (o := ⟨_, .store _ _ _, _, _, _, _⟩) ; exact rfl; exact rfl; (first | exact Wd.plain rfl | exact Wd.on rfl rfl rfl); exact EvC.store1 rfl rfl rfl (by repeat first | exact Upd.head | apply Upd.tail) (by first | assumption | exact Nat.lt_of_sub_eq_succ rfl | (simp; omega) | simp); rintro ⟨⟩))
          refine TC.draw_ [.st, .st, .st, .st, .st, .st, .ch, .st] mixed rfl (by kernel_rfl) ?_
          repeat' (first | (apply D.chx (o := ⟨_, .call _, _, _, _, _⟩); exact rfl; (first | exact Wd.plain rfl | exact Wd.on rfl rfl rfl); exact EvC.callV rfl rfl (fun w hs => hfo false _ _ hT2 hR42 _ hs); exact inferInstance; exact (by first | exact fun _ _ h => StX.of0 h | exact fun _ _ h => StX.of1 h | exact fun _ _ h => StX.of2 h | exact fun _ _ h => StX.of3 h | exact fun _ _ h => StX.of h); rintro ⟨⟩) | (apply D.st1; exact rfl; (first | exact Wd.plain rfl | exact Wd.on rfl rfl rfl); (first | exact EvS.fieldAddr rfl | (first | (apply EvS.load1; exact rfl; (first | exact Reads.memX (by assumption) | exact Reads.ownX (by repeat first | exact List.Mem.head _ | assumption | apply List.Mem.tail)); (first | assumption | exact nthL_arr rfl | exact rfl)) | (apply EvS.loadW; exact rfl; (first | exact Reads.memX (by assumption) | exact Reads.ownX (by repeat first | exact List.Mem.head _ | assumption | apply List.Mem.tail)); first | exact rfl | assumption) | (apply EvS.loadH; exact rfl; (first | exact Reads.memX (by assumption) | exact Reads.ownX (by repeat first | exact List.Mem.head _ | assumption | apply List.Mem.tail)); assumption; first | exact rfl | assumption)) | (first | exact EvS.not rfl | exact EvS.neg64 rfl (by first | with_reducible exact U64.var _ | exact U64.lit rfl)) | exact EvS.nilCheck rfl)) | refine D.tail_ ?_)
          repeat' (first | refine TR.nil ?_ | refine Post.then_normal ?_ | refine TC.exit ?_ | (apply TC.cond_bt; exact rfl; assumption) | refine Post.then_exit ?_ | refine Post.block_here ?_)
          refine Post.turn (fun w h => h.tail) ?_
          refine Post.rq (some (g6, .cells #[.int .i64 v] 3 (0, 0)) :: some (gc, .cells #[.int .i64 r.kind, .slice B3 r.vars.length c3, .int .i64 r.low, .int .i64 r.high] 62 (0, 0)) :: some (gb, .cells #[.int .i64 (n : Int)] 3 (0, 0)) :: some (ga, .cells #[.pointer (some ⟨gx, 0, none⟩)] 92 (0, 0)) :: some (gx, .cells (xC pcs S2.b v' re) 95 (0, 0)) :: e' :: (markL gs ++ L)) (Mem.Le.refl _) ⟨pre' ++ [el], v', e', rfl, hle2, by rw [hsame]; exact hrow2, by rw [hsame]⟩
    · rintro gd m2 Lc ⟨pre', v', e', hpre, hle2, hrow2, rfl⟩
      have := nats_inj hpre
      subst this
      repeat' (first | refine TC.region ?_ | refine TR.nil ?_ | refine Post.then_normal ?_ | refine Post.block_normal ?_ | (apply TR.st1; exact rfl; exact rfl; exact rfl; (first | exact Wd.plain rfl | exact Wd.on rfl rfl rfl); (first | exact EvS.move rfl | (first | exact EvS.addI rfl rfl (by omega) | exact EvS.add64 rfl rfl (by first | with_reducible exact U64.var _ | exact U64.lit rfl) (by first | with_reducible exact U64.var _ | exact U64.lit rfl)))))
      refine Post.nextD ⟨k + 1, gd :: gs, m2, ST (elems (openB y)), v', e'⟩ ⟨by simp only; omega, ?_, hle1.trans hle2, hrow2, (hIST _ (List.prefix_refl _)).1⟩ rfl (incl.lk (by repeat first | exact trivial | refine ⟨rfl, ?_⟩)) (fun w h => ?_) (by simp only; omega)
      · simp only
        rw [List.take_add_one, hv, Option.toList_some, List.foldl_append, ← hs1, hST]
        simp only [List.foldl_cons, List.foldl_nil, stepV, ← hy]
      · exact (h.sublist (List.Sublist.cons_cons _ (List.Sublist.cons _ (List.Sublist.refl _)))).perm (List.perm_middle (l₁ := [_, _, _, _, _])).symm
    · rintro gd c pre m2 Lc _ h
      exact h.elim
  · have hd : decide ((k : Int) < (r.vars.length : Int)) = false := by simpa using hlt
    obtain rfl : k = r.vars.length := by omega
    repeat' (first | refine TC.seq ?_ | refine TC.region ?_ | refine TR.nil ?_ | refine Post.then_normal ?_ | refine TC.exit ?_ | (apply TC.cond_bf; exact rfl; assumption) | refine Post.then_exit ?_ | refine Post.block_here ?_ | (apply TR.st1 (o := ⟨_, .binOp .lss _ _ _ _, _, _, _, _⟩); exact rfl; exact rfl; exact rfl; (first | exact Wd.plain rfl | exact Wd.on rfl rfl rfl); exact EvS.ltI rfl rfl))
    refine Post.turn (fun w h => h.perm (List.perm_append_comm_assoc (l₁ := [_, _, _, _, _]) _ _)) ?_
    refine Post.body_end_m (gs := gs) _ (ResL.zero rfl) fun w h => ?_
    have hfin : s1 = ruleS p re n s := by rw [hs1, List.take_length]; unfold ruleS; rw [hrD]
    subst hfin
    exact ⟨⟨(m1, v1, e1), hle1, hrow1⟩, rfl, h.tail.tail.tail⟩
end Go.Proofs.YtgpgjpcebajofaaGreatDoor
set_option maxHeartbeats 4000000
set_option linter.unusedVariables false
set_option linter.unusedSimpArgs false
set_option maxRecDepth 100000
namespace Go.Proofs.YtgpgjpcebajofaaGreatDoor
open Go Go.XC Go.RowKit Go.SetsP
attribute [local irreducible] Post TC TR D WL EvS EvC Wd ResL Code.wpIn Exit.then Exit.inBlock Exit.noGoto LoopK LoopP bodyPostM Reads Calls

/-! ### Two bounds compared -/
theorem u46 : (Tryz.prog).underlying 39 = some (.int .u64) := by kernel_rfl
theorem keyLits_u64 (d : Nat) (x : BV) : (Tryz.prog).keyLits (d + 1) 39 [.int .u64 (x.toNat : Int)] = some [.int .u64 (x.toNat : Int)] := by
  unfold Program.keyLits
  rw [u46]
  simp only
  rw [if_pos]
  refine ⟨trivial, ?_⟩
  have := x.isLt
  unfold Lit.wf
  simp only [Bool.and_eq_true, decide_eq_true_eq]
  constructor
  · show (0 : Int) ≤ _
    omega
  · show _ ≤ (18446744073709551615 : Int)
    omega
theorem u48 : ∃ fs : Array Field, (Tryz.prog).underlying 53 = some (.struct fs) ∧ fs.toList.map (fun f => (f.type, f.offset)) = [(39, 0), (39, 1)] ∧ fs.all (·.name != "_") = true := by
  have h : (match (Tryz.prog).underlying 53 with | some (.struct fs) => (fs.toList.map (fun f => (f.type, f.offset)) == [(39, 0), (39, 1)]) && fs.all (·.name != "_") | _ => false) = true := by kernel_rfl
  cases hu : (Tryz.prog).underlying 53 with
  | none => rw [hu] at h; cases h
  | some u =>
    rw [hu] at h
    cases u with
    | struct fs =>
      simp only [Bool.and_eq_true, beq_iff_eq] at h
      exact ⟨fs, rfl, h.1, h.2⟩
    | _ => cases h
theorem cells48 : (Tryz.prog).cellsOf 53 = 2 := by kernel_rfl
theorem cells46 : (Tryz.prog).cellsOf 39 = 1 := by kernel_rfl
def bdL (x : Bd) : List Lit := [.int .u64 (x.lo.toNat : Int), .int .u64 (x.can.toNat : Int)]
theorem keyLits_bd (d : Nat) (x : Bd) : (Tryz.prog).keyLits (d + 2) 53 (bdC x) = some (bdL x) := by
  obtain ⟨fs, hu, fields48, names48⟩ := u48
  have hf : ∃ f g, fs.toList = [f, g] ∧ f.type = 39 ∧ f.offset = 0 ∧ g.type = 39 ∧ g.offset = 1 := by
    have := fields48
    cases h : fs.toList with
    | nil => rw [h] at this; simp at this
    | cons f l =>
      rw [h] at this
      cases l with
      | nil => simp at this
      | cons g l =>
        cases l with
        | nil => simp at this; exact ⟨f, g, rfl, this.1.1, this.1.2, this.2.1, this.2.2⟩
        | cons _ _ => simp at this
  obtain ⟨f, g, hfg, h1, h2, h3, h4⟩ := hf
  unfold Program.keyLits
  rw [hu]
  simp only
  rw [if_pos ⟨by rw [cells48]; rfl, names48⟩, hfg]
  simp only [List.mapM_cons, List.mapM_nil, h1, h2, h3, h4, cells46]
  rw [show (List.take 1 (List.drop 0 (bdC x))) = [.int .u64 (x.lo.toNat : Int)] from rfl, show (List.take 1 (List.drop 1 (bdC x))) = [.int .u64 (x.can.toNat : Int)] from rfl, keyLits_u64, keyLits_u64]
  rfl
theorem u73 : (Tryz.prog).underlying 89 = some (.array 8 53) := by kernel_rfl
theorem cells73 : (Tryz.prog).cellsOf 89 = 16 := by kernel_rfl
theorem keyLits_b (d : Nat) (b : List Bd) (hb : b.length = 8) : (Tryz.prog).keyLits (d + 3) 89 (bArr b).toList = some (b.flatMap bdL) := by
  unfold Program.keyLits
  rw [u73]
  simp only
  rw [if_pos (by rw [cells73]; have := bArr_size b; simp [this, hb])]
  simp only [cells48]
  match b, hb with
  | [x0, x1, x2, x3, x4, x5, x6, x7], _ =>
    rw [show List.range 8 = [0, 1, 2, 3, 4, 5, 6, 7] from rfl]
    have hk (i : Nat) (x : Bd) (h : List.take 2 (List.drop (i * 2) (bArr [x0, x1, x2, x3, x4, x5, x6, x7]).toList) = bdC x) : (Tryz.prog).keyLits (d + 2) 53 (List.take 2 (List.drop (i * 2) (bArr [x0, x1, x2, x3, x4, x5, x6, x7]).toList)) = some (bdL x) := by rw [h]; exact keyLits_bd d x
    simp only [List.mapM_cons, List.mapM_nil]
    rw [hk 0 x0 rfl, hk 1 x1 rfl, hk 2 x2 rfl, hk 3 x3 rfl, hk 4 x4 rfl, hk 5 x5 rfl, hk 6 x6 rfl, hk 7 x7 rfl]
    rfl
theorem bdL_inj : ∀ {a b : List Bd}, a.flatMap bdL = b.flatMap bdL → a = b := by
  intro a
  induction a with
  | nil =>
    intro b h
    cases b with
    | nil => rfl
    | cons y b => simp [bdL] at h
  | cons x a ih =>
    intro b h
    cases b with
    | nil => simp [bdL] at h
    | cons y b =>
      simp only [List.flatMap_cons, bdL, List.cons_append, List.nil_append, List.cons.injEq, Lit.int.injEq, true_and] at h
      obtain ⟨h1, h2, h3⟩ := h
      rw [ih h3]
      obtain ⟨xl, xc⟩ := x
      obtain ⟨yl, yc⟩ := y
      simp only at h1 h2
      rw [BitVec.eq_of_toNat_eq (by omega : xl.toNat = yl.toNat), BitVec.eq_of_toNat_eq (by omega : xc.toNat = yc.toNat)]
theorem run_eqBd (b c : List Bd) (hb : b.length = 8) (hc : c.length = 8) (w : World) : (Go.binOp .eql 89 (.agg (bArr b)) (.agg (bArr c))).run Tryz.prog w = .ok (.bool (decide (b = c))) w := by
  have hkt : (Tryz.prog).keyTypeAt 3 89 = true := by kernel_rfl
  have hfm (x : List Bd) (hx : x.length = 8) : (Value.agg (bArr x)).formed Tryz.prog 89 = true := by
    unfold Value.formed
    rw [u73]
    simp only
    rw [cells73, bArr_size, hx]; rfl
  obtain ⟨r, h1, h2⟩ := run_equalIn_deep 9997 3 89 hkt w 3 3 (.agg (bArr b)) (.agg (bArr c)) _ _ (hfm b hb) (hfm c hc) (keyLits_b 0 b hb) (keyLits_b 0 c hc)
  have hr : r = decide (b = c) := by
    rw [Bool.eq_iff_iff, h2, decide_eq_true_eq]
    exact ⟨bdL_inj, fun h => by rw [h]⟩
  subst hr
  have he : (Op.equal 89 (.agg (bArr b)) (.agg (bArr c))).run Tryz.prog w = .ok (decide (b = c)) w := h1
  simp only [Go.binOp, Sem.run_bind, he, Result.andThen_ok, Sem.run_pure]
theorem EvS.eqBd {N : Nat} {E : Env} {Sb : World → Prop} {d : Option Tmp} {ty : TypeId} {pos : String} {aft : Array Edge} {gd : Option (Nat × Bool)} {x y : Operand} {yT : TypeId} {b c : List Bd} (hx : evE E x = some (.agg (bArr b))) (hy : evE E y = some (.agg (bArr c))) (hb : b.length = 8) (hc : c.length = 8) :
    EvS Tryz.prog N ⟨d, .binOp .eql 89 x y yT, ty, pos, aft, gd⟩ E Sb (.bool (decide (b = c))) := by
  unfold EvS
  intro a w ha _
  have hg : (eqGuard .eql 89 x y (.agg (bArr b)) (.agg (bArr c))).run Tryz.prog w = .ok () w := run_eqGuard_agg w .eql 89 x y _ _ (by kernel_rfl)
  simp only [execOp, ha.eval hx, ha.eval hy, Sem.run_bind, hg, Result.andThen_ok, run_eqBd b c hb hc, Sem.run_pure]
end Go.Proofs.YtgpgjpcebajofaaGreatDoor
set_option maxHeartbeats 4000000
set_option linter.unusedVariables false
set_option linter.unusedSimpArgs false
set_option maxRecDepth 100000
namespace Go.Proofs.YtgpgjpcebajofaaGreatDoor
open Go Go.XC Go.RowKit Go.SetsP
attribute [local irreducible] Post TC TR D WL EvS EvC Wd ResL Code.wpIn Exit.then Exit.inBlock Exit.noGoto LoopK LoopP bodyPostM Reads Calls

def roundP (p : Pb) (re : Bool) : List Nat → Ps → Ps × Option Nat
  | [], s => (s, none)
  | n :: ns, s => if possB s.b (p.rules.getD n default) then roundP p re ns (ruleS p re n s) else (s, some n)
def runP (p : Pb) (re : Bool) : Nat → Ps → Ps × Int
  | 0, s => (s, -1)
  | k + 1, s => match roundP p re (List.range p.rules.length) s with
    | (s', some n) => (s', (n : Int))
    | (s', none) => if s'.b = s.b then (s', -1) else runP p re k s'
/-- Bounds stay, or fewer elements are open. -/
def Less (b b' : List Bd) : Prop := b' = b ∨ openN b' < openN b
theorem Less.trans {a b c : List Bd} (h : Less a b) (k : Less b c) : Less a c := by
  rcases h with rfl | h
  · exact k
  · rcases k with rfl | k
    · exact .inr h
    · exact .inr (Nat.lt_trans k h)
theorem stepE_less {p : Pb} {re : Bool} {n : Nat} {v : Int} {e : Nat} {s : Ps} (h : Iv s) (hv : 0 ≤ v ∧ v < 8) (he : e < 12) (ho : has (openB (nth s.b v)) e = true) : Less s.b (stepE p re n v s e).b := by
  unfold stepE
  split
  · exact .inl rfl
  · refine .inr ?_
    have := openN_with h.b.1 hv he (by assumption) ho
    unfold addP
    simp only
    omega
theorem fold_less {p : Pb} {re : Bool} {n : Nat} {v : Int} (hv : 0 ≤ v ∧ v < 8) : ∀ (l : List Nat) (s : Ps), Iv s → l.Nodup → (∀ e, e ∈ l → e < 12 ∧ has (openB (nth s.b v)) e = true) → Less s.b (l.foldl (stepE p re n v) s).b := by
  intro l
  induction l with
  | nil => intro s h _ _; exact .inl rfl
  | cons a l ih =>
    intro s h hn hl
    have hn' := List.nodup_cons.1 hn
    have ha := hl a List.mem_cons_self
    refine (stepE_less (p := p) (re := re) (n := n) h hv ha.1 ha.2).trans (ih _ (h.stepE hv ha.1 ha.2) hn'.2 fun e he => ?_)
    have := hl e (List.mem_cons_of_mem _ he)
    refine ⟨this.1, ?_⟩
    rw [stepE_nth h.b.1 hv (by omega) (by omega) (fun (hx : e = a) => hn'.1 (hx ▸ he))]
    exact this.2
theorem stepV_less {p : Pb} {re : Bool} {n : Nat} {v : Int} {s : Ps} (h : Iv s) (hv : 0 ≤ v ∧ v < 8) : Less s.b (stepV p re n s v).b :=
  fold_less hv _ s h (elems_nodup _) fun e he => elems_lt (small_openB (nth_ok h.b hv).2) he
theorem folds_less {p : Pb} {re : Bool} {n : Nat} : ∀ (l : List Int) (s : Ps), Iv s → (∀ v, v ∈ l → 0 ≤ v ∧ v < 8) → Less s.b (l.foldl (stepV p re n) s).b := by
  intro l
  induction l with
  | nil => intro s h _; exact .inl rfl
  | cons a l ih => exact fun s h hl => (stepV_less h (hl a List.mem_cons_self)).trans (ih _ (h.stepV (hl a List.mem_cons_self)) fun v hv => hl v (List.mem_cons_of_mem _ hv))
theorem rule_vars {p : Pb} (hp : okP p) (n : Nat) : ∀ v, v ∈ (p.rules.getD n default).vars → 0 ≤ v ∧ v < 8 := by
  intro v hv
  rw [List.getD_eq_getElem?_getD] at hv
  cases hr : p.rules[n]? with
  | none => rw [hr] at hv; cases hv
  | some r => rw [hr] at hv; exact (hp.rl r (List.mem_of_getElem? hr)).1 v hv
theorem Iv.rule {p : Pb} (hp : okP p) {re : Bool} {s : Ps} (h : Iv s) (n : Nat) : Iv (ruleS p re n s) := Iv.folds _ s h (rule_vars hp n)
theorem rule_less {p : Pb} (hp : okP p) {re : Bool} {s : Ps} (h : Iv s) (n : Nat) : Less s.b (ruleS p re n s).b := folds_less _ s h (rule_vars hp n)
theorem round_ok {p : Pb} (hp : okP p) {re : Bool} : ∀ (l : List Nat) (s : Ps), Iv s → Iv (roundP p re l s).1 ∧ Less s.b (roundP p re l s).1.b := by
  intro l
  induction l with
  | nil => intro s h; exact ⟨h, .inl rfl⟩
  | cons n l ih =>
    intro s h
    unfold roundP
    split
    · obtain ⟨h1, h2⟩ := ih _ (h.rule hp n)
      exact ⟨h1, (rule_less hp h n).trans h2⟩
    · exact ⟨h, .inl rfl⟩
theorem runP_fuel {p : Pb} (hp : okP p) {re : Bool} : ∀ (k k' : Nat) (s : Ps), Iv s → openN s.b < k → openN s.b < k' → runP p re k s = runP p re k' s := by
  intro k
  induction k with
  | zero => intro k' s _ h; omega
  | succ k ih =>
    intro k' s hs h h'
    cases k' with
    | zero => omega
    | succ k' =>
      unfold runP
      obtain ⟨h1, h2⟩ := round_ok hp (re := re) (List.range p.rules.length) s hs
      cases hq : roundP p re (List.range p.rules.length) s with
      | mk s' o =>
        rw [hq] at h1 h2
        cases o with
        | some n => rfl
        | none =>
          simp only
          split
          · rfl
          · rename_i hne
            rcases h2 with h2 | h2
            · exact absurd h2 hne
            · simp only at h2 h1
              exact ih k' s' h1 (by omega) (by omega)
def runF (p : Pb) (re : Bool) (s : Ps) : Ps × Int := runP p re 98 s
theorem runF_step {p : Pb} (hp : okP p) {re : Bool} {s s' : Ps} (hs : Iv s) (h : roundP p re (List.range p.rules.length) s = (s', none)) (hne : s'.b ≠ s.b) : Iv s' ∧ openN s'.b < openN s.b ∧ runF p re s = runF p re s' := by
  obtain ⟨h1, h2⟩ := round_ok hp (re := re) (List.range p.rules.length) s hs
  rw [h] at h1 h2
  rcases h2 with h2 | h2
  · exact absurd h2 hne
  · refine ⟨h1, h2, ?_⟩
    have hle := h1.n
    have hle2 := hs.n
    have e : runP p re 98 s = runP p re 97 s' := by
      show runP p re (97 + 1) s = _
      conv => lhs; unfold runP
      rw [h]
      simp only
      rw [if_neg hne]
    unfold runF
    rw [e]
    simp only at h2
    exact runP_fuel hp 97 98 s' h1 (by omega) (by omega)
theorem runF_same {p : Pb} {re : Bool} {s s' : Ps} (h : roundP p re (List.range p.rules.length) s = (s', none)) (he : s'.b = s.b) : runF p re s = (s', -1) := by
  unfold runF
  show runP p re (97 + 1) s = _
  unfold runP
  rw [h]
  simp only
  rw [if_pos he]
theorem runF_bad {p : Pb} {re : Bool} {s s' : Ps} {n : Nat} (h : roundP p re (List.range p.rules.length) s = (s', some n)) : runF p re s = (s', (n : Int)) := by
  unfold runF
  show runP p re (97 + 1) s = _
  unfold runP
  rw [h]

/-! ### The deferred closure -/
instance : IfaceT Tryz.prog 20 := ⟨by kernel_rfl⟩
theorem runD_ret (g : Nat) (m : Mem) (L : Own) (w : World) (hs : St m L w) :
    CallsDIn (G none) 0 Tryz.prog 94 #[.pointer (some ⟨g, 0, none⟩)] .returning w fun e u' w' => ∃ v, e = .returned v ∧ settle u' = .returning ∧ St m L w' := by
  refine callsD_of (N := 17) (args := [_]) (u1 := .returning) (v := .nilIface) Tryz.func94 rfl Tryz.ntmps94 (Nat.le_of_ble_eq_true rfl) (by decide) (by decide) hs (fun c cs hm => ?_) (fun c cs => ?_)
  · simp only [recoverD, hm]; cases c; simp_all
  · repeat' (first | refine TC.seq ?_ | refine TC.region ?_ | refine TR.nil ?_ | refine Post.then_normal ?_ | refine TC.skip ?_ | (apply TC.cond_f; exact rfl) | (apply TR.st1 (o := ⟨_, _, _, _, _, _⟩); exact rfl; exact rfl; exact rfl; (first | exact Wd.plain rfl | exact Wd.on rfl rfl rfl); exact EvS.neNilI0 rfl) | (apply a_move; exact a_moves))
    exact Post.bodyS rfl fun w h => ⟨_, rfl, rfl, h⟩
theorem runD_panic (g n : Nat) (v : Value) (m : Mem) (L : Own) (w : World) (hs : St m (some (g, .cells #[v] 3 (0, 0)) :: L) w) :
    CallsDIn (G none) 0 Tryz.prog 94 #[.pointer (some ⟨g, 0, none⟩)] (.panicking (contra n)) w fun e u' w' => ∃ v, e = .returned v ∧ settle u' = .returning ∧ St m (some (g, .cells #[.int .i64 (n : Int)] 3 (0, 0)) :: L) w' := by
  refine callsD_of (N := 17) (args := [_]) (u1 := .panicking [{ v := .iface 130 (.agg #[.int .i64 (n : Int)]), recovered := true }]) (v := .iface 130 (.agg #[.int .i64 (n : Int)])) Tryz.func94 rfl Tryz.ntmps94 (Nat.le_of_ble_eq_true rfl) (by decide) (by decide) hs (fun c cs hm => ?_) (fun c cs => ?_)
  · simp only [recoverD, hm]; cases c; simp_all [contra]
  · repeat' (first | refine TC.seq ?_ | refine TC.region ?_ | refine TR.nil ?_ | refine Post.then_normal ?_ | refine TC.skip ?_ | (apply TC.cond_t; exact rfl) | (apply TC.cond_f; exact rfl) | (apply TR.st1; exact rfl; exact rfl; exact rfl; (first | exact Wd.plain rfl | exact Wd.on rfl rfl rfl); (first | exact EvS.neNilI1 rfl | exact EvS.assertOk rfl)) | (apply a_move; exact a_moves) | (apply a_assign; exact a_assigns) | (apply a_fieldAddr; exact a_fieldAddrs) | (apply a_load; exact a_loads) | (apply a_unOp; exact a_unOps) | (apply a_extract; exact a_extracts) | (apply c_alloc; exact c_allocs; exact rfl; intro g) | (apply c_store1; exact c_store1s; rintro ⟨⟩) | (apply c_storeW; exact c_storeWs; rintro ⟨⟩))
    exact Post.bodyS rfl fun w h => ⟨_, rfl, rfl, h.tail⟩
end Go.Proofs.YtgpgjpcebajofaaGreatDoor
set_option maxHeartbeats 4000000
set_option linter.unusedVariables false
set_option linter.unusedSimpArgs false
set_option maxRecDepth 100000
namespace Go.Proofs.YtgpgjpcebajofaaGreatDoor
open Go Go.XC Go.RowKit Go.SetsP
attribute [local irreducible] Post TC TR D WL EvS EvC Wd ResL Code.wpIn Exit.then Exit.inBlock Exit.noGoto LoopK LoopP bodyPostM Reads Calls

structure Ru where
  k : Nat
  m : Mem
  s : Ps
  v : Value
  e : Option (Nat × Obj)
theorem range_split {k n : Nat} (h : k < n) : List.range' k (n - k) = k :: List.range' (k + 1) (n - (k + 1)) := by
  obtain ⟨j, hj⟩ : ∃ j, n - k = j + 1 := ⟨n - k - 1, by omega⟩
  rw [hj, List.range'_succ]
  congr 2
  omega

theorem run_c (p : Pb) (pcs : Array Value) (hp : okP p) (s : Ps) (re : Bool) (fv : Value) (e : Option (Nat × Obj)) (gx : Nat) (hI : Iv s)
    (m : Mem) (hT : TabM m) (hpc : PbC m p pcs) (hrow : FRow m fv s.fs e) (L : Own) (w : World) (hs : St m (xO gx pcs s.b fv re :: e :: L) w) :
    Calls Tryz.prog 62 #[.pointer (some ⟨gx, 0, none⟩)] w fun x w' =>
      ∃ y : { y : Mem × Value × Option (Nat × Obj) // m.Le y.1 ∧ FRow y.1 y.2.1 (runF p re s).1.fs y.2.2 }, x = .returned (.int .i64 (runF p re s).2) ∧ St y.1.1 (xO gx pcs (runF p re s).1.b y.1.2.1 re :: y.1.2.2 :: L) w' := by
  have hpc0 := hpc
  obtain ⟨BA, bc, RA, rc, hcs, hBA, hRA⟩ := hpc
  have hsz : pcs.size = 2 := by rw [hcs]; rfl
  have hx0 (b fv) : CellsAt (xC pcs b fv re) (0 + 0) pcs := xC_p hsz
  have hxr (b fv) : (xC pcs b fv re)[0 + 0 + 1]? = some (.slice RA p.rules.length rc) := hx0 b fv 1 _ (by rw [hcs]; rfl)
  have hr12 := hp.r12
  unfold xO at hs ⊢
  refine calls_of_TC (args := [_]) Tryz.func62 rfl Tryz.ntmps62 (Nat.le_of_ble_eq_true rfl) hs ?_
  repeat' (first | (apply TR.defer; exact Wd.plain rfl; exact rfl) | refine TC.seq ?_ | refine TC.region ?_ | refine TR.nil ?_ | refine Post.then_normal ?_ | refine TC.block ?_ | (apply TR.st1 (o := ⟨_, .makeFunc _ _ _, _, _, _, _⟩); exact rfl; exact rfl; exact rfl; (first | exact Wd.plain rfl | exact Wd.on rfl rfl rfl); exact EvS.makeFunc rfl rfl) | (apply TR.ch1 (o := ⟨_, .alloc _, _, _, _, _⟩) ; exact rfl; exact rfl; exact rfl; (first | exact Wd.plain rfl | exact Wd.on rfl rfl rfl); exact EvC.alloc; intro g))
  obtain ⟨gw, hgw⟩ : ∃ x, x = g := ⟨_, rfl⟩
  subst hgw
  refine TC.loopP (X := Ru) (fun x => runF p re x.s = runF p re s ∧ m.Le x.m ∧ FRow x.m x.v x.s.fs x.e ∧ Iv x.s) (fun x => [(0, .pointer (some ⟨gx, 0, none⟩)), (2, .pointer (some ⟨gw, 0, none⟩))])
    (fun x => St x.m (some (gw, .cells #[.int .i64 0] 3 (0, 0)) :: some (gx, .cells (xC pcs x.s.b x.v re) 95 (0, 0)) :: x.e :: L)) (fun x => openN x.s.b) ⟨0, m, s, fv, e⟩ ⟨rfl, Mem.Le.refl _, hrow, hI⟩ (incl.lk (by repeat first | exact trivial | refine ⟨rfl, ?_⟩)) (fun w h => h) ?_
  rintro ⟨k0, m1, s1, v1, e1⟩ ⟨hf1, hle1, hrow1, hI1⟩
  simp only at hf1 hle1 hrow1 hI1 ⊢
  have hxb := xC_b (pcs := pcs) (b := s1.b) (fv := v1) (re := re) hsz
  have hbs : (bArr s1.b).size = 16 := by rw [bArr_size, hI1.b.1]
  have hxr1 := hxr s1.b v1
  repeat' (first | refine TC.seq ?_ | refine TC.region ?_ | refine TR.nil ?_ | refine Post.then_normal ?_ | refine TC.block ?_ | (apply TR.st1; exact rfl; exact rfl; exact rfl; (first | exact Wd.plain rfl | exact Wd.on rfl rfl rfl); (first | exact EvS.move rfl | exact EvS.fieldAddr rfl | (first | (apply EvS.load1; exact rfl; (first | exact Reads.mem (by assumption) | exact Reads.own (by repeat first | exact List.Mem.head _ | assumption | apply List.Mem.tail)); (first | assumption | exact nthL_arr rfl | exact rfl)) | (apply EvS.loadW; exact rfl; (first | exact Reads.mem (by assumption) | exact Reads.own (by repeat first | exact List.Mem.head _ | assumption | apply List.Mem.tail)); first | exact rfl | assumption) | (apply EvS.loadH; exact rfl; (first | exact Reads.mem (by assumption) | exact Reads.own (by repeat first | exact List.Mem.head _ | assumption | apply List.Mem.tail)); assumption; first | exact rfl | assumption)) | exact EvS.len rfl | exact EvS.nilCheck rfl)) | (apply TR.ch1 (o := ⟨_, .alloc _, _, _, _, _⟩) ; exact rfl; exact rfl; exact rfl; (first | exact Wd.plain rfl | exact Wd.on rfl rfl rfl); exact EvC.alloc; intro g) | (apply TR.ch0 (o := ⟨_, .store _ _ _, _, _, _, _⟩) ; exact rfl; exact rfl; (first | exact Wd.plain rfl | exact Wd.on rfl rfl rfl); exact EvC.storeW rfl rfl (by first | exact rfl | assumption) (by first | exact bArr_one _ | exact rfl | (intro v hv; simp at hv; rcases hv with rfl | rfl | rfl | rfl | rfl | rfl | rfl | rfl <;> rfl)) (by repeat first | exact Upd.head | apply Upd.tail) (by first | exact rfl | assumption); rintro ⟨⟩))
  obtain ⟨g3, hg3⟩ : ∃ x, x = g := ⟨_, rfl⟩
  subst hg3
  refine TC.loopP (X := Ru) (fun x => x.k ≤ p.rules.length ∧ roundP p re (List.range' x.k (p.rules.length - x.k)) x.s = roundP p re (List.range p.rules.length) s1 ∧ m1.Le x.m ∧ FRow x.m x.v x.s.fs x.e ∧ Iv x.s) (fun x => [(16, .int .i64 (x.k : Int)), (15, .int .i64 (p.rules.length : Int)), (0, .pointer (some ⟨gx, 0, none⟩)), (2, .pointer (some ⟨gw, 0, none⟩)), (3, .pointer (some ⟨g3, 0, none⟩))])
    (fun x => St x.m (some (g3, .cells (bArr s1.b) 89 (0, 0)) :: some (gw, .cells #[.int .i64 0] 3 (0, 0)) :: some (gx, .cells (xC pcs x.s.b x.v re) 95 (0, 0)) :: x.e :: L)) (fun x => p.rules.length - x.k) ⟨0, m1, s1, v1, e1⟩ ⟨Nat.zero_le _, by rw [List.range_eq_range']; rfl, Mem.Le.refl _, hrow1, hI1⟩ (incl.lk (by repeat first | exact trivial | refine ⟨rfl, ?_⟩)) (fun w h => h) ?_
  rintro ⟨k, m2, s2, v2, e2⟩ ⟨hk, hf2, hle2, hrow2, hI2⟩
  simp only at hk hf2 hle2 hrow2 hI2 ⊢
  by_cases hlt : k < p.rules.length
  · have hd : decide ((k : Int) < (p.rules.length : Int)) = true := by simpa using hlt
    obtain ⟨r, hr⟩ : ∃ r, p.rules[k]? = some r := ⟨_, List.getElem?_eq_getElem hlt⟩
    have hrD : p.rules.getD k default = r := by rw [List.getD_eq_getElem?_getD, hr]; rfl
    rw [range_split hlt] at hf2
    by_cases hps : possB s2.b r = true
    · have hf3 : roundP p re (List.range' (k + 1) (p.rules.length - (k + 1))) (ruleS p re k s2) = roundP p re (List.range p.rules.length) s1 := by
        rw [← hf2]
        conv => rhs; unfold roundP
        rw [hrD, if_pos hps]
      repeat' (first | (apply TR.ch1 (o := ⟨_, .call _, _, _, _, _⟩); exact rfl; exact rfl; exact rfl; (first | exact Wd.plain rfl | exact Wd.on rfl rfl rfl); exact EvC.callX rfl rfl (fun w hs => (rule_ok p pcs hp s2 re k r hr v2 e2 gx hI2 hps m2 (hT.mono (hle1.trans hle2)) (hpc0.mono (hle1.trans hle2)) hrow2 _ w (hs.perm (List.perm_append_comm_assoc [_, _] [_, _] L))).mono (fun r w' ⟨y, h1, h2⟩ => ⟨y, h1, h2.perm (List.perm_append_comm_assoc [_, _] [_, _] L)⟩)); rintro ⟨⟨m3, v3, e3⟩, hle3, hrow3⟩) | refine TC.seq ?_ | refine TC.region ?_ | refine TR.nil ?_ | refine Post.then_normal ?_ | refine TC.block ?_ | refine TC.skip ?_ | (apply TC.cond_bt; exact rfl; assumption) | refine Post.block_normal ?_ | (apply TR.st1; exact rfl; exact rfl; exact rfl; (first | exact Wd.plain rfl | exact Wd.on rfl rfl rfl); (first | exact EvS.move rfl | exact EvS.assign rfl | exact EvS.ltI rfl rfl | (first | exact EvS.addI rfl rfl (by omega) | exact EvS.add64 rfl rfl (by first | with_reducible exact U64.var _ | exact U64.lit rfl) (by first | with_reducible exact U64.var _ | exact U64.lit rfl)))))
      exact Post.nextP ⟨k + 1, m3, ruleS p re k s2, v3, e3⟩ ⟨by simp only; omega, hf3, hle2.trans hle3, hrow3, hI2.rule hp k⟩ (incl.lk (by repeat first | exact trivial | refine ⟨rfl, ?_⟩)) (fun w h => h) (by simp only; omega)
    · rw [Bool.not_eq_true] at hps
      have hf3 : roundP p re (List.range p.rules.length) s1 = (s2, some k) := by
        rw [← hf2]
        unfold roundP
        rw [hrD, if_neg (by rw [hps]; simp)]
      have hfin : runF p re s = (s2, (k : Int)) := by rw [← hf1]; exact runF_bad hf3
      repeat' (first | refine TC.seq ?_ | refine TC.region ?_ | refine TR.nil ?_ | refine Post.then_normal ?_ | refine TC.block ?_ | refine TC.skip ?_ | (apply TC.cond_bt; exact rfl; assumption) | (apply TR.st1; exact rfl; exact rfl; exact rfl; (first | exact Wd.plain rfl | exact Wd.on rfl rfl rfl); (first | exact EvS.move rfl | exact EvS.assign rfl | exact EvS.ltI rfl rfl)))
      refine TR.chP (X := PEmpty) (Y := Unit) (val := fun x => nomatch x) (S' := fun x => nomatch x) (ch := fun _ => contra k) (Sp := fun _ => St m2 (some (g3, .cells (bArr s1.b) 89 (0, 0)) :: some (gw, .cells #[.int .i64 0] 3 (0, 0)) :: some (gx, .cells (xC pcs s2.b v2 re) 95 (0, 0)) :: e2 :: L)) rfl rfl (Wd.plain rfl) rfl rfl
        (fun w hs => (rule_no p pcs hp s2 re k r hr v2 e2 gx hI2 hps m2 (hT.mono (hle1.trans hle2)) (hpc0.mono (hle1.trans hle2)) _ w (hs.perm (List.perm_append_comm_assoc [_, _] [_, _] L))).mono (fun r w' ⟨h1, h2⟩ => .inr ⟨(), h1, h2.perm (List.perm_append_comm_assoc [_, _] [_, _] L)⟩)) (fun x => nomatch x) (fun _ => ?_)
      repeat' (first | refine Post.then_panic ?_ | refine Post.block_panic ?_)
      refine Post.leave (u := .panicking (contra k)) (.int .i64 (k : Int)) (.inr ⟨_, rfl, rfl⟩) (fun w h => runD_panic gw k _ m2 _ w h.tail) (ResL.one rfl (ResV.cell1 rfl (Reads.own (List.Mem.head _)) rfl)) (fun w h => ?_)
      rw [hfin]
      exact ⟨⟨(m2, v2, e2), hle1.trans hle2, hrow2⟩, rfl, h.tail⟩
  · have hd : decide ((k : Int) < (p.rules.length : Int)) = false := by simpa using hlt
    obtain rfl : k = p.rules.length := by omega
    have hf3 : roundP p re (List.range p.rules.length) s1 = (s2, none) := by
      rw [← hf2, Nat.sub_self]; rfl
    have hbs2 : (bArr s2.b).size = 16 := by rw [bArr_size, hI2.b.1]
    have hx2b := xC_b (pcs := pcs) (b := s2.b) (fv := v2) (re := re) hsz
    repeat' (first | refine TC.seq ?_ | refine TC.region ?_ | refine TR.nil ?_ | refine Post.then_normal ?_ | refine TC.exit ?_ | (apply TC.cond_bf; exact rfl; assumption) | refine Post.then_exit ?_ | refine Post.block_here ?_ | (apply TR.st1 (o := ⟨_, .binOp .lss _ _ _ _, _, _, _, _⟩); exact rfl; exact rfl; exact rfl; (first | exact Wd.plain rfl | exact Wd.on rfl rfl rfl); exact EvS.ltI rfl rfl))
    refine TC.draw_ [.st, .st, .st, .st, .st, .st] mixed rfl (by kernel_rfl) ?_
    repeat' (first | (apply D.st1; exact rfl; (first | exact Wd.plain rfl | exact Wd.on rfl rfl rfl); (first | (first | exact EvS.eqBd rfl rfl hI2.b.1 hI1.b.1 | exact EvS.eq64 rfl rfl (by first | with_reducible exact U64.var _ | exact U64.lit rfl) (by first | with_reducible exact U64.var _ | exact U64.lit rfl) | exact EvS.eqI rfl rfl | exact EvS.eqB rfl rfl) | exact EvS.move rfl | exact EvS.fieldAddr rfl | (first | (apply EvS.load1; exact rfl; (first | exact Reads.memX (by assumption) | exact Reads.ownX (by repeat first | exact List.Mem.head _ | assumption | apply List.Mem.tail)); (first | assumption | exact nthL_arr rfl | exact rfl)) | (apply EvS.loadW; exact rfl; (first | exact Reads.memX (by assumption) | exact Reads.ownX (by repeat first | exact List.Mem.head _ | assumption | apply List.Mem.tail)); first | exact rfl | assumption) | (apply EvS.loadH; exact rfl; (first | exact Reads.memX (by assumption) | exact Reads.ownX (by repeat first | exact List.Mem.head _ | assumption | apply List.Mem.tail)); assumption; first | exact rfl | assumption)) | exact EvS.nilCheck rfl)) | refine D.tail_ ?_)
    repeat' (first | refine TC.seq ?_ | refine TC.region ?_ | refine TR.nil ?_ | refine Post.then_normal ?_ | refine TC.skip ?_ | refine TC.ret ?_ | refine Post.then_ret ?_ | refine Post.block_normal ?_ | refine Post.block_ret ?_ | (apply TC.cond; exact rfl; all_goals (intro h)) | (apply TR.ch0 (o := ⟨_, .store _ _ _, _, _, _, _⟩) ; exact rfl; exact rfl; (first | exact Wd.plain rfl | exact Wd.on rfl rfl rfl); exact EvC.store1 rfl rfl rfl (by repeat first | exact Upd.head | apply Upd.tail) (by first | assumption | exact Nat.lt_of_sub_eq_succ rfl | (simp; omega) | simp); rintro ⟨⟩))
    · have hse := of_decide_eq_true h
      have hfin : runF p re s = (s2, -1) := by rw [← hf1]; exact runF_same hf3 hse
      refine Post.leave (u := .returning) (.int .i64 (-1)) (.inl ⟨rfl, rfl⟩) (fun w h => runD_ret gw m2 _ w h.tail) (ResL.one rfl (ResV.cell1 rfl (Reads.own (List.Mem.head _)) rfl)) (fun w h => ?_)
      rw [hfin]
      exact ⟨⟨(m2, v2, e2), hle1.trans hle2, hrow2⟩, rfl, h.tail⟩
    · have hne := of_decide_eq_false h
      obtain ⟨h1, h2, h3⟩ := runF_step hp hI1 hf3 hne
      refine Post.nextP ⟨0, m2, s2, v2, e2⟩ ⟨?_, hle1.trans hle2, hrow2, h1⟩ (incl.lk (by repeat first | exact trivial | refine ⟨rfl, ?_⟩)) (fun w h => h.tail) h2
      simp only
      rw [← h3, hf1]
end Go.Proofs.YtgpgjpcebajofaaGreatDoor
set_option maxHeartbeats 4000000
set_option linter.unusedVariables false
set_option linter.unusedSimpArgs false
set_option maxRecDepth 100000
namespace Go.Proofs.YtgpgjpcebajofaaGreatDoor
open Go Go.XC Go.RowKit Go.SetsP
attribute [local irreducible] Post TC TR D WL EvS EvC Wd ResL Code.wpIn Exit.then Exit.inBlock Exit.noGoto LoopK LoopP bodyPostM Reads Calls

theorem list8 {b : List Bd} (hb : b.length = 8) : ∃ x0 x1 x2 x3 x4 x5 x6 x7, b = [x0, x1, x2, x3, x4, x5, x6, x7] := by
  match b, hb with
  | [x0, x1, x2, x3, x4, x5, x6, x7], _ => exact ⟨x0, x1, x2, x3, x4, x5, x6, x7, rfl⟩
theorem built_x1 (s1 s2 : Value) (b : List Bd) (hb : b.length = 8) : (Tryz.prog).built 95 [(0, .agg #[s1, s2]), (1, .agg (bArr b)), (3, .bool true)] = some (xC #[s1, s2] b (.slice none 0 0) true) := by
  obtain ⟨x0, x1, x2, x3, x4, x5, x6, x7, rfl⟩ := list8 hb
  clear hb
  kernel_rfl
theorem built_x0 (s1 s2 : Value) (b : List Bd) (hb : b.length = 8) : (Tryz.prog).built 95 [(0, .agg #[s1, s2]), (1, .agg (bArr b))] = some (xC #[s1, s2] b (.slice none 0 0) false) := by
  obtain ⟨x0, x1, x2, x3, x4, x5, x6, x7, rfl⟩ := list8 hb
  clear hb
  kernel_rfl

theorem runP_ok {p : Pb} (hp : okP p) {re : Bool} : ∀ (k : Nat) (s : Ps), Iv s → Iv (runP p re k s).1 := by
  intro k
  induction k with
  | zero => intro s h; exact h
  | succ k ih =>
    intro s h
    unfold runP
    have h1 := (round_ok hp (re := re) (List.range p.rules.length) s h).1
    cases hq : roundP p re (List.range p.rules.length) s with
    | mk s' o =>
      rw [hq] at h1
      cases o with
      | some n => exact h1
      | none =>
        simp only
        split
        · exact h1
        · exact ih s' h1
theorem runF_ok {p : Pb} (hp : okP p) {re : Bool} {s : Ps} (h : Iv s) : Iv (runF p re s).1 := runP_ok hp 98 s h
def propS (p : Pb) : Ps × Int := runF p true ⟨pad8 p.bounds, []⟩
theorem Iv.start {p : Pb} (hp : okP p) : Iv ⟨pad8 p.bounds, []⟩ := ⟨hp.b, fun x h => (by cases h), by have := openN_le hp.b.1; show 0 + openN (pad8 p.bounds) ≤ 96; omega⟩

theorem propagate_bad (p : Pb) (cs : Array Value) (hck : checkB p = false) (h9 : p.bounds.length ≤ 1000) (h13 : p.rules.length ≤ 1000) (m : Mem) (hp : PbC m p cs) (L : Own) (w : World) (hs : St m L w) :
    Calls Tryz.prog 20 #[.agg cs] w fun x w' => x = .returned (.tuple #[.slice none 0 0, .slice none 0 0, .int .i64 0, .int .i64 2]) ∧ St m L w' := by
  have hp0 := hp
  obtain ⟨BA, bc, RA, rc, rfl, hBA, hRA⟩ := hp
  have he : (errI (checkB p) != 0) = true := by rw [hck]; rfl
  refine calls_of_TC (args := [_]) Tryz.func20 rfl Tryz.ntmps20 (Nat.le_of_ble_eq_true rfl) hs ?_
  repeat' (first | (apply TR.ch1 (o := ⟨_, .call _, _, _, _, _⟩); exact rfl; exact rfl; exact rfl; (first | exact Wd.plain rfl | exact Wd.on rfl rfl rfl); exact EvC.callV rfl rfl (fun w hs => check_c p _ h9 h13 _ hp0 _ _ hs); rintro ⟨⟩) | refine TC.seq ?_ | refine TC.region ?_ | refine TR.nil ?_ | refine Post.then_normal ?_ | refine TC.ret ?_ | (apply TC.cond_bt; exact rfl; assumption) | refine Post.then_ret ?_ | (apply TR.st1; exact rfl; exact rfl; exact rfl; (first | exact Wd.plain rfl | exact Wd.on rfl rfl rfl); (first | exact EvS.assign rfl | (first | (apply EvS.load1; exact rfl; (first | exact Reads.mem (by assumption) | exact Reads.own (by repeat first | exact List.Mem.head _ | assumption | apply List.Mem.tail)); (first | assumption | exact nthL_arr rfl | exact rfl)) | (apply EvS.loadW; exact rfl; (first | exact Reads.mem (by assumption) | exact Reads.own (by repeat first | exact List.Mem.head _ | assumption | apply List.Mem.tail)); first | exact rfl | assumption) | (apply EvS.loadH; exact rfl; (first | exact Reads.mem (by assumption) | exact Reads.own (by repeat first | exact List.Mem.head _ | assumption | apply List.Mem.tail)); assumption; first | exact rfl | assumption)) | (first | exact EvS.ne64 rfl rfl (by first | with_reducible exact U64.var _ | exact U64.lit rfl) (by first | with_reducible exact U64.var _ | exact U64.lit rfl) | exact EvS.neB rfl rfl | exact EvS.neI rfl rfl))) | (apply TR.ch1 (o := ⟨_, .box _ _, _, _, _, _⟩) ; exact rfl; exact rfl; exact rfl; (first | exact Wd.plain rfl | exact Wd.on rfl rfl rfl); exact EvC.boxA rfl; intro g))
  (refine Post.body_ret _ (ResL.four rfl (ResV.tmp rfl) (ResV.tmp rfl) (ResV.tmp rfl) (ResV.tmp rfl)) ?_; intro wR hR; exact ⟨rfl, (by first | exact hR | exact hR.tail | exact hR.tail.tail | exact hR.tail.tail.tail | exact hR.tail.tail.tail.tail | exact hR.tail.tail.tail.tail.tail | exact hR.tail.tail.tail.tail.tail.tail)⟩)

theorem bds_take_le (b : List Bd) (n : Nat) (hn : n ≤ b.length) : (b.take n).length = n := by rw [List.length_take]; omega
theorem propagate_ok (p : Pb) (cs : Array Value) (hck : checkB p = true) (m : Mem) (hT : TabM m) (hpc : PbC m p cs) (L : Own) (w : World) (hs : St m L w) :
    Calls Tryz.prog 20 #[.agg cs] w fun x w' => ∃ (m' : Mem) (A : Option Addr) (c : Nat) (FA : Option Addr) (fc : Nat), m.Le m' ∧ Sl m' 2 A (bds ((propS p).1.b.take p.bounds.length)) ∧ FcS m' FA (propS p).1.fs ∧
      x = .returned (.tuple #[.slice A p.bounds.length c, .slice FA (propS p).1.fs.length fc, .int .i64 (propS p).2, .int .i64 0]) ∧ St m' L w' := by
  have hp := okP_of hck
  have hpc0 := hpc
  obtain ⟨BA, bc, RA, rc, rfl, hBA, hRA⟩ := hpc
  have he : (errI (checkB p) != 0) = false := by rw [hck]; rfl
  have hb8 := hp.b8
  have hr12 := hp.r12
  have hI := Iv.start hp
  refine calls_of_TC (args := [_]) Tryz.func20 rfl Tryz.ntmps20 (Nat.le_of_ble_eq_true rfl) hs ?_
  repeat' (first | (apply TR.ch1 (o := ⟨_, .call _, _, _, _, _⟩); exact rfl; exact rfl; exact rfl; (first | exact Wd.plain rfl | exact Wd.on rfl rfl rfl); exact EvC.callV rfl rfl (fun w hs => check_c p _ (by omega) (by omega) _ hpc0 _ _ hs); rintro ⟨⟩) | refine TC.seq ?_ | refine TC.region ?_ | refine TR.nil ?_ | refine Post.then_normal ?_ | refine TC.skip ?_ | (apply TC.cond_bf; exact rfl; assumption) | (apply TR.st1; exact rfl; exact rfl; exact rfl; (first | exact Wd.plain rfl | exact Wd.on rfl rfl rfl); (first | exact EvS.assign rfl | (first | (apply EvS.load1; exact rfl; (first | exact Reads.mem (by assumption) | exact Reads.own (by repeat first | exact List.Mem.head _ | assumption | apply List.Mem.tail)); (first | assumption | exact nthL_arr rfl | exact rfl)) | (apply EvS.loadW; exact rfl; (first | exact Reads.mem (by assumption) | exact Reads.own (by repeat first | exact List.Mem.head _ | assumption | apply List.Mem.tail)); first | exact rfl | assumption) | (apply EvS.loadH; exact rfl; (first | exact Reads.mem (by assumption) | exact Reads.own (by repeat first | exact List.Mem.head _ | assumption | apply List.Mem.tail)); assumption; first | exact rfl | assumption)) | (first | exact EvS.ne64 rfl rfl (by first | with_reducible exact U64.var _ | exact U64.lit rfl) (by first | with_reducible exact U64.var _ | exact U64.lit rfl) | exact EvS.neB rfl rfl | exact EvS.neI rfl rfl))) | (apply TR.ch1 (o := ⟨_, .box _ _, _, _, _, _⟩) ; exact rfl; exact rfl; exact rfl; (first | exact Wd.plain rfl | exact Wd.on rfl rfl rfl); exact EvC.boxA rfl; intro g))
  refine TC.draw_ [.st, .st, .ch, .st, .ch] mixed rfl (by kernel_rfl) ?_
  repeat' (first | (apply D.chx (o := ⟨_, .call _, _, _, _, _⟩); exact rfl; (first | exact Wd.plain rfl | exact Wd.on rfl rfl rfl); exact EvC.callV rfl rfl (fun w hs => boundsOf_c p _ hb8 _ hpc0 _ w hs); exact inferInstance; exact (by first | exact fun _ _ h => StX.of0 h | exact fun _ _ h => StX.of1 h | exact fun _ _ h => StX.of2 h | exact fun _ _ h => StX.of3 h | exact fun _ _ h => StX.of h); rintro ⟨⟩) | (apply D.st1; exact rfl; (first | exact Wd.plain rfl | exact Wd.on rfl rfl rfl); (first | exact EvS.buildC rfl (built_x1 _ _ (pad8 p.bounds) hp.b.1) | (first | (apply EvS.load1; exact rfl; (first | exact Reads.memX (by assumption) | exact Reads.ownX (by repeat first | exact List.Mem.head _ | assumption | apply List.Mem.tail)); (first | assumption | exact nthL_arr rfl | exact rfl)) | (apply EvS.loadW; exact rfl; (first | exact Reads.memX (by assumption) | exact Reads.ownX (by repeat first | exact List.Mem.head _ | assumption | apply List.Mem.tail)); first | exact rfl | assumption) | (apply EvS.loadH; exact rfl; (first | exact Reads.memX (by assumption) | exact Reads.ownX (by repeat first | exact List.Mem.head _ | assumption | apply List.Mem.tail)); assumption; first | exact rfl | assumption)))) | (apply D.chx (o := ⟨_, .box _ _, _, _, _, _⟩) ; exact rfl; (first | exact Wd.plain rfl | exact Wd.on rfl rfl rfl); exact EvC.boxA rfl; exact inferInstance; exact (by first | exact fun _ _ h => StX.of0 h | exact fun _ _ h => StX.of1 h | exact fun _ _ h => StX.of2 h | exact fun _ _ h => StX.of3 h | exact fun _ _ h => StX.of h); intro g) | refine D.tail_ ?_)
  repeat' (first | refine TC.seq ?_ | refine TC.region ?_ | refine TR.nil ?_ | refine Post.then_normal ?_ | (apply TR.st1; exact rfl; exact rfl; exact rfl; (first | exact Wd.plain rfl | exact Wd.on rfl rfl rfl); (first | exact EvS.move rfl | exact EvS.assign rfl)))
  rename_i gp
  obtain ⟨gx, hgx⟩ : ∃ x, x = g := ⟨_, rfl⟩
  subst hgx
  refine TR.turn (fun w h => h.addNone.perm (List.Perm.swap _ _ _)) ?_
  repeat' (first | (apply TR.ch1 (o := ⟨_, .call _, _, _, _, _⟩); exact rfl; exact rfl; exact rfl; (first | exact Wd.plain rfl | exact Wd.on rfl rfl rfl); exact EvC.callX rfl rfl (fun w hs => run_c p _ hp ⟨pad8 p.bounds, []⟩ true (.slice none 0 0) none gx hI _ hT hpc0 FRow.nil _ w hs); rintro ⟨⟨m2, v2, e2⟩, hle2, hrow2⟩) | refine TC.seq ?_ | refine TR.nil ?_ | refine Post.then_normal ?_ | (apply TR.st1 (o := ⟨_, .assign _, _, _, _, _⟩); exact rfl; exact rfl; exact rfl; (first | exact Wd.plain rfl | exact Wd.on rfl rfl rfl); exact EvS.assign rfl))
  simp only at hle2 hrow2 ⊢
  obtain ⟨R, hR⟩ : ∃ R, R = runF p true ⟨pad8 p.bounds, []⟩ := ⟨_, rfl⟩
  have hPS : propS p = R := hR.symm
  rw [← hR] at hrow2 ⊢
  rw [hPS]
  have hRI : Iv R.1 := by rw [hR]; exact runF_ok hp hI
  have hRb := hRI.b.1
  refine TC.pull (fun w h => (lend h).1) fun hle3 => ?_
  refine TC.turn (fun w h => (lend h).2) ?_
  obtain ⟨XS, hXS⟩ : ∃ XS, XS = xC #[Value.slice BA p.bounds.length bc, .slice RA p.rules.length rc] R.1.b v2 true := ⟨_, rfl⟩
  have hx18 : XS[0 + 18]? = some v2 := by rw [hXS]; exact xC_f rfl hRb
  have hmx : (memO m2 (xO gx #[Value.slice BA p.bounds.length bc, .slice RA p.rules.length rc] R.1.b v2 true)).blk gx = some (.cells XS 95 (0, 0)) := by rw [hXS]; exact Mem.put_same _ _ _
  obtain ⟨m3, hm3⟩ : ∃ m3, m3 = memO m2 (xO gx #[Value.slice BA p.bounds.length bc, .slice RA p.rules.length rc] R.1.b v2 true) := ⟨_, rfl⟩
  rw [← hm3] at hle3 hmx ⊢
  have hSl : Sl m3 2 (some ⟨gx, 0 + 2, none⟩) (bds (R.1.b.take p.bounds.length)) := by
    refine ⟨bds_len _, by rw [bds_length, List.length_take]; omega, fun _ => ⟨gx, 0 + 2, XS, _, (0, 0), rfl, hmx, fun i cs hi j u hj => ?_⟩⟩
    have h1 : (bds R.1.b)[i]? = some cs := by
      rw [bds, List.map_take, List.getElem?_take] at hi
      split at hi
      · exact hi
      · cases hi
    have h2 := flatten_at (bds R.1.b) i cs (bds_len _) h1 j u hj
    rw [bds_flatten] at h2
    rw [hXS]
    have h3 := xC_b (pcs := #[Value.slice BA p.bounds.length bc, .slice RA p.rules.length rc]) (b := R.1.b) (fv := v2) (re := true) rfl (i * 2 + j) u (by simpa [bArr] using h2)
    rw [← h3]; congr 1; omega
  have htl : (R.1.b.take p.bounds.length).length = p.bounds.length := bds_take_le _ _ (by omega)
  have hcl := fun (w : World) (L : Own) (hs : St m3 L w) => cloneB_c (some ⟨gx, 0 + 2, none⟩) 8 (R.1.b.take p.bounds.length) (by rw [htl]; omega) m3 L w hs hSl
  rw [htl] at hcl
  refine TC.draw_ [.st, .st, .st, .st, .st, .st, .st, .ch, .st, .st, .st, .st, .st, .st, .st, .st, .st] mixed rfl (by kernel_rfl) ?_
  repeat' (first | (apply D.chx (o := ⟨_, .call _, _, _, _, _⟩); exact rfl; exact Wd.plain rfl; exact EvC.callX rfl rfl (fun w hs => hcl w _ hs); exact ownRow_ex (by rw [flatten_length (bds_len _), bds_length, htl]) (by simp only [maxLen]; omega); exact fun _ _ h => StX.of1 h; rintro ⟨⟨v3, e3⟩, hrow3⟩) | (apply D.st1; exact rfl; (first | exact Wd.plain rfl | exact Wd.on rfl rfl rfl); (first | (first | exact EvS.sliceAhi rfl rfl (by omega) | exact EvS.sliceA rfl) | exact EvS.move rfl | exact EvS.assign rfl | exact EvS.fieldAddr rfl | (first | (apply EvS.load1; exact rfl; (first | exact Reads.memX (by assumption) | exact Reads.ownX (by repeat first | exact List.Mem.head _ | assumption | apply List.Mem.tail)); (first | assumption | exact nthL_arr rfl | exact rfl)) | (apply EvS.loadW; exact rfl; (first | exact Reads.memX (by assumption) | exact Reads.ownX (by repeat first | exact List.Mem.head _ | assumption | apply List.Mem.tail)); first | exact rfl | assumption) | (apply EvS.loadH; exact rfl; (first | exact Reads.memX (by assumption) | exact Reads.ownX (by repeat first | exact List.Mem.head _ | assumption | apply List.Mem.tail)); assumption; first | exact rfl | assumption)) | exact EvS.len rfl | exact EvS.nilCheck rfl)) | refine D.tail_ ?_)
  repeat' (first | refine TR.nil ?_ | refine Post.then_normal ?_ | refine TC.ret ?_)
  simp only at hrow3 ⊢
  refine Post.body_ret _ (ResL.four rfl (ResV.tmp rfl) (ResV.tmp rfl) (ResV.tmp rfl) (ResV.tmp rfl)) ?_
  intro w h
  obtain ⟨A, c, hv3, _, hSl3⟩ := OwnRow.lent (m := m3) hrow3 (bds_len _) (by rw [bds_length, htl]) (by omega)
  obtain ⟨l1, l2⟩ := lend h
  obtain ⟨l3, l4⟩ := lend l2
  have hfl : R.1.fs.length ≤ 96 := by have := hRI.n; omega
  obtain ⟨FA, fc, hv2, hFS⟩ := ((hrow2.mono hle3).mono l1).lent l3 (by omega)
  refine ⟨_, A, c, FA, fc, ((hle2.trans hle3).trans l1).trans l3, hSl3.mono l3, hFS, ?_, l4.tail⟩
  rw [hv3, hv2]
end Go.Proofs.YtgpgjpcebajofaaGreatDoor
set_option maxHeartbeats 4000000
set_option linter.unusedVariables false
set_option linter.unusedSimpArgs false
set_option maxRecDepth 100000
namespace Go.Proofs.YtgpgjpcebajofaaGreatDoor
open Go Go.XC Go.RowKit Go.SetsP
attribute [local irreducible] Post TC TR D WL EvS EvC Wd ResL Code.wpIn Exit.then Exit.inBlock Exit.noGoto LoopK LoopP bodyPostM Reads Calls

/-! ### Bounds without a clash -/
def Cn (b : List Bd) : Prop := ∀ x, x ∈ b → ∀ k, k < 64 → has x.lo k = true → has x.can k = true
theorem cn_of {x : Bd} (h : clashB x = false) : ∀ k, k < 64 → has x.lo k = true → has x.can k = true := by
  intro k hk hl
  have h3 : x.lo &&& ~~~x.can = 0#64 := by simpa [clashB] using h
  have h1 : (x.lo &&& ~~~x.can).getLsbD k = false := by rw [h3]; simp
  rw [BitVec.getLsbD_and, BitVec.getLsbD_not] at h1
  unfold has at *
  simpa [hl, hk] using h1
theorem cn_ne {x : Bd} (h : ∀ k, k < 64 → has x.lo k = true → has x.can k = true) (hne : x.lo ≠ x.can) : openB x ≠ 0#64 := by
  intro h0
  apply hne
  apply BitVec.eq_of_getLsbD_eq
  intro k hk
  have h1 : has (openB x) k = false := by rw [h0]; unfold has; simp
  rw [has_openB] at h1
  have h2 := h k hk
  unfold has at *
  cases hl : x.lo.getLsbD k <;> cases hc : x.can.getLsbD k <;> simp_all
theorem Cn.with {b : List Bd} (h : Cn b) (hb : b.length = 8) {v : Int} (hv : 0 ≤ v ∧ v < 8) {e : Nat} (he : e < 64) (i : Bool) (ho : has (openB (nth b v)) e = true) : Cn (withB b v e i) := by
  intro x hx k hk hl
  unfold withB at hx
  rcases List.mem_or_eq_of_mem_set hx with h1 | rfl
  · exact h x h1 k hk hl
  · have hm : nth b v ∈ b := List.mem_of_getElem? (nth_get hb hv)
    rw [has_openB, Bool.and_eq_true] at ho
    cases i
    · rw [has_setB_can _ e k he hk]
      have hl' : has (nth b v).lo k = true := hl
      rw [h _ hm k hk hl']
      have : k ≠ e := by
        rintro rfl
        rw [hl'] at ho; simp at ho
      simp [this]
    · rw [has_setB_lo _ e k he hk] at hl
      show has (nth b v).can k = true
      rw [Bool.or_eq_true] at hl
      rcases hl with hl | hl
      · exact h _ hm k hk hl
      · have : k = e := by simpa using hl
        rw [this]; exact ho.1
theorem Cn.stepE {p : Pb} {re : Bool} {n : Nat} {v : Int} {e : Nat} {s : Ps} (h : Cn s.b) (hb : s.b.length = 8) (hv : 0 ≤ v ∧ v < 8) (he : e < 64) (ho : has (openB (nth s.b v)) e = true) : Cn (stepE p re n v s e).b := by
  unfold Go.Proofs.YtgpgjpcebajofaaGreatDoor.stepE
  split
  · exact h
  · exact h.with hb hv he _ ho
theorem Cn.fold {p : Pb} {re : Bool} {n : Nat} {v : Int} (hv : 0 ≤ v ∧ v < 8) : ∀ (l : List Nat) (s : Ps), Iv s → Cn s.b → l.Nodup → (∀ e, e ∈ l → e < 12 ∧ has (openB (nth s.b v)) e = true) → Cn (l.foldl (Go.Proofs.YtgpgjpcebajofaaGreatDoor.stepE p re n v) s).b := by
  intro l
  induction l with
  | nil => intro s _ h _ _; exact h
  | cons a l ih =>
    intro s h hc hn hl
    have hn' := List.nodup_cons.1 hn
    have ha := hl a List.mem_cons_self
    refine ih _ (h.stepE hv ha.1 ha.2) (hc.stepE h.b.1 hv (by omega) ha.2) hn'.2 fun e he => ?_
    have := hl e (List.mem_cons_of_mem _ he)
    refine ⟨this.1, ?_⟩
    rw [stepE_nth h.b.1 hv (by omega) (by omega) (fun (hx : e = a) => hn'.1 (hx ▸ he))]
    exact this.2
theorem Cn.folds {p : Pb} {re : Bool} {n : Nat} : ∀ (l : List Int) (s : Ps), Iv s → Cn s.b → (∀ v, v ∈ l → 0 ≤ v ∧ v < 8) → Cn (l.foldl (stepV p re n) s).b := by
  intro l
  induction l with
  | nil => intro s _ h _; exact h
  | cons a l ih =>
    intro s h hc hl
    have ha := hl a List.mem_cons_self
    exact ih _ (h.stepV ha) (Cn.fold ha _ s h hc (elems_nodup _) fun e he => elems_lt (small_openB (nth_ok h.b ha).2) he) fun v hv => hl v (List.mem_cons_of_mem _ hv)
theorem Cn.round {p : Pb} (hp : okP p) {re : Bool} : ∀ (l : List Nat) (s : Ps), Iv s → Cn s.b → Cn (roundP p re l s).1.b := by
  intro l
  induction l with
  | nil => intro s _ h; exact h
  | cons n l ih =>
    intro s h hc
    unfold roundP
    split
    · exact ih _ (h.rule hp n) (Cn.folds _ s h hc (rule_vars hp n))
    · exact hc
theorem Cn.runP {p : Pb} (hp : okP p) {re : Bool} : ∀ (k : Nat) (s : Ps), Iv s → Cn s.b → Cn (runP p re k s).1.b := by
  intro k
  induction k with
  | zero => intro s _ h; exact h
  | succ k ih =>
    intro s h hc
    unfold Go.Proofs.YtgpgjpcebajofaaGreatDoor.runP
    have h1 := (round_ok hp (re := re) (List.range p.rules.length) s h).1
    have h2 := Cn.round hp (re := re) (List.range p.rules.length) s h hc
    cases hq : roundP p re (List.range p.rules.length) s with
    | mk s' o =>
      rw [hq] at h1 h2
      cases o with
      | some n => exact h2
      | none =>
        simp only
        split
        · exact h2
        · exact ih s' h1 h2
theorem Cn.pad {p : Pb} (h : checkB p = true) : Cn (pad8 p.bounds) := by
  intro x hx
  rcases List.mem_append.1 hx with h1 | h1
  · have := (checkB_ok h).2.2.1 x h1
    unfold bdOk at this
    rw [Bool.and_eq_true] at this
    exact cn_of (by simpa using this.2)
  · have := List.eq_of_mem_replicate h1
    subst this
    intro k _ h2
    unfold has at h2
    simp at h2

/-! ### The search -/
structure Fo where
  sols : List (List BV)
  nodes : Nat
  op : Bool
  deriving DecidableEq, Inhabited
def nodeP (p : Pb) (most : Int) : Nat → List Bd → Fo → Bool × Fo
  | 0, _, o => (false, o)
  | k + 1, b, o =>
    if o.nodes = 200 then (false, { o with op := true })
    else
      let o1 : Fo := { o with nodes := o.nodes + 1 }
      let r := runF p false ⟨b, []⟩
      if r.2 ≥ 0 then (true, o1)
      else
        let l := r.1.b.take p.bounds.length
        match l.findIdx? fun x => x.lo != x.can with
        | none =>
          let o2 : Fo := { o1 with sols := o1.sols ++ [l.map Bd.lo] }
          (decide ((o2.sols.length : Int) < most), o2)
        | some v =>
          let e := tz (openB (l.getD v default))
          let a := nodeP p most k (withB r.1.b v e true) o1
          if a.1 then nodeP p most k (withB r.1.b v e false) a.2 else (false, a.2)
def SolC (m : Mem) (l : List BV) (cs : List Value) : Prop := ∃ W c, cs = [.slice W l.length c] ∧ Sl m 1 W (u64s l)
def SRow (m : Mem) (v : Value) (sols : List (List BV)) (e : Option (Nat × Obj)) : Prop := ∃ css : List (List Value), OwnRow v 36 1 sols.length css.flatten e ∧ css.length = sols.length ∧ ∀ (k : Nat) (l : List BV) (cs : List Value), sols[k]? = some l → css[k]? = some cs → SolC m l cs
theorem SRow.mono {m m' : Mem} {v : Value} {sols : List (List BV)} {e : Option (Nat × Obj)} (h : SRow m v sols e) (hm : m.Le m') : SRow m' v sols e :=
  let ⟨css, h1, h2, h3⟩ := h; ⟨css, h1, h2, fun k l cs a b => let ⟨W, c, g1, g2⟩ := h3 k l cs a b; ⟨W, c, g1, g2.mono hm⟩⟩
theorem SRow.one {m : Mem} {v : Value} {sols : List (List BV)} {e : Option (Nat × Obj)} (h : SRow m v sols e) : v.oneCell' = true := let ⟨css, h1, _⟩ := h; ownRow_one h1
/-- The search's state in the world. -/
def NS (m : Mem) (g : Nat) (Lb : Own) (o : Fo) (w : World) : Prop := ∃ m' v e, m.Le m' ∧ SRow m' v o.sols e ∧ St m' (some (g, .cells #[v, .int .i64 (o.nodes : Int), .bool o.op] 75 (0, 0)) :: e :: Lb) w
theorem nodeP_nodes {p : Pb} {most : Int} : ∀ (k : Nat) (b : List Bd) (o : Fo), o.nodes ≤ 200 → o.sols.length ≤ o.nodes → o.nodes ≤ (nodeP p most k b o).2.nodes ∧ (nodeP p most k b o).2.nodes ≤ 200 ∧ (nodeP p most k b o).2.sols.length ≤ (nodeP p most k b o).2.nodes := by
  intro k
  induction k with
  | zero => intro b o h h'; exact ⟨Nat.le_refl _, h, h'⟩
  | succ k ih =>
    intro b o h h'
    unfold nodeP
    split
    · exact ⟨Nat.le_refl _, h, h'⟩
    · rename_i hne
      simp only
      split
      · exact ⟨Nat.le_succ _, (by show o.nodes + 1 ≤ 200; omega), (by show o.sols.length ≤ o.nodes + 1; omega)⟩
      · split
        · refine ⟨Nat.le_succ _, (by show o.nodes + 1 ≤ 200; omega), ?_⟩
          show (o.sols ++ [_]).length ≤ o.nodes + 1
          rw [List.length_append, List.length_singleton]; omega
        · rename_i v hv
          obtain ⟨h1, h2, h3⟩ := ih (withB (runF p false ⟨b, []⟩).1.b v (tz (openB (List.getD (List.take p.bounds.length (runF p false ⟨b, []⟩).1.b) v default))) true) { o with nodes := o.nodes + 1 } (by simp only; omega) (by simp only; omega)
          split
          · obtain ⟨h4, h5, h6⟩ := ih (withB (runF p false ⟨b, []⟩).1.b v (tz (openB (List.getD (List.take p.bounds.length (runF p false ⟨b, []⟩).1.b) v default))) false) _ h2 h3
            exact ⟨Nat.le_trans (Nat.le_trans (Nat.le_succ _) h1) h4, h5, h6⟩
          · exact ⟨Nat.le_trans (Nat.le_succ _) h1, h2, h3⟩
theorem idx_eq {α : Type} (p : α → Bool) (l : List α) : idx p l = match l.findIdx? p with | some i => (i : Int) | none => -1 := rfl
end Go.Proofs.YtgpgjpcebajofaaGreatDoor
