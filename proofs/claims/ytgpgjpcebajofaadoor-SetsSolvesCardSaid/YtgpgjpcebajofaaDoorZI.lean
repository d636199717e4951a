import Derived.Test.YtgpgjpcebajofaaDoorZH
import Derived.Test.YtgpgjpcebajofaaDoorZB
set_option linter.unusedVariables false
set_option linter.unusedSimpArgs false
set_option linter.all false
set_option maxHeartbeats 4000000
set_option linter.unusedVariables false
set_option linter.unusedSimpArgs false
set_option maxRecDepth 100000
namespace Go.Proofs.YtgpgjpcebajofaaDoor
open Go Go.XC Go.RowKit Go.SetsP
attribute [local irreducible] Post TC TR D WL EvS EvC Wd ResL Code.wpIn Exit.then Exit.inBlock Exit.noGoto LoopK LoopP bodyPostM Reads Calls

theorem Sl.dropA {m : Mem} {sz : Nat} {g o c l : Nat} {css : List (List Value)} (h : Sl m sz (some ⟨g, o, none⟩) css) (hc : css.length ≤ c) : Sl m sz (some ⟨g, if c = l then o else o + l * sz, none⟩) (css.drop l) := by
  refine ⟨fun cs hx => h.len cs (List.mem_of_mem_drop hx), by have := h.big; rw [List.length_drop]; omega, fun hne => ?_⟩
  have hl : l < css.length := by
    by_cases hlt : l < css.length
    · exact hlt
    · exact absurd (List.drop_eq_nil_of_le (by omega)) hne
  obtain ⟨g', o', blk, T, fr, h1, h2, h3⟩ := h.at_ (fun e => by rw [e] at hl; exact absurd hl (Nat.not_lt_zero _))
  obtain ⟨rfl, rfl⟩ : g = g' ∧ o = o' := by injection h1 with h1; injection h1 with a b _; exact ⟨a, b⟩
  rw [if_neg (by omega)]
  refine ⟨g, o + l * sz, blk, T, fr, rfl, h2, fun i cs hi j u hj => ?_⟩
  rw [List.getElem?_drop] at hi
  have := h3 _ cs hi j u hj
  rw [Nat.add_mul] at this
  rw [show o + l * sz + i * sz + j = o + (l * sz + i * sz) + j by omega]
  exact this
theorem vals_take (l : List Nat) (i : Nat) : ((ints (zs l)).take i).flatten = vals (zs (l.take i)) := by
  unfold ints zs vals
  rw [← List.map_take, ← List.map_take]
  exact ints_flatten _
theorem vals_drop (l : List Nat) (i : Nat) : ((ints (zs l)).drop i).flatten = vals (zs (l.drop i)) := by
  unfold ints zs vals
  rw [← List.map_drop, ← List.map_drop]
  exact ints_flatten _
theorem selP_range (p : Pb) : selP p (List.range p.rules.length) = p := by
  unfold selP
  have : (List.range p.rules.length).map (fun k => p.rules.getD k default) = p.rules := by
    apply List.ext_getElem?
    intro i
    rw [List.getElem?_map]
    by_cases h : i < p.rules.length
    · rw [List.getElem?_range h, Option.map_some, List.getD_eq_getElem?_getD, List.getElem?_eq_getElem h]; rfl
    · rw [List.getElem?_eq_none (by simpa using h), List.getElem?_eq_none (by omega)]; rfl
  rw [this]
theorem solveR_c (p : Pb) (pcs : Array Value) (hp : okP p) (hrl : ∀ r, r ∈ p.rules → ruleB r p.bounds.length = true) (hcn : Cn (pad8 p.bounds)) (most : Int) (h1 : 0 < most) (m : Mem) (hpc : PbC m p pcs) (L : Own) (w : World) (hs : St m L w) :
    Calls Tryd.prog 10 #[.agg pcs, .int .i64 most] w fun x w' => ∃ y : { y : Mem × Option Addr × Nat // m.Le y.1 ∧ SolS y.1 y.2.1 (searchP p most).sols },
      x = .returned (.agg #[.slice y.1.2.1 (searchP p most).sols.length y.1.2.2, .int .i64 ((searchP p most).nodes : Int), .bool (searchP p most).op]) ∧ St y.1.1 L w' := by
  have hpc0 := hpc
  obtain ⟨BA, bc, RA, rc, rfl, hBA, hRA⟩ := hpc
  obtain ⟨n1, n2, n3⟩ := nodeP_nodes (p := p) (most := most) 201 (pad8 p.bounds) ⟨[], 0, false⟩ (by decide) (Nat.le_refl _)
  have hno := fun (w : World) (L : Own) (hs : St m L w) => nodeR_c p hp hrl most 201 p.bounds ⟨[], 0, false⟩ _ (.slice none 0 0) none L m w (Nat.le_refl _) (by decide) (Nat.le_refl _) rfl h1 rfl hp.b hcn hpc0 ⟨[], OwnRow.nil, rfl, fun k l cs h => by simp at h⟩ hs.addNone
  obtain ⟨F, hF⟩ : ∃ F, F = searchP p most := ⟨_, rfl⟩
  have hF2 : F = (nodeP p most 201 (pad8 p.bounds) ⟨[], 0, false⟩).2 := hF
  rw [← hF2] at hno n2 n3
  rw [← hF]
  refine calls_of_TC (args := [_, _]) Tryd.func10 rfl Tryd.ntmps10 (Nat.le_of_ble_eq_true rfl) hs ?_
  repeat' (first | refine TC.seq ?_ | refine TC.region ?_ | refine TR.nil ?_ | refine Post.then_normal ?_ | (apply TR.st1; exact rfl; exact rfl; exact rfl; (first | exact Wd.plain rfl | exact Wd.on rfl rfl rfl); (first | exact EvS.buildC (cells := #[.slice none 0 0, .int .i64 0, .bool false]) rfl (by kernel_rfl) | exact EvS.move rfl | (first | (apply EvS.load1; exact rfl; (first | exact Reads.mem (by assumption) | exact Reads.own (by repeat first | exact List.Mem.head _ | assumption | apply List.Mem.tail)); (first | assumption | exact nthL_arr rfl | exact rfl)) | (apply EvS.loadW; exact rfl; (first | exact Reads.mem (by assumption) | exact Reads.own (by repeat first | exact List.Mem.head _ | assumption | apply List.Mem.tail)); first | exact rfl | assumption) | (apply EvS.loadH; exact rfl; (first | exact Reads.mem (by assumption) | exact Reads.own (by repeat first | exact List.Mem.head _ | assumption | apply List.Mem.tail)); assumption; first | exact rfl | assumption)))) | (apply TR.ch1 (o := ⟨_, .box _ _, _, _, _, _⟩) ; exact rfl; exact rfl; exact rfl; (first | exact Wd.plain rfl | exact Wd.on rfl rfl rfl); exact EvC.boxA rfl; intro g) | (apply TR.ch1 (o := ⟨_, .alloc _, _, _, _, _⟩) ; exact rfl; exact rfl; exact rfl; (first | exact Wd.plain rfl | exact Wd.on rfl rfl rfl); exact EvC.alloc; intro g))
  (apply TR.ch1 (o := ⟨_, .call _, _, _, _, _⟩); exact rfl; exact rfl; exact rfl; exact Wd.plain rfl; exact EvC.callXS rfl rfl (fun w h => hno w _ h); rintro v1)
  refine TR.of_exists (X := { y : Mem × Option (Nat × Obj) // m.Le y.1 ∧ SRow y.1 v1 F.sols y.2 }) (S' := fun y => St y.1.1 (y.1.2 :: _)) (fun w h => by obtain ⟨m6, e6, k1, k2, k3⟩ := h; exact ⟨⟨(m6, e6), k1, k2⟩, k3⟩) ?_
  rintro ⟨⟨m5, e5⟩, hle5, hrow5⟩
  simp only at hle5 hrow5 ⊢
  have hrow6 := hrow5
  obtain ⟨_, hor5, _⟩ := hrow5
  obtain ⟨nA, nc, rfl, hnc⟩ := ownRow_slice hor5
  repeat' (first | refine TR.nil ?_ | refine Post.then_normal ?_ | refine TC.ret ?_ | (apply TR.ch0 (o := ⟨_, .store _ _ _, _, _, _, _⟩) ; exact rfl; exact rfl; (first | exact Wd.plain rfl | exact Wd.on rfl rfl rfl); exact EvC.storeW rfl rfl (by first | exact rfl | assumption) (by first | exact bArr_one _ | exact rfl | (intro v hv; simp at hv; rcases hv with rfl | rfl | rfl | rfl | rfl | rfl | rfl | rfl <;> rfl)) (by repeat first | exact Upd.head | apply Upd.tail) (by first | exact rfl | assumption); rintro ⟨⟩))
  refine Post.body_ret _ (ResL.one rfl (ResV.cellW (n := 3) rfl (Reads.own (by repeat first | exact List.Mem.head _ | apply List.Mem.tail)) rfl)) ?_
  intro w h
  obtain ⟨l1, l2⟩ := lend (h.sublist (List.Sublist.cons_cons _ (List.Sublist.cons _ (List.Sublist.cons _ (List.Sublist.refl _)))))
  obtain ⟨A, c, hv, hS⟩ := hrow6.lent l1 (by omega)
  injection hv with e1 _ e3
  subst e1 e3
  exact ⟨⟨(_, nA, nc), hle5.trans l1, hS⟩, rfl, l2⟩

structure Cx where
  k : Nat
  l : List Nat
  m : Mem
  A : Option Addr
  c : Nat
structure Qx where
  k : Nat
  v : Value
  e : Option (Nat × Obj)
theorem coreR_c (p : Pb) (pcs : Array Value) (hck : checkB p = true) (m : Mem) (hpc : PbC m p pcs) (L : Own) (w : World) (hs : St m L w) :
    Calls Tryd.prog 12 #[.agg pcs] w fun x w' => ∃ y : { y : Mem × Option Addr × Nat // m.Le y.1 ∧ Sl y.1 1 y.2.1 (ints (zs (coreP p).1)) },
      x = .returned (.tuple #[.slice y.1.2.1 (coreP p).1.length y.1.2.2, .int .i64 (coreP p).2]) ∧ St y.1.1 L w' := by
  have hp := okP_of hck
  have hcn := Cn.pad hck
  have hrl := (checkB_ok hck).2.2.2
  have hpc0 := hpc
  obtain ⟨BA, bc, RA, rc, rfl, hBA, hRA⟩ := hpc
  have hr12 := hp.r12
  have hb8 := hp.b8
  have hse := fun (w : World) (L : Own) (hs : St m L w) => solveR_c p _ hp hrl hcn 1 (by decide) m hpc0 L w hs
  obtain ⟨l0, hl0⟩ : ∃ l0, l0 = List.range p.rules.length := ⟨_, rfl⟩
  have hll : l0.length = p.rules.length := by rw [hl0]; simp
  have hlm : ∀ k, k ∈ l0 → k < p.rules.length := by rw [hl0]; intro k hk; simpa using hk
  have hcp : coreP p = if (noneP p l0).2 != 0 then ([], (noneP p l0).2) else if !(noneP p l0).1 then ([], 5) else coreL p l0.reverse l0 := by
    unfold coreP; rw [hck, ← hl0]; rfl
  have hn0 : noneP p l0 = if (searchP p 1).op then (false, 8) else (((searchP p 1).sols.length : Int) == 0, 0) := by unfold noneP; rw [hl0, selP_range]
  rw [hn0] at hcp
  obtain ⟨F, hF⟩ : ∃ F, F = searchP p 1 := ⟨_, rfl⟩
  rw [← hF] at hse hcp
  cases hop : F.op with
  | true =>
    rw [hop] at hse hcp
    rw [if_pos rfl] at hcp
    rw [show coreP p = ([], 8) from hcp]
    refine calls_of_TC (args := [_]) Tryd.func12 rfl Tryd.ntmps12 (Nat.le_of_ble_eq_true rfl) hs ?_
    repeat' (first | (apply TR.ch1 (o := ⟨_, .call _, _, _, _, _⟩); exact rfl; exact rfl; exact rfl; (first | exact Wd.plain rfl | exact Wd.on rfl rfl rfl); exact EvC.callX rfl rfl (fun w hs => hse w _ hs); rintro ⟨⟨m1, A1, c1⟩, hle1, hS1⟩) | refine TC.seq ?_ | refine TC.region ?_ | refine TR.nil ?_ | refine Post.then_normal ?_ | refine TC.ret ?_ | (apply TC.cond_t; exact rfl) | refine Post.then_ret ?_ | (apply TR.st1; exact rfl; exact rfl; exact rfl; (first | exact Wd.plain rfl | exact Wd.on rfl rfl rfl); (first | exact EvS.assign rfl | exact EvS.fieldAddr rfl | (first | (apply EvS.load1; exact rfl; (first | exact Reads.mem (by assumption) | exact Reads.own (by repeat first | exact List.Mem.head _ | assumption | apply List.Mem.tail)); (first | assumption | exact nthL_arr rfl | exact rfl)) | (apply EvS.loadW; exact rfl; (first | exact Reads.mem (by assumption) | exact Reads.own (by repeat first | exact List.Mem.head _ | assumption | apply List.Mem.tail)); first | exact rfl | assumption) | (apply EvS.loadH; exact rfl; (first | exact Reads.mem (by assumption) | exact Reads.own (by repeat first | exact List.Mem.head _ | assumption | apply List.Mem.tail)); assumption; first | exact rfl | assumption)))) | (apply TR.ch1 (o := ⟨_, .box _ _, _, _, _, _⟩) ; exact rfl; exact rfl; exact rfl; (first | exact Wd.plain rfl | exact Wd.on rfl rfl rfl); exact EvC.boxA rfl; intro g) | (apply TR.ch1 (o := ⟨_, .alloc _, _, _, _, _⟩) ; exact rfl; exact rfl; exact rfl; (first | exact Wd.plain rfl | exact Wd.on rfl rfl rfl); exact EvC.alloc; intro g) | (apply TR.ch0 (o := ⟨_, .store _ _ _, _, _, _, _⟩) ; exact rfl; exact rfl; (first | exact Wd.plain rfl | exact Wd.on rfl rfl rfl); exact EvC.storeW rfl rfl (by first | exact rfl | assumption) (by first | exact bArr_one _ | exact rfl | (intro v hv; simp at hv; rcases hv with rfl | rfl | rfl | rfl | rfl | rfl | rfl | rfl <;> rfl)) (by repeat first | exact Upd.head | apply Upd.tail) (by first | exact rfl | assumption); rintro ⟨⟩))
    refine Post.body_ret _ (ResL.two rfl (ResV.tmp rfl) (ResV.tmp rfl)) ?_
    intro w h
    exact ⟨⟨(m1, none, 0), hle1, Sl.nil⟩, rfl, h.tail.tail⟩
  | false =>
  rw [hop] at hse hcp
  rw [if_neg (by simp)] at hcp
  by_cases h0 : F.sols.length = 0
  rotate_left
  · have hgt : decide ((F.sols.length : Int) > 0) = true := by simp; omega
    have hz : ((F.sols.length : Int) == 0) = false := by simp; exact fun e => h0 (by rw [e]; rfl)
    rw [hz] at hcp
    rw [show coreP p = ([], 5) from hcp]
    refine calls_of_TC (args := [_]) Tryd.func12 rfl Tryd.ntmps12 (Nat.le_of_ble_eq_true rfl) hs ?_
    repeat' (first | (apply TR.ch1 (o := ⟨_, .call _, _, _, _, _⟩); exact rfl; exact rfl; exact rfl; (first | exact Wd.plain rfl | exact Wd.on rfl rfl rfl); exact EvC.callX rfl rfl (fun w hs => hse w _ hs); rintro ⟨⟨m1, A1, c1⟩, hle1, hS1⟩) | refine TC.seq ?_ | refine TC.region ?_ | refine TR.nil ?_ | refine Post.then_normal ?_ | refine TC.skip ?_ | refine TC.ret ?_ | (apply TC.cond_f; exact rfl) | (apply TC.cond_bt; exact rfl; assumption) | refine Post.then_ret ?_ | (apply TR.st1; exact rfl; exact rfl; exact rfl; (first | exact Wd.plain rfl | exact Wd.on rfl rfl rfl); (first | exact EvS.assign rfl | exact EvS.fieldAddr rfl | (first | (apply EvS.load1; exact rfl; (first | exact Reads.mem (by assumption) | exact Reads.own (by repeat first | exact List.Mem.head _ | assumption | apply List.Mem.tail)); (first | assumption | exact nthL_arr rfl | exact rfl)) | (apply EvS.loadW; exact rfl; (first | exact Reads.mem (by assumption) | exact Reads.own (by repeat first | exact List.Mem.head _ | assumption | apply List.Mem.tail)); first | exact rfl | assumption) | (apply EvS.loadH; exact rfl; (first | exact Reads.mem (by assumption) | exact Reads.own (by repeat first | exact List.Mem.head _ | assumption | apply List.Mem.tail)); assumption; first | exact rfl | assumption)) | exact EvS.len rfl | exact EvS.gtI rfl rfl)) | (apply TR.ch1 (o := ⟨_, .box _ _, _, _, _, _⟩) ; exact rfl; exact rfl; exact rfl; (first | exact Wd.plain rfl | exact Wd.on rfl rfl rfl); exact EvC.boxA rfl; intro g) | (apply TR.ch1 (o := ⟨_, .alloc _, _, _, _, _⟩) ; exact rfl; exact rfl; exact rfl; (first | exact Wd.plain rfl | exact Wd.on rfl rfl rfl); exact EvC.alloc; intro g) | (apply TR.ch0 (o := ⟨_, .store _ _ _, _, _, _, _⟩) ; exact rfl; exact rfl; (first | exact Wd.plain rfl | exact Wd.on rfl rfl rfl); exact EvC.storeW rfl rfl (by first | exact rfl | assumption) (by first | exact bArr_one _ | exact rfl | (intro v hv; simp at hv; rcases hv with rfl | rfl | rfl | rfl | rfl | rfl | rfl | rfl <;> rfl)) (by repeat first | exact Upd.head | apply Upd.tail) (by first | exact rfl | assumption); rintro ⟨⟩))
    refine Post.body_ret _ (ResL.two rfl (ResV.tmp rfl) (ResV.tmp rfl)) ?_
    intro w h
    exact ⟨⟨(m1, none, 0), hle1, Sl.nil⟩, rfl, h.tail.tail⟩
  have hgt : decide ((F.sols.length : Int) > 0) = false := by simp [h0]
  have hz : ((F.sols.length : Int) == 0) = true := by simp [h0]
  rw [hz] at hcp
  replace hcp : coreP p = coreL p l0.reverse l0 := hcp
  rw [hcp]
  obtain ⟨Res, hRes⟩ : ∃ Res, Res = coreL p l0.reverse l0 := ⟨_, rfl⟩
  rw [← hRes]
  refine calls_of_TC (args := [_]) Tryd.func12 rfl Tryd.ntmps12 (Nat.le_of_ble_eq_true rfl) hs ?_
  repeat' (first | (apply TR.ch1 (o := ⟨_, .call _, _, _, _, _⟩); exact rfl; exact rfl; exact rfl; (first | exact Wd.plain rfl | exact Wd.on rfl rfl rfl); exact EvC.callX rfl rfl (fun w hs => hse w _ hs); rintro ⟨⟨m1, A1, c1⟩, hle1, hS1⟩) | refine TC.seq ?_ | refine TC.region ?_ | refine TR.nil ?_ | refine Post.then_normal ?_ | refine TC.block ?_ | refine TC.skip ?_ | (apply TC.cond_f; exact rfl) | (apply TC.cond_bf; exact rfl; assumption) | (apply TR.st1; exact rfl; exact rfl; exact rfl; (first | exact Wd.plain rfl | exact Wd.on rfl rfl rfl); (first | exact EvS.assign rfl | exact EvS.fieldAddr rfl | (first | (apply EvS.load1; exact rfl; (first | exact Reads.mem (by assumption) | exact Reads.own (by repeat first | exact List.Mem.head _ | assumption | apply List.Mem.tail)); (first | assumption | exact nthL_arr rfl | exact rfl)) | (apply EvS.loadW; exact rfl; (first | exact Reads.mem (by assumption) | exact Reads.own (by repeat first | exact List.Mem.head _ | assumption | apply List.Mem.tail)); first | exact rfl | assumption) | (apply EvS.loadH; exact rfl; (first | exact Reads.mem (by assumption) | exact Reads.own (by repeat first | exact List.Mem.head _ | assumption | apply List.Mem.tail)); assumption; first | exact rfl | assumption)) | exact EvS.len rfl | exact EvS.gtI rfl rfl)) | (apply TR.ch1 (o := ⟨_, .box _ _, _, _, _, _⟩) ; exact rfl; exact rfl; exact rfl; (first | exact Wd.plain rfl | exact Wd.on rfl rfl rfl); exact EvC.boxA rfl; intro g) | (apply TR.ch1 (o := ⟨_, .alloc _, _, _, _, _⟩) ; exact rfl; exact rfl; exact rfl; (first | exact Wd.plain rfl | exact Wd.on rfl rfl rfl); exact EvC.alloc; intro g) | (apply TR.ch0 (o := ⟨_, .store _ _ _, _, _, _, _⟩) ; exact rfl; exact rfl; (first | exact Wd.plain rfl | exact Wd.on rfl rfl rfl); exact EvC.storeW rfl rfl (by first | exact rfl | assumption) (by first | exact bArr_one _ | exact rfl | (intro v hv; simp at hv; rcases hv with rfl | rfl | rfl | rfl | rfl | rfl | rfl | rfl <;> rfl)) (by repeat first | exact Upd.head | apply Upd.tail) (by first | exact rfl | assumption); rintro ⟨⟩))
  rename_i gp
  simp only at hle1 hS1 ⊢
  refine TC.turn (fun w h => h.tail.addNone) ?_
  refine TC.loopP (X := Gr) (fun x => x.k ≤ p.rules.length ∧ OwnRow x.v 3 1 x.k (vals (zs (List.range x.k))) x.e)
    (fun x => [(6, .int .i64 (x.k : Int)), (5, x.v), (1, .pointer (some ⟨gp, 0, none⟩))])
    (fun x => St m1 (x.e :: some (gp, .cells #[.slice BA p.bounds.length bc, .slice RA p.rules.length rc] 25 (0, 0)) :: L)) (fun x => p.rules.length - x.k) ⟨0, .slice none 0 0, none⟩ ⟨Nat.zero_le _, OwnRow.nil⟩ (incl.lk (by repeat first | exact trivial | refine ⟨rfl, ?_⟩)) (fun w h => h) ?_
  rintro ⟨k, v, e⟩ ⟨hk, hrow⟩
  simp only at hk hrow ⊢
  by_cases hlt : k < p.rules.length
  · have hd : decide ((k : Int) < (p.rules.length : Int)) = true := by simpa using hlt
    repeat' (first | refine TC.seq ?_ | refine TC.region ?_ | refine TR.nil ?_ | refine Post.then_normal ?_ | refine TC.block ?_ | refine TC.skip ?_ | (apply TC.cond_bt; exact rfl; assumption) | (apply TR.st1; exact rfl; exact rfl; exact rfl; (first | exact Wd.plain rfl | exact Wd.on rfl rfl rfl); (first | exact EvS.move rfl | exact EvS.fieldAddr rfl | (first | (apply EvS.load1; exact rfl; (first | exact Reads.mem (by assumption) | exact Reads.own (by repeat first | exact List.Mem.head _ | assumption | apply List.Mem.tail)); (first | assumption | exact nthL_arr rfl | exact rfl)) | (apply EvS.loadW; exact rfl; (first | exact Reads.mem (by assumption) | exact Reads.own (by repeat first | exact List.Mem.head _ | assumption | apply List.Mem.tail)); first | exact rfl | assumption) | (apply EvS.loadH; exact rfl; (first | exact Reads.mem (by assumption) | exact Reads.own (by repeat first | exact List.Mem.head _ | assumption | apply List.Mem.tail)); assumption; first | exact rfl | assumption)) | exact EvS.len rfl | exact EvS.ltI rfl rfl)) | (apply TR.ch1 (o := ⟨_, .buildSlice _ _ _, _, _, _, _⟩) ; exact rfl; exact rfl; exact rfl; (first | exact Wd.plain rfl | exact Wd.on rfl rfl rfl); exact EvC.build1 rfl (by exact rfl) (by exact rfl); intro g))
    (apply TR.ch1 (o := ⟨_, .call _, _, _, _, _⟩); exact rfl; exact rfl; exact rfl; (first | exact Wd.plain rfl | exact Wd.on rfl rfl rfl); (apply EvC.append; exact rfl; exact rfl; exact hrow; exact Rep1.tail (Rep1.head); (apply RdC.whole; (first | exact Reads.mem (by assumption) | exact Reads.own (by repeat first | exact List.Mem.head _ | assumption | apply List.Mem.tail))); exact rfl; exact (by first | exact (fun v hv => by simp at hv; rcases hv with rfl | rfl | rfl | rfl | rfl | rfl | rfl | rfl <;> rfl) | exact (fun v hv => by simp at hv; rcases hv with rfl | rfl | rfl | rfl | rfl | rfl | rfl <;> rfl) | exact (fun v hv => by simp at hv; rcases hv with rfl | rfl | rfl | rfl <;> rfl) | exact (fun v hv => by simp at hv; rcases hv with rfl | rfl <;> rfl) | exact (fun v hv => by simp at hv; subst hv; rfl)); exact rfl; decide; omega; (intro e2; exact Rep1.tail (Rep1.head))); intro p)
    obtain ⟨⟨v2, e2⟩, hrow2⟩ := p
    repeat' (first | refine TC.region ?_ | refine TR.nil ?_ | refine Post.then_normal ?_ | refine Post.block_normal ?_ | (apply TR.st1; exact rfl; exact rfl; exact rfl; (first | exact Wd.plain rfl | exact Wd.on rfl rfl rfl); (first | exact EvS.move rfl | exact EvS.assign rfl | (first | exact EvS.addI rfl rfl (by omega) | exact EvS.add64 rfl rfl (by first | with_reducible exact U64.var _ | exact U64.lit rfl) (by first | with_reducible exact U64.var _ | exact U64.lit rfl)))))
    refine Post.nextP ⟨k + 1, v2, e2⟩ ⟨by simp only; omega, ?_⟩ (incl.lk (by repeat first | exact trivial | refine ⟨rfl, ?_⟩)) (fun w h => h.tail) (by simp only; omega)
    have hzk : vals (zs [k]) = [.int .i64 (k : Int)] := rfl
    simp only
    rw [List.range_succ, vals_zs_append, hzk]
    exact hrow2
  have hd : decide ((k : Int) < (p.rules.length : Int)) = false := by simpa using hlt
  obtain rfl : k = p.rules.length := by omega
  rw [← hl0] at hrow
  rw [← hll] at hrow
  refine TC.pull (fun w h => (lend h).1) fun hle2 => ?_
  refine TC.turn (fun w h => (lend h).2) ?_
  obtain ⟨A0, c0, rfl, hc0, hSl⟩ := OwnRow.lent (m := m1) (css := ints (zs l0)) (by rw [← vals_flat]; exact hrow) (ints_len _) (by simp [ints, zs]) (by omega)
  obtain ⟨m2, hm2⟩ : ∃ m2, m2 = memO m1 e := ⟨_, rfl⟩
  rw [← hm2] at hle2 hSl ⊢
  repeat' (first | refine TC.seq ?_ | refine TC.region ?_ | refine TR.nil ?_ | refine Post.then_normal ?_ | refine TC.block ?_ | refine TC.exit ?_ | (apply TC.cond_bf; exact rfl; assumption) | refine Post.then_exit ?_ | refine Post.block_here ?_ | (apply TR.st1; exact rfl; exact rfl; exact rfl; (first | exact Wd.plain rfl | exact Wd.on rfl rfl rfl); (first | exact EvS.move rfl | exact EvS.assign rfl | exact EvS.fieldAddr rfl | (first | (apply EvS.load1; exact rfl; (first | exact Reads.mem (by assumption) | exact Reads.own (by repeat first | exact List.Mem.head _ | assumption | apply List.Mem.tail)); (first | assumption | exact nthL_arr rfl | exact rfl)) | (apply EvS.loadW; exact rfl; (first | exact Reads.mem (by assumption) | exact Reads.own (by repeat first | exact List.Mem.head _ | assumption | apply List.Mem.tail)); first | exact rfl | assumption) | (apply EvS.loadH; exact rfl; (first | exact Reads.mem (by assumption) | exact Reads.own (by repeat first | exact List.Mem.head _ | assumption | apply List.Mem.tail)); assumption; first | exact rfl | assumption)) | exact EvS.len rfl | exact EvS.ltI rfl rfl | (first | exact EvS.subI rfl rfl (by omega) | exact EvS.sub64 rfl rfl (by first | with_reducible exact U64.var _ | exact U64.lit rfl) (by first | with_reducible exact U64.var _ | exact U64.lit rfl)))))
  refine TC.loopP (X := Cx) (fun x => m.Le x.m ∧ Sl x.m 1 x.A (ints (zs x.l)) ∧ x.l.length ≤ x.c ∧ x.k ≤ x.l.length ∧ x.l.length ≤ 12 ∧ (∀ k, k ∈ x.l → k < p.rules.length) ∧ coreL p (List.range x.k).reverse x.l = Res)
    (fun x => [(7, .int .i64 ((x.k : Int) - 1)), (5, .slice x.A x.l.length x.c), (1, .pointer (some ⟨gp, 0, none⟩))])
    (fun x => St x.m (some (gp, .cells #[.slice BA p.bounds.length bc, .slice RA p.rules.length rc] 25 (0, 0)) :: L)) (fun x => x.k) ⟨l0.length, l0, m2, A0, c0⟩ ⟨hle1.trans hle2, hSl, hc0, Nat.le_refl _, by simp only; omega, hlm, by simp only; rw [hRes, hll, hl0]⟩ (incl.lk (by repeat first | exact trivial | refine ⟨rfl, ?_⟩)) (fun w h => h) ?_
  clear hrow hSl hc0 hle2 hm2 hRes hcp hS1 hle1
  clear e
  rintro ⟨k, l, m3, A3, c3⟩ ⟨hle3, hSl3, hlc3, hkl, hl12, hmem, hfold⟩
  simp only at hle3 hSl3 hlc3 hkl hl12 hmem hfold ⊢
  cases k with
  | zero =>
    have hd2 : decide (((0 : Nat) : Int) - 1 ≥ 0) = false := by decide
    repeat' (first | refine TC.seq ?_ | refine TC.region ?_ | refine TR.nil ?_ | refine Post.then_normal ?_ | refine TC.ret ?_ | refine TC.exit ?_ | (apply TC.cond_f; exact rfl) | refine Post.then_exit ?_ | refine Post.block_here ?_ | (apply TR.st1; exact rfl; exact rfl; exact rfl; (first | exact Wd.plain rfl | exact Wd.on rfl rfl rfl); (first | exact EvS.move rfl | exact EvS.assign rfl | exact EvS.geI rfl rfl)))
    refine Post.body_ret _ (ResL.two rfl (ResV.tmp rfl) (ResV.tmp rfl)) ?_
    intro w h
    rw [← hfold]
    exact ⟨⟨(m3, A3, c3), hle3, hSl3⟩, rfl, h.tail⟩
  | succ i =>
    have hd2 : decide (((i + 1 : Nat) : Int) - 1 ≥ 0) = true := by simp
    have hi1 : ((i + 1 : Nat) : Int) - 1 = (i : Int) := by omega
    rw [List.range_succ, List.reverse_append] at hfold
    simp only [List.reverse_cons, List.reverse_nil, List.nil_append, List.singleton_append] at hfold
    have hmem2 : ∀ k, k ∈ l.eraseIdx i → k < p.rules.length := fun k hk => hmem k (List.mem_of_mem_eraseIdx hk)
    have hzl : (zs l).length = l.length := zs_length l
    have hel : (l.eraseIdx i).length = l.length - 1 := by rw [List.length_eraseIdx, if_pos (by omega)]
    have hil : (ints (zs l)).length = l.length := by rw [ints_length, hzl]
    obtain ⟨g5, o5, blk5, T5, fr5, rfl, _, _⟩ := hSl3.at_ (fun e => by rw [e] at hil; simp at hil; omega)
    have hr1 (L : Own) : RdC (St m3 L) (some ⟨g5, o5, none⟩) (vals (zs (l.take i))) := by rw [← vals_take]; exact (Sl.take hSl3 i).rdc
    have hr2 (L : Own) : RdC (St m3 L) (some ⟨g5, if c3 = i + 1 then o5 else o5 + (i + 1) * 1, none⟩) (vals (zs (l.drop (i + 1)))) := by rw [← vals_drop]; exact (Sl.dropA hSl3 (by omega)).rdc
    have hl1 : (vals (zs (l.take i))).length = i * 1 := by rw [vals_zs_len, List.length_take]; omega
    have hl2 : (vals (zs (l.drop (i + 1)))).length = (l.length - (i + 1)) * 1 := by rw [vals_zs_len, List.length_drop]; omega
    rw [hi1] at *
    repeat' (first | refine TC.seq ?_ | refine TC.region ?_ | refine TR.nil ?_ | refine Post.then_normal ?_ | refine TC.block ?_ | refine TC.skip ?_ | (apply TC.cond_t; exact rfl) | (apply TR.st1; exact rfl; exact rfl; exact rfl; (first | exact Wd.plain rfl | exact Wd.on rfl rfl rfl); (first | exact EvS.move rfl | exact EvS.geI rfl rfl)))
    refine TC.turn (fun w h => h.addNone) ?_
    refine TC.draw' (L1 := [none]) [.st, .st, .st, .ch, .st, .st, .st, .st, .ch, .st] mixed rfl (by kernel_rfl) ?_
    repeat' (first | (apply D.chx (o := ⟨_, .call _, _, _, _, _⟩); exact rfl; exact Wd.plain rfl; (apply EvC.append; exact rfl; exact rfl; exact OwnRow.nil; exact Rep1.head; exact hr1 _; exact hl1; exact vals_one _; exact rfl; decide; omega; (intro e2; exact Rep1.head)); exact ownRow_ex (by rw [List.nil_append, hl1, Nat.zero_add]) (by simp only [maxLen]; omega); exact fun _ _ h => StX.of1 h; rintro ⟨⟨v4, e4⟩, hrow4⟩) | (apply D.chx (o := ⟨_, .call _, _, _, _, _⟩); exact rfl; exact Wd.plain rfl; (apply EvC.append; exact rfl; exact rfl; exact hrow4; exact Rep1.head; exact hr2 _; exact hl2; exact vals_one _; exact rfl; decide; omega; (intro e2; exact Rep1.head)); exact ownRow_ex (by rw [List.nil_append, List.length_append, hl1, hl2]; omega) (by simp only [maxLen]; omega); exact fun _ _ h => StX.of1 h; rintro ⟨⟨v5, e5⟩, hrow5⟩) | (apply D.st1; exact rfl; (first | exact Wd.plain rfl | exact Wd.on rfl rfl rfl); (first | (first | exact EvS.sliceHi rfl rfl rfl (by omega) | exact EvS.sliceLo (l := i + 1) rfl rfl (by omega) | exact EvS.sliceA rfl) | exact EvS.move rfl | exact EvS.assign rfl | (first | exact EvS.addI rfl rfl (by omega) | exact EvS.add64 rfl rfl (by first | with_reducible exact U64.var _ | exact U64.lit rfl) (by first | with_reducible exact U64.var _ | exact U64.lit rfl)))) | refine D.tail_ ?_)
    simp only at hrow5 ⊢
    rw [List.nil_append, ← vals_zs_append, ← List.eraseIdx_eq_take_drop_succ, show 0 + i + (l.length - (i + 1)) = (l.eraseIdx i).length by omega] at hrow5
    refine TR.pull (fun w h => (lend h).1) fun hle5 => ?_
    refine TR.turn (fun w h => (lend h).2) ?_
    obtain ⟨lw, hlw⟩ : ∃ lw, lw = l.eraseIdx i := ⟨_, rfl⟩
    rw [← hlw] at hrow5 hmem2 hel
    obtain ⟨A5, c5, rfl, hc5, hSl5⟩ := OwnRow.lent (m := m3) (css := ints (zs lw)) (by rw [← vals_flat]; exact hrow5) (ints_len _) (by simp [ints, zs]) (by omega)
    obtain ⟨m5, hm5⟩ : ∃ m5, m5 = memO m3 e5 := ⟨_, rfl⟩
    rw [← hm5] at hle5 hSl5 ⊢
    obtain ⟨q, hq⟩ : ∃ q, q = selP p lw := ⟨_, rfl⟩
    have hqo : okP q := by rw [hq]; exact selP_ok hp hmem2 (by omega)
    have hqb : q.bounds = p.bounds := by rw [hq]; rfl
    have hql : q.rules.length = lw.length := by rw [hq]; simp [selP]
    have hqrl : ∀ r, r ∈ q.rules → ruleB r q.bounds.length = true := by
      intro r hr
      rw [hqb]
      rw [hq] at hr
      obtain ⟨k, hk, rfl⟩ := List.mem_map.1 hr
      rw [List.getD_eq_getElem?_getD, List.getElem?_eq_getElem (hmem2 k hk)]
      exact hrl _ (List.getElem_mem _)
    repeat' (first | refine TC.seq ?_ | refine TC.region ?_ | refine TR.nil ?_ | refine Post.then_normal ?_ | refine TC.block ?_ | (apply TR.st1; exact rfl; exact rfl; exact rfl; (first | exact Wd.plain rfl | exact Wd.on rfl rfl rfl); (first | exact EvS.buildC (cells := #[.slice BA p.bounds.length bc, .slice none 0 0]) rfl (by kernel_rfl) | exact EvS.assign rfl | exact EvS.fieldAddr rfl | (first | (apply EvS.load1; exact rfl; (first | exact Reads.mem (by assumption) | exact Reads.own (by repeat first | exact List.Mem.head _ | assumption | apply List.Mem.tail)); (first | assumption | exact nthL_arr rfl | exact rfl)) | (apply EvS.loadW; exact rfl; (first | exact Reads.mem (by assumption) | exact Reads.own (by repeat first | exact List.Mem.head _ | assumption | apply List.Mem.tail)); first | exact rfl | assumption) | (apply EvS.loadH; exact rfl; (first | exact Reads.mem (by assumption) | exact Reads.own (by repeat first | exact List.Mem.head _ | assumption | apply List.Mem.tail)); assumption; first | exact rfl | assumption)))) | (apply TR.ch1 (o := ⟨_, .alloc _, _, _, _, _⟩) ; exact rfl; exact rfl; exact rfl; (first | exact Wd.plain rfl | exact Wd.on rfl rfl rfl); exact EvC.alloc; intro g) | (apply TR.ch0 (o := ⟨_, .store _ _ _, _, _, _, _⟩) ; exact rfl; exact rfl; (first | exact Wd.plain rfl | exact Wd.on rfl rfl rfl); exact EvC.storeW rfl rfl (by first | exact rfl | assumption) (by first | exact bArr_one _ | exact rfl | (intro v hv; simp at hv; rcases hv with rfl | rfl | rfl | rfl | rfl | rfl | rfl | rfl <;> rfl)) (by repeat first | exact Upd.head | apply Upd.tail) (by first | exact rfl | assumption); rintro ⟨⟩))
    obtain ⟨gq, hgq⟩ : ∃ x, x = g := ⟨_, rfl⟩
    subst hgq
    refine TC.turn (fun w h => h.addNone) ?_
    refine TC.loopP (X := Gr) (fun x => x.k ≤ lw.length ∧ RRow m5 x.v (q.rules.take x.k) x.e)
      (fun x => [(10, .int .i64 (x.k : Int)), (9, .pointer (some ⟨gq, 0, none⟩)), (8, .slice A5 lw.length c5), (7, .int .i64 (i : Int)), (5, .slice (some ⟨g5, o5, none⟩) l.length c3), (1, .pointer (some ⟨gp, 0, none⟩))])
      (fun x => St m5 (x.e :: some (gq, .cells #[.slice BA p.bounds.length bc, x.v] 25 (0, 0)) :: some (gp, .cells #[.slice BA p.bounds.length bc, .slice RA p.rules.length rc] 25 (0, 0)) :: L)) (fun x => lw.length - x.k) ⟨0, .slice none 0 0, none⟩ ⟨Nat.zero_le _, ⟨[], by rw [List.take_zero]; exact OwnRow.nil, rfl, fun i r cs h => by simp at h⟩⟩ (incl.lk (by repeat first | exact trivial | refine ⟨rfl, ?_⟩)) (fun w h => h) ?_
    clear hrow5 hr1 hr2 hl1 hl2
    rintro ⟨k, v, e⟩ ⟨hk, hrow⟩
    simp only at hk hrow ⊢
    by_cases hlt2 : k < lw.length
    · obtain ⟨n, hn⟩ : ∃ n, lw[k]? = some n := ⟨_, List.getElem?_eq_getElem hlt2⟩
      have hnl : n < p.rules.length := hmem2 n (List.mem_of_getElem? hn)
      obtain ⟨r, hr⟩ : ∃ r, p.rules[n]? = some r := ⟨_, List.getElem?_eq_getElem hnl⟩
      have hqr : q.rules[k]? = some r := by rw [hq]; simp [selP, hn, List.getD_eq_getElem?_getD, hr]
      obtain ⟨g1, oo, blk, T, fr, hAe, hmm, hc⟩ := hSl5.get1 (k := k) (v := .int .i64 (n : Int)) (by simp [ints, zs, hn])
      obtain ⟨g3, o3, blk3, T3, fr3, B3, c3', hR1, hR2, hR3, hR4, hR5⟩ := (hRA.mono (hle3.trans hle5)).get hr
      have hd4 : decide ((k : Int) < (lw.length : Int)) = true := by simpa using hlt2
      obtain ⟨css, hcss, hcl, hcr⟩ := hrow
      have htk : (q.rules.take k).length = k := by rw [List.length_take]; omega
      repeat' (first | refine TC.seq ?_ | refine TC.region ?_ | refine TR.nil ?_ | refine Post.then_normal ?_ | refine TC.block ?_ | refine TC.skip ?_ | (apply TC.cond_bt; exact rfl; assumption) | (apply TR.st1; exact rfl; exact rfl; exact rfl; (first | exact Wd.plain rfl | exact Wd.on rfl rfl rfl); (first | exact EvS.move rfl | exact EvS.len rfl | exact EvS.ltI rfl rfl)))
      refine TC.draw' (L1 := [e]) (Lb := _) [.st, .st, .st, .st, .st, .st, .st, .st, .st, .st, .ch, .ch, .st] mixed rfl (by kernel_rfl) ?_
      repeat' (first | (apply D.chx (o := ⟨_, .call _, _, _, _, _⟩); exact rfl; exact Wd.plain rfl; (apply EvC.append; exact rfl; exact rfl; exact hcss; exact Rep1.tail Rep1.head; (apply RdC.whole; (first | exact Reads.mem (by assumption) | exact Reads.own (by repeat first | exact List.Mem.head _ | assumption | apply List.Mem.tail))); exact rfl; exact (by first | exact (fun v hv => by simp at hv; rcases hv with rfl | rfl | rfl | rfl | rfl | rfl | rfl | rfl <;> rfl) | exact (fun v hv => by simp at hv; rcases hv with rfl | rfl | rfl | rfl | rfl | rfl | rfl <;> rfl) | exact (fun v hv => by simp at hv; rcases hv with rfl | rfl | rfl | rfl <;> rfl) | exact (fun v hv => by simp at hv; rcases hv with rfl | rfl <;> rfl) | exact (fun v hv => by simp at hv; subst hv; rfl)); exact rfl; decide; omega; (intro e2; exact Rep1.tail Rep1.head)); exact ownRow_ex (by have h4 : ∀ cs, cs ∈ css → cs.length = 4 := (fun cs hc => by obtain ⟨i, hi, rfl⟩ := List.mem_iff_getElem.1 hc; obtain ⟨W, c, e, _⟩ := hcr i _ _ (List.getElem?_eq_getElem (by rw [← hcl]; exact hi)) (List.getElem?_eq_getElem hi); rw [e]; rfl); rw [List.length_append, flatten_length h4, hcl]; simp; omega) (by simp only [maxLen]; omega); exact fun _ _ h => StX.of2 h; rintro ⟨⟨v2, e2⟩, hrow3⟩) | (apply D.st1; exact rfl; (first | exact Wd.plain rfl | exact Wd.on rfl rfl rfl); (first | exact EvS.move rfl | exact EvS.fieldAddr rfl | (first | (apply EvS.load1; exact rfl; (first | exact Reads.memX (by assumption) | exact Reads.ownX (by repeat first | exact List.Mem.head _ | assumption | apply List.Mem.tail)); (first | assumption | exact nthL_arr rfl | exact rfl)) | (apply EvS.loadW; exact rfl; (first | exact Reads.memX (by assumption) | exact Reads.ownX (by repeat first | exact List.Mem.head _ | assumption | apply List.Mem.tail)); first | exact rfl | assumption) | (apply EvS.loadH; exact rfl; (first | exact Reads.memX (by assumption) | exact Reads.ownX (by repeat first | exact List.Mem.head _ | assumption | apply List.Mem.tail)); assumption; first | exact rfl | assumption)) | (first | exact EvS.indexAddr rfl rfl (by first | exact rfl | assumption) (by omega) | exact EvS.indexAddrA rfl rfl (by omega)))) | (apply D.chx (o := ⟨_, .buildSlice _ _ _, _, _, _, _⟩) ; exact rfl; (first | exact Wd.plain rfl | exact Wd.on rfl rfl rfl); exact EvC.buildA rfl (by exact rfl) (by exact rfl) (by decide) (by decide); exact inferInstance; exact (by first | exact fun _ _ h => StX.of0 h | exact fun _ _ h => StX.of1 h | exact fun _ _ h => StX.of2 h | exact fun _ _ h => StX.of3 h | exact fun _ _ h => StX.of h); intro g) | refine D.tail_ ?_)
      simp only at hrow3 ⊢
      have h3v := ownRow_one hrow3
      repeat' (first | (apply TR.ch0 (o := ⟨_, .store _ _ _, _, _, _, _⟩); exact rfl; exact rfl; exact Wd.plain rfl; exact EvC.store1 rfl rfl h3v (by repeat first | exact Upd.head | apply Upd.tail) (by simp); rintro ⟨⟩) | refine TC.region ?_ | refine TR.nil ?_ | refine Post.then_normal ?_ | refine Post.block_normal ?_ | (apply TR.st1; exact rfl; exact rfl; exact rfl; (first | exact Wd.plain rfl | exact Wd.on rfl rfl rfl); (first | exact EvS.move rfl | exact EvS.assign rfl | (first | exact EvS.addI rfl rfl (by omega) | exact EvS.add64 rfl rfl (by first | with_reducible exact U64.var _ | exact U64.lit rfl) (by first | with_reducible exact U64.var _ | exact U64.lit rfl)))))
      refine Post.nextP ⟨k + 1, v2, e2⟩ ⟨by simp only; omega, ?_⟩ (incl.lk (by repeat first | exact trivial | refine ⟨rfl, ?_⟩)) (fun w h => h.tail) (by simp only; omega)
      have htk1 : q.rules.take (k + 1) = q.rules.take k ++ [r] := by rw [List.take_add_one, hqr]; rfl
      refine ⟨css ++ [[.int .i64 r.kind, .slice B3 r.vars.length c3', .int .i64 r.low, .int .i64 r.high]], ?_, ?_, ?_⟩
      · rw [htk1, List.length_append, List.flatten_append]
        exact hrow3
      · rw [htk1, List.length_append, List.length_append, hcl]; rfl
      · intro i t cs hit hics
        rw [htk1] at hit
        by_cases hi : i < (q.rules.take k).length
        · rw [List.getElem?_append_left hi] at hit
          rw [List.getElem?_append_left (by omega)] at hics
          exact hcr i t cs hit hics
        · rw [List.getElem?_append_right (by omega)] at hit
          rw [List.getElem?_append_right (by omega), hcl] at hics
          cases hz : i - (q.rules.take k).length with
          | zero =>
            rw [hz] at hit hics
            simp at hit hics
            subst hit hics
            exact ⟨B3, c3', rfl, hR4, hR5⟩
          | succ j => rw [hz] at hit; simp at hit
    have hd4 : decide ((k : Int) < (lw.length : Int)) = false := by simpa using hlt2
    obtain rfl : k = lw.length := by omega
    rw [← hql, List.take_length] at hrow
    refine TC.pull (fun w h => (lend h).1) fun hle6 => ?_
    refine TC.turn (fun w h => (lend h).2) ?_
    obtain ⟨QA, qc, rfl, hQS⟩ := hrow.lent hle6 (by omega)
    obtain ⟨m6, hm6⟩ : ∃ m6, m6 = memO m5 e := ⟨_, rfl⟩
    rw [← hm6] at hle6 hQS ⊢
    have hle36 := (hle3.trans hle5).trans hle6
    have hqpc : PbC m6 q #[.slice BA p.bounds.length bc, .slice QA q.rules.length qc] := ⟨BA, bc, QA, qc, by rw [hqb], by rw [hqb]; exact hBA.mono hle36, hQS⟩
    have hse2 := fun (w : World) (L : Own) (hs : St m6 L w) => solveR_c q _ hqo hqrl (by rw [hqb]; exact hcn) 1 (by decide) m6 hqpc L w hs
    have hnp : noneP p lw = if (searchP q 1).op then (false, 8) else (((searchP q 1).sols.length : Int) == 0, 0) := by unfold noneP; rw [← hq]
    unfold coreL at hfold
    rw [← hlw, hnp] at hfold
    obtain ⟨F2, hF2⟩ : ∃ F2, F2 = searchP q 1 := ⟨_, rfl⟩
    rw [← hF2] at hse2 hfold
    cases hop2 : F2.op with
    | true =>
      rw [hop2] at hse2 hfold
      repeat' (first | (apply TR.ch1 (o := ⟨_, .call _, _, _, _, _⟩); exact rfl; exact rfl; exact rfl; (first | exact Wd.plain rfl | exact Wd.on rfl rfl rfl); exact EvC.callX rfl rfl (fun w hs => hse2 w _ hs); rintro ⟨⟨m7, A7, c7⟩, hle7, hS7⟩) | refine TC.seq ?_ | refine TC.region ?_ | refine TR.nil ?_ | refine Post.then_normal ?_ | refine TC.ret ?_ | refine TC.exit ?_ | (apply TC.cond_t; exact rfl) | (apply TC.cond_bf; exact rfl; assumption) | refine Post.then_ret ?_ | refine Post.then_exit ?_ | refine Post.block_ret ?_ | refine Post.block_here ?_ | (apply TR.st1; exact rfl; exact rfl; exact rfl; (first | exact Wd.plain rfl | exact Wd.on rfl rfl rfl); (first | exact EvS.move rfl | exact EvS.assign rfl | exact EvS.fieldAddr rfl | (first | (apply EvS.load1; exact rfl; (first | exact Reads.mem (by assumption) | exact Reads.own (by repeat first | exact List.Mem.head _ | assumption | apply List.Mem.tail)); (first | assumption | exact nthL_arr rfl | exact rfl)) | (apply EvS.loadW; exact rfl; (first | exact Reads.mem (by assumption) | exact Reads.own (by repeat first | exact List.Mem.head _ | assumption | apply List.Mem.tail)); first | exact rfl | assumption) | (apply EvS.loadH; exact rfl; (first | exact Reads.mem (by assumption) | exact Reads.own (by repeat first | exact List.Mem.head _ | assumption | apply List.Mem.tail)); assumption; first | exact rfl | assumption)) | exact EvS.len rfl | exact EvS.ltI rfl rfl)) | (apply TR.ch1 (o := ⟨_, .alloc _, _, _, _, _⟩) ; exact rfl; exact rfl; exact rfl; (first | exact Wd.plain rfl | exact Wd.on rfl rfl rfl); exact EvC.alloc; intro g) | (apply TR.ch0 (o := ⟨_, .store _ _ _, _, _, _, _⟩) ; exact rfl; exact rfl; (first | exact Wd.plain rfl | exact Wd.on rfl rfl rfl); exact EvC.storeW rfl rfl (by first | exact rfl | assumption) (by first | exact bArr_one _ | exact rfl | (intro v hv; simp at hv; rcases hv with rfl | rfl | rfl | rfl | rfl | rfl | rfl | rfl <;> rfl)) (by repeat first | exact Upd.head | apply Upd.tail) (by first | exact rfl | assumption); rintro ⟨⟩))
      refine Post.body_ret _ (ResL.two rfl (ResV.tmp rfl) (ResV.tmp rfl)) ?_
      intro w h
      rw [← hfold]
      exact ⟨⟨(m7, none, 0), hle36.trans hle7, Sl.nil⟩, rfl, h.tail.tail.tail⟩
    | false =>
      rw [hop2] at hse2 hfold
      by_cases h02 : F2.sols.length = 0
      · have hz2 : ((F2.sols.length : Int) == 0) = true := by simp [h02]
        rw [hz2] at hfold
        repeat' (first | (apply TR.ch1 (o := ⟨_, .call _, _, _, _, _⟩); exact rfl; exact rfl; exact rfl; (first | exact Wd.plain rfl | exact Wd.on rfl rfl rfl); exact EvC.callX rfl rfl (fun w hs => hse2 w _ hs); rintro ⟨⟨m7, A7, c7⟩, hle7, hS7⟩) | refine TC.seq ?_ | refine TC.region ?_ | refine TR.nil ?_ | refine Post.then_normal ?_ | refine TC.skip ?_ | refine TC.exit ?_ | (apply TC.cond_f; exact rfl) | (apply TC.cond_bt; exact rfl; assumption) | (apply TC.cond_bf; exact rfl; assumption) | refine Post.then_exit ?_ | refine Post.block_normal ?_ | refine Post.block_here ?_ | (apply TR.st1; exact rfl; exact rfl; exact rfl; (first | exact Wd.plain rfl | exact Wd.on rfl rfl rfl); (first | exact EvS.move rfl | exact EvS.assign rfl | exact EvS.fieldAddr rfl | (first | (apply EvS.load1; exact rfl; (first | exact Reads.mem (by assumption) | exact Reads.own (by repeat first | exact List.Mem.head _ | assumption | apply List.Mem.tail)); (first | assumption | exact nthL_arr rfl | exact rfl)) | (apply EvS.loadW; exact rfl; (first | exact Reads.mem (by assumption) | exact Reads.own (by repeat first | exact List.Mem.head _ | assumption | apply List.Mem.tail)); first | exact rfl | assumption) | (apply EvS.loadH; exact rfl; (first | exact Reads.mem (by assumption) | exact Reads.own (by repeat first | exact List.Mem.head _ | assumption | apply List.Mem.tail)); assumption; first | exact rfl | assumption)) | exact EvS.len rfl | (first | exact EvS.eq64 rfl rfl (by first | with_reducible exact U64.var _ | exact U64.lit rfl) (by first | with_reducible exact U64.var _ | exact U64.lit rfl) | exact EvS.eqI rfl rfl | exact EvS.eqB rfl rfl) | exact EvS.ltI rfl rfl | (first | exact EvS.subI rfl rfl (by omega) | exact EvS.sub64 rfl rfl (by first | with_reducible exact U64.var _ | exact U64.lit rfl) (by first | with_reducible exact U64.var _ | exact U64.lit rfl)))) | (apply TR.ch1 (o := ⟨_, .alloc _, _, _, _, _⟩) ; exact rfl; exact rfl; exact rfl; (first | exact Wd.plain rfl | exact Wd.on rfl rfl rfl); exact EvC.alloc; intro g) | (apply TR.ch0 (o := ⟨_, .store _ _ _, _, _, _, _⟩) ; exact rfl; exact rfl; (first | exact Wd.plain rfl | exact Wd.on rfl rfl rfl); exact EvC.storeW rfl rfl (by first | exact rfl | assumption) (by first | exact bArr_one _ | exact rfl | (intro v hv; simp at hv; rcases hv with rfl | rfl | rfl | rfl | rfl | rfl | rfl | rfl <;> rfl)) (by repeat first | exact Upd.head | apply Upd.tail) (by first | exact rfl | assumption); rintro ⟨⟩))
        exact Post.nextP ⟨i, lw, m7, A5, c5⟩ ⟨hle36.trans hle7, hSl5.mono (hle6.trans hle7), by simp only; omega, by simp only; omega, by simp only; omega, hmem2, hfold⟩ (incl.lk (by repeat first | exact trivial | refine ⟨rfl, ?_⟩)) (fun w h => h.tail.tail) (by simp only; omega)
      · have hz2 : ((F2.sols.length : Int) == 0) = false := by simp; exact fun e => h02 (by rw [e]; rfl)
        rw [hz2] at hfold
        repeat' (first | (apply TR.ch1 (o := ⟨_, .call _, _, _, _, _⟩); exact rfl; exact rfl; exact rfl; (first | exact Wd.plain rfl | exact Wd.on rfl rfl rfl); exact EvC.callX rfl rfl (fun w hs => hse2 w _ hs); rintro ⟨⟨m7, A7, c7⟩, hle7, hS7⟩) | refine TC.seq ?_ | refine TC.region ?_ | refine TR.nil ?_ | refine Post.then_normal ?_ | refine TC.skip ?_ | refine TC.exit ?_ | (apply TC.cond_f; exact rfl) | (apply TC.cond_bf; exact rfl; assumption) | refine Post.then_exit ?_ | refine Post.block_normal ?_ | refine Post.block_here ?_ | (apply TR.st1; exact rfl; exact rfl; exact rfl; (first | exact Wd.plain rfl | exact Wd.on rfl rfl rfl); (first | exact EvS.move rfl | exact EvS.assign rfl | exact EvS.fieldAddr rfl | (first | (apply EvS.load1; exact rfl; (first | exact Reads.mem (by assumption) | exact Reads.own (by repeat first | exact List.Mem.head _ | assumption | apply List.Mem.tail)); (first | assumption | exact nthL_arr rfl | exact rfl)) | (apply EvS.loadW; exact rfl; (first | exact Reads.mem (by assumption) | exact Reads.own (by repeat first | exact List.Mem.head _ | assumption | apply List.Mem.tail)); first | exact rfl | assumption) | (apply EvS.loadH; exact rfl; (first | exact Reads.mem (by assumption) | exact Reads.own (by repeat first | exact List.Mem.head _ | assumption | apply List.Mem.tail)); assumption; first | exact rfl | assumption)) | exact EvS.len rfl | (first | exact EvS.eq64 rfl rfl (by first | with_reducible exact U64.var _ | exact U64.lit rfl) (by first | with_reducible exact U64.var _ | exact U64.lit rfl) | exact EvS.eqI rfl rfl | exact EvS.eqB rfl rfl) | exact EvS.ltI rfl rfl | (first | exact EvS.subI rfl rfl (by omega) | exact EvS.sub64 rfl rfl (by first | with_reducible exact U64.var _ | exact U64.lit rfl) (by first | with_reducible exact U64.var _ | exact U64.lit rfl)))) | (apply TR.ch1 (o := ⟨_, .alloc _, _, _, _, _⟩) ; exact rfl; exact rfl; exact rfl; (first | exact Wd.plain rfl | exact Wd.on rfl rfl rfl); exact EvC.alloc; intro g) | (apply TR.ch0 (o := ⟨_, .store _ _ _, _, _, _, _⟩) ; exact rfl; exact rfl; (first | exact Wd.plain rfl | exact Wd.on rfl rfl rfl); exact EvC.storeW rfl rfl (by first | exact rfl | assumption) (by first | exact bArr_one _ | exact rfl | (intro v hv; simp at hv; rcases hv with rfl | rfl | rfl | rfl | rfl | rfl | rfl | rfl <;> rfl)) (by repeat first | exact Upd.head | apply Upd.tail) (by first | exact rfl | assumption); rintro ⟨⟩))
        exact Post.nextP ⟨i, l, m7, _, c3⟩ ⟨hle36.trans hle7, hSl3.mono ((hle5.trans hle6).trans hle7), hlc3, by simp only; omega, hl12, hmem, hfold⟩ (incl.lk (by repeat first | exact trivial | refine ⟨rfl, ?_⟩)) (fun w h => h.tail.tail) (by simp only; omega)
end Go.Proofs.YtgpgjpcebajofaaDoor
set_option maxHeartbeats 4000000
set_option linter.unusedVariables false
set_option linter.unusedSimpArgs false
set_option maxRecDepth 100000
namespace Go.Proofs.YtgpgjpcebajofaaDoor
open Go Go.XC Go.RowKit Go.SetsP
attribute [local irreducible] Post TC TR D WL EvS EvC Wd ResL Code.wpIn Exit.then Exit.inBlock Exit.noGoto LoopK LoopP bodyPostM Reads Calls

theorem Sl.ofBlk {m : Mem} {sz g T : Nat} {fr : Nat × Nat} {css : List (List Value)} (hl : ∀ cs, cs ∈ css → cs.length = sz) (hb : css.length ≤ 140737488355328) (h : m.blk g = some (.cells css.flatten.toArray T fr)) : Sl m sz (some ⟨g, 0, none⟩) css :=
  ⟨hl, hb, fun _ => ⟨g, 0, _, T, fr, rfl, h, fun i cs hi j u hj => by simpa using flatten_at css i cs hl hi j u hj⟩⟩
theorem freezeAll : ∀ (es : Own) {m : Mem} {L : Own} {w : World}, St m (es ++ L) w → ∃ m', m.Le m' ∧ (∀ g o, some (g, o) ∈ es → m'.blk g = some o) ∧ St m' L w := by
  intro es
  induction es with
  | nil => intro m L w h; exact ⟨m, Mem.Le.refl _, fun g o h => (by cases h), h⟩
  | cons e es ih =>
    intro m L w h
    obtain ⟨l1, l2⟩ := lend h
    obtain ⟨m', k1, k2, k3⟩ := ih l2
    refine ⟨m', l1.trans k1, fun g o hx => ?_, k3⟩
    rcases List.mem_cons.1 hx with hx | hx
    · subst hx
      exact k1.blk g o (Mem.put_same m g o)
    · exact k2 g o hx
def RlL (m : Mem) : List Rl → List (List Value) → Prop
  | [], [] => True
  | r :: rs, cs :: css => RlC m r cs ∧ RlL m rs css
  | _, _ => False
theorem RlL.s {m : Mem} : ∀ {rs : List Rl} {css : List (List Value)}, RlL m rs css → css.length = rs.length ∧ ∀ (i : Nat) (r : Rl) (cs : List Value), rs[i]? = some r → css[i]? = some cs → RlC m r cs := by
  intro rs
  induction rs with
  | nil => intro css h; cases css with
    | nil => exact ⟨rfl, fun i r cs h => by simp at h⟩
    | cons => exact h.elim
  | cons r rs ih => intro css h; cases css with
    | nil => exact h.elim
    | cons cs css =>
      obtain ⟨h1, h2⟩ := ih h.2
      refine ⟨by simp [h1], fun i r' cs' hi hj => ?_⟩
      cases i with
      | zero => simp at hi hj; subst hi hj; exact h.1
      | succ i => exact h2 i r' cs' (by simpa using hi) (by simpa using hj)
theorem RlC.of {m : Mem} {k lo hi : Int} {vs : List Int} {g n c T : Nat} {fr : Nat × Nat} (hn : n = vs.length) (hc : n ≤ c) (hb : vs.length ≤ 140737488355328) (h : m.blk g = some (.cells (ints vs).flatten.toArray T fr)) : RlC m ⟨k, vs, lo, hi⟩ [.int .i64 k, .slice (some ⟨g, 0, none⟩) n c, .int .i64 lo, .int .i64 hi] :=
  ⟨some ⟨g, 0, none⟩, c, by rw [hn], Sl.ofBlk (ints_len _) (by rw [ints_length]; exact hb) h, by rw [← hn]; exact hc⟩
/-- A problem in memory that may have grown. -/
def PS (m : Mem) (p : Pb) (L : Own) (pcs : Array Value) (w : World) : Prop := ∃ m', m.Le m' ∧ PbC m' p pcs ∧ St m' L w

def PA : Pb := ⟨[⟨0, 7⟩, ⟨0, 7⟩, ⟨0, 7⟩], [⟨3, [0, 1, 2], 0, 0⟩, ⟨2, [0, 1], 0, 0⟩, ⟨6, [2], 3, 3⟩, ⟨6, [0], 2, 3⟩]⟩
def PB : Pb := ⟨[⟨0, 7⟩, ⟨1, 5⟩, ⟨0, 7⟩], PA.rules⟩
def PC : Pb := ⟨PA.bounds, PA.rules ++ [⟨1, [2, 1], 0, 0⟩]⟩
theorem pa_ok : checkB PA = true := by kernel_rfl
theorem pb_ok : checkB PB = true := by kernel_rfl
theorem pc_ok : checkB PC = true := by kernel_rfl
theorem pa_holds : holdsB PA [3, 6, 7] = (1, 0) := by kernel_rfl
theorem pb_n : (propS PB).2 = -1 := by kernel_rfl
theorem pb_b : (propS PB).1.b.take PB.bounds.length = [⟨6, 6⟩, ⟨1, 1⟩, ⟨7, 7⟩] := by kernel_rfl
def factsB : List Fc := [⟨2, 0, true, 0, []⟩, ⟨0, 0, false, 1, []⟩, ⟨2, 1, true, 2, []⟩, ⟨2, 2, true, 2, []⟩, ⟨0, 1, true, 3, [1]⟩, ⟨0, 2, true, 3, [1]⟩, ⟨1, 2, false, 1, [5]⟩]
theorem pb_f : (propS PB).1.fs = factsB := by kernel_rfl
def solsA : List (List BV) := [[7, 0, 7], [3, 4, 7], [5, 2, 7], [6, 1, 7]]
theorem pa_s : solveP PA 9 = (solsA, 7, 0) := by kernel_rfl
theorem pc_c : coreP PC = ([0, 1, 3, 4], 0) := by kernel_rfl

theorem lrule_c (k lo hi : Int) (B : Option Addr) (n c : Nat) (m : Mem) (L : Own) (w : World) (hs : St m L w) :
    Calls Tryd.prog 37 #[.int .i64 k, .int .i64 lo, .int .i64 hi, .slice B n c] w fun x w' => x = .returned (.agg #[.int .i64 k, .slice B n c, .int .i64 lo, .int .i64 hi]) ∧ St m L w' := by
  refine calls_of_TC (args := [_, _, _, _]) Tryd.func37 rfl Tryd.ntmps37 (Nat.le_of_ble_eq_true rfl) hs ?_
  repeat' (first | refine TC.seq ?_ | refine TC.region ?_ | refine TR.nil ?_ | refine Post.then_normal ?_ | refine TC.ret ?_ | (apply TR.st1; exact rfl; exact rfl; exact rfl; (first | exact Wd.plain rfl | exact Wd.on rfl rfl rfl); (first | exact EvS.buildV rfl (by kernel_rfl) | exact EvS.move rfl)) | (apply TR.ch1 (o := ⟨_, .alloc _, _, _, _, _⟩) ; exact rfl; exact rfl; exact rfl; (first | exact Wd.plain rfl | exact Wd.on rfl rfl rfl); exact EvC.alloc; intro g) | (apply TR.ch0 (o := ⟨_, .store _ _ _, _, _, _, _⟩) ; exact rfl; exact rfl; (first | exact Wd.plain rfl | exact Wd.on rfl rfl rfl); exact EvC.storeW rfl rfl (by first | exact rfl | assumption) (by first | exact bArr_one _ | exact rfl | (intro v hv; simp at hv; rcases hv with rfl | rfl | rfl | rfl | rfl | rfl | rfl | rfl <;> rfl)) (by repeat first | exact Upd.head | apply Upd.tail) (by first | exact rfl | assumption); rintro ⟨⟩))
  refine Post.body_ret _ (ResL.one rfl (ResV.cellW (n := 4) rfl (Reads.own (by repeat first | exact List.Mem.head _ | apply List.Mem.tail)) rfl)) ?_
  intro w h
  exact ⟨rfl, h.tail⟩
theorem A_c (m : Mem) (L : Own) (w : World) (hs : St m L w) :
    Calls Tryd.prog 16 #[] w fun x w' => ∃ y : Nat × Nat × Nat × Nat × Nat × Nat, x = .returned (.agg #[.slice (some ⟨y.1, 0, none⟩) 3 3, .slice (some ⟨y.2.1, 0, none⟩) 4 4]) ∧
      St m (some (y.2.1, .cells #[.int .i64 3, .slice (some ⟨y.2.2.1, 0, none⟩) 3 3, .int .i64 0, .int .i64 0, .int .i64 2, .slice (some ⟨y.2.2.2.1, 0, none⟩) 2 2, .int .i64 0, .int .i64 0, .int .i64 6, .slice (some ⟨y.2.2.2.2.1, 0, none⟩) 1 1, .int .i64 3, .int .i64 3, .int .i64 6, .slice (some ⟨y.2.2.2.2.2, 0, none⟩) 1 1, .int .i64 2, .int .i64 3] 44 (0, 0)) ::
        some (y.2.2.2.2.2, .cells #[.int .i64 0] 3 (0, 0)) :: some (y.2.2.2.2.1, .cells #[.int .i64 2] 3 (0, 0)) :: some (y.2.2.2.1, .cells #[.int .i64 0, .int .i64 1] 3 (0, 0)) :: some (y.2.2.1, .cells #[.int .i64 0, .int .i64 1, .int .i64 2] 3 (0, 0)) ::
        some (y.1, .cells #[.int .u64 0, .int .u64 7, .int .u64 0, .int .u64 7, .int .u64 0, .int .u64 7] 48 (0, 0)) :: L) w' := by
  refine calls_of_TC (args := []) Tryd.func16 rfl Tryd.ntmps16 (Nat.le_of_ble_eq_true rfl) hs ?_
  repeat' (first | (apply TR.ch1; exact rfl; exact rfl; exact rfl; (first | exact Wd.plain rfl | exact Wd.on rfl rfl rfl); (first | exact EvC.buildN (n := 3) (sz := 2) (cells := #[.int .u64 0, .int .u64 7, .int .u64 0, .int .u64 7, .int .u64 0, .int .u64 7]) rfl (by decide) (by decide) (by kernel_rfl) | exact EvC.buildN (n := 3) (sz := 1) (vs := [.int .i64 0, .int .i64 1, .int .i64 2]) (cells := #[.int .i64 0, .int .i64 1, .int .i64 2]) rfl (by decide) (by decide) (by kernel_rfl) | exact EvC.buildN (n := 2) (sz := 1) (vs := [.int .i64 0, .int .i64 1]) (cells := #[.int .i64 0, .int .i64 1]) rfl (by decide) (by decide) (by kernel_rfl) | exact EvC.buildN (n := 1) (sz := 1) (vs := [.int .i64 2]) (cells := #[.int .i64 2]) rfl (by decide) (by decide) (by kernel_rfl) | exact EvC.buildN (n := 1) (sz := 1) (vs := [.int .i64 0]) (cells := #[.int .i64 0]) rfl (by decide) (by decide) (by kernel_rfl)); intro g) | (apply TR.ch1 (o := ⟨_, .call _, _, _, _, _⟩); exact rfl; exact rfl; exact rfl; (first | exact Wd.plain rfl | exact Wd.on rfl rfl rfl); exact EvC.callV rfl rfl (fun w hs => lrule_c _ _ _ _ _ _ _ _ w hs); rintro ⟨⟩) | refine TC.seq ?_ | refine TC.region ?_ | refine TR.nil ?_ | refine Post.then_normal ?_ | (apply TR.st1 (o := ⟨_, .build _ _, _, _, _, _⟩); exact rfl; exact rfl; exact rfl; (first | exact Wd.plain rfl | exact Wd.on rfl rfl rfl); exact EvS.buildC (cells := #[.int .u64 0, .int .u64 7]) rfl (by kernel_rfl)) | (apply TR.ch1 (o := ⟨_, .alloc _, _, _, _, _⟩) ; exact rfl; exact rfl; exact rfl; (first | exact Wd.plain rfl | exact Wd.on rfl rfl rfl); exact EvC.alloc; intro g))
  rename_i g0 gb g1 g2 g3
  obtain ⟨g4, hg4⟩ : ∃ x, x = g := ⟨_, rfl⟩
  subst hg4
  (apply TR.ch1 (o := ⟨_, .buildSlice _ _ _, _, _, _, _⟩); exact rfl; exact rfl; exact rfl; exact Wd.plain rfl; exact EvC.buildN (n := 4) (sz := 4) (cells := #[.int .i64 3, .slice (some ⟨g1, 0, none⟩) 3 3, .int .i64 0, .int .i64 0, .int .i64 2, .slice (some ⟨g2, 0, none⟩) 2 2, .int .i64 0, .int .i64 0, .int .i64 6, .slice (some ⟨g3, 0, none⟩) 1 1, .int .i64 3, .int .i64 3, .int .i64 6, .slice (some ⟨g4, 0, none⟩) 1 1, .int .i64 2, .int .i64 3]) rfl (by decide) (by decide) (by kernel_rfl); intro gr)
  repeat' (first | refine TR.nil ?_ | refine Post.then_normal ?_ | refine TC.ret ?_ | (apply TR.st1 (o := ⟨_, .build _ _, _, _, _, _⟩); exact rfl; exact rfl; exact rfl; (first | exact Wd.plain rfl | exact Wd.on rfl rfl rfl); exact EvS.buildV rfl (by kernel_rfl)) | (apply TR.ch0 (o := ⟨_, .store _ _ _, _, _, _, _⟩) ; exact rfl; exact rfl; (first | exact Wd.plain rfl | exact Wd.on rfl rfl rfl); exact EvC.storeW rfl rfl (by first | exact rfl | assumption) (by first | exact bArr_one _ | exact rfl | (intro v hv; simp at hv; rcases hv with rfl | rfl | rfl | rfl | rfl | rfl | rfl | rfl <;> rfl)) (by repeat first | exact Upd.head | apply Upd.tail) (by first | exact rfl | assumption); rintro ⟨⟩))
  refine Post.body_ret _ (ResL.one rfl (ResV.cellW (n := 2) rfl (Reads.own (by repeat first | exact List.Mem.head _ | apply List.Mem.tail)) rfl)) ?_
  intro w h
  exact ⟨(gb, gr, g1, g2, g3, g4), rfl, h.sublist (List.Sublist.cons_cons _ (List.Sublist.cons_cons _ (List.Sublist.cons_cons _ (List.Sublist.cons_cons _ (List.Sublist.cons_cons _ (List.Sublist.cons_cons _ (List.Sublist.cons _ (List.Sublist.refl _))))))))⟩
theorem pa_rules {m : Mem} {g1 g2 g3 g4 T1 T2 T3 T4 : Nat} {f1 f2 f3 f4 : Nat × Nat} (h1 : m.blk g1 = some (.cells #[.int .i64 0, .int .i64 1, .int .i64 2] T1 f1)) (h2 : m.blk g2 = some (.cells #[.int .i64 0, .int .i64 1] T2 f2)) (h3 : m.blk g3 = some (.cells #[.int .i64 2] T3 f3)) (h4 : m.blk g4 = some (.cells #[.int .i64 0] T4 f4)) :
    RlL m PA.rules [[.int .i64 3, .slice (some ⟨g1, 0, none⟩) 3 3, .int .i64 0, .int .i64 0], [.int .i64 2, .slice (some ⟨g2, 0, none⟩) 2 2, .int .i64 0, .int .i64 0], [.int .i64 6, .slice (some ⟨g3, 0, none⟩) 1 1, .int .i64 3, .int .i64 3], [.int .i64 6, .slice (some ⟨g4, 0, none⟩) 1 1, .int .i64 2, .int .i64 3]] :=
  ⟨RlC.of rfl (by decide) (by decide) h1, RlC.of rfl (by decide) (by decide) h2, RlC.of rfl (by decide) (by decide) h3, RlC.of rfl (by decide) (by decide) h4, trivial⟩
theorem len4 {a b c d : List Value} (ha : a.length = 4) (hb : b.length = 4) (hc : c.length = 4) (hd : d.length = 4) : ∀ cs, cs ∈ [a, b, c, d] → cs.length = 4 := by
  intro cs h
  simp at h
  rcases h with rfl | rfl | rfl | rfl <;> assumption
theorem PA_of {m : Mem} {L : Own} {w : World} {gb gr g1 g2 g3 g4 T0 T1 T2 T3 T4 T5 : Nat} {b : List Bd} (hb : b.length = 3)
    (hs : St m (some (gr, .cells #[.int .i64 3, .slice (some ⟨g1, 0, none⟩) 3 3, .int .i64 0, .int .i64 0, .int .i64 2, .slice (some ⟨g2, 0, none⟩) 2 2, .int .i64 0, .int .i64 0, .int .i64 6, .slice (some ⟨g3, 0, none⟩) 1 1, .int .i64 3, .int .i64 3, .int .i64 6, .slice (some ⟨g4, 0, none⟩) 1 1, .int .i64 2, .int .i64 3] T0 (0, 0)) :: some (g4, .cells #[.int .i64 0] T4 (0, 0)) :: some (g3, .cells #[.int .i64 2] T3 (0, 0)) :: some (g2, .cells #[.int .i64 0, .int .i64 1] T2 (0, 0)) :: some (g1, .cells #[.int .i64 0, .int .i64 1, .int .i64 2] T1 (0, 0)) :: some (gb, .cells (bds b).flatten.toArray T5 (0, 0)) :: L) w) :
    PS m ⟨b, PA.rules⟩ L #[.slice (some ⟨gb, 0, none⟩) 3 3, .slice (some ⟨gr, 0, none⟩) 4 4] w := by
  obtain ⟨m', k1, k2, k3⟩ := freezeAll [_, _, _, _, _, _] hs
  refine ⟨m', k1, ⟨some ⟨gb, 0, none⟩, 3, some ⟨gr, 0, none⟩, 4, by simp only [hb]; rfl, Sl.ofBlk (bds_len _) (by rw [bds_length, hb]; decide) (k2 gb _ (.tail _ (.tail _ (.tail _ (.tail _ (.tail _ (.head _))))))), ⟨⟨_, Sl.ofBlk (len4 rfl rfl rfl rfl) (by simp) (k2 gr _ (List.Mem.head _)), (pa_rules (k2 g1 _ (.tail _ (.tail _ (.tail _ (.tail _ (.head _)))))) (k2 g2 _ (.tail _ (.tail _ (.tail _ (.head _))))) (k2 g3 _ (.tail _ (.tail _ (.head _)))) (k2 g4 _ (.tail _ (.head _)))).s⟩⟩⟩, k3⟩
theorem A_p (m : Mem) (L : Own) (w : World) (hs : St m L w) :
    Calls Tryd.prog 16 #[] w fun x w' => ∃ pcs : Array Value, x = .returned (.agg pcs) ∧ PS m PA L pcs w' :=
  (A_c m L w hs).mono fun x w' ⟨⟨gb, gr, g1, g2, g3, g4⟩, h1, h2⟩ => ⟨_, h1, PA_of (b := PA.bounds) rfl h2⟩
theorem Sl.ofBlkJ {m : Mem} {sz g T : Nat} {fr : Nat × Nat} {css : List (List Value)} {junk : List Value} (hl : ∀ cs, cs ∈ css → cs.length = sz) (hb : css.length ≤ 140737488355328) (h : m.blk g = some (.cells (css.flatten ++ junk).toArray T fr)) : Sl m sz (some ⟨g, 0, none⟩) css :=
  ⟨hl, hb, fun _ => ⟨g, 0, _, T, fr, rfl, h, fun i cs hi j u hj => by
    have h1 := flatten_at css i cs hl hi j u hj
    simp only [Nat.zero_add, List.getElem?_toArray]
    rw [List.getElem?_append_left (List.getElem?_eq_some_iff.1 h1).1]; exact h1⟩⟩
theorem B_p (m : Mem) (L : Own) (w : World) (hs : St m L w) :
    Calls Tryd.prog 18 #[] w fun x w' => ∃ pcs : Array Value, x = .returned (.agg pcs) ∧ PS m PB L pcs w' := by
  refine calls_of_TC (args := []) Tryd.func18 rfl Tryd.ntmps18 (Nat.le_of_ble_eq_true rfl) hs ?_
  repeat' (first | (apply TR.ch1 (o := ⟨_, .call _, _, _, _, _⟩); exact rfl; exact rfl; exact rfl; (first | exact Wd.plain rfl | exact Wd.on rfl rfl rfl); exact EvC.callX rfl rfl (fun w hs => A_c m _ w hs); rintro ⟨gb, gr, g1, g2, g3, g4⟩) | refine TC.seq ?_ | refine TC.region ?_ | refine TR.nil ?_ | refine Post.then_normal ?_ | (apply TR.st1; exact rfl; exact rfl; exact rfl; (first | exact Wd.plain rfl | exact Wd.on rfl rfl rfl); (first | exact EvS.buildC (cells := #[.int .u64 1, .int .u64 5]) rfl (by kernel_rfl) | exact EvS.fieldAddr rfl | (first | (apply EvS.load1; exact rfl; (first | exact Reads.mem (by assumption) | exact Reads.own (by repeat first | exact List.Mem.head _ | assumption | apply List.Mem.tail)); (first | assumption | exact nthL_arr rfl | exact rfl)) | (apply EvS.loadW; exact rfl; (first | exact Reads.mem (by assumption) | exact Reads.own (by repeat first | exact List.Mem.head _ | assumption | apply List.Mem.tail)); first | exact rfl | assumption) | (apply EvS.loadH; exact rfl; (first | exact Reads.mem (by assumption) | exact Reads.own (by repeat first | exact List.Mem.head _ | assumption | apply List.Mem.tail)); assumption; first | exact rfl | assumption)) | (first | exact EvS.indexAddr rfl rfl (by first | exact rfl | assumption) (by omega) | exact EvS.indexAddrA rfl rfl (by omega)))) | (apply TR.ch1 (o := ⟨_, .alloc _, _, _, _, _⟩) ; exact rfl; exact rfl; exact rfl; (first | exact Wd.plain rfl | exact Wd.on rfl rfl rfl); exact EvC.alloc; intro g) | (apply TR.ch0 (o := ⟨_, .store _ _ _, _, _, _, _⟩) ; exact rfl; exact rfl; (first | exact Wd.plain rfl | exact Wd.on rfl rfl rfl); exact EvC.storeW rfl rfl (by first | exact rfl | assumption) (by first | exact bArr_one _ | exact rfl | (intro v hv; simp at hv; rcases hv with rfl | rfl | rfl | rfl | rfl | rfl | rfl | rfl <;> rfl)) (by repeat first | exact Upd.head | apply Upd.tail) (by first | exact rfl | assumption); rintro ⟨⟩))
  simp only
  repeat' (first | (apply TR.ch0 (o := ⟨_, .store _ _ _, _, _, _, _⟩); exact rfl; exact rfl; exact Wd.plain rfl; exact EvC.storeN (n := 2) rfl rfl rfl (fun v hv => by simp at hv; rcases hv with rfl | rfl <;> rfl) (by repeat first | exact Upd.head | apply Upd.tail) (by decide); rintro ⟨⟩) | refine TC.seq ?_ | refine TC.region ?_ | refine TR.nil ?_ | refine Post.then_normal ?_ | refine TC.ret ?_ | (apply TR.st1 (o := ⟨_, .load _ _, _, _, _, _⟩); exact rfl; exact rfl; exact rfl; (first | exact Wd.plain rfl | exact Wd.on rfl rfl rfl); (first | (apply EvS.load1; exact rfl; (first | exact Reads.mem (by assumption) | exact Reads.own (by repeat first | exact List.Mem.head _ | assumption | apply List.Mem.tail)); (first | assumption | exact nthL_arr rfl | exact rfl)) | (apply EvS.loadW; exact rfl; (first | exact Reads.mem (by assumption) | exact Reads.own (by repeat first | exact List.Mem.head _ | assumption | apply List.Mem.tail)); first | exact rfl | assumption) | (apply EvS.loadH; exact rfl; (first | exact Reads.mem (by assumption) | exact Reads.own (by repeat first | exact List.Mem.head _ | assumption | apply List.Mem.tail)); assumption; first | exact rfl | assumption))))
  refine Post.body_ret _ (ResL.one rfl (ResV.cellW (n := 2) rfl (Reads.own (by repeat first | exact List.Mem.head _ | apply List.Mem.tail)) rfl)) ?_
  intro w h
  exact ⟨_, rfl, PA_of (b := PB.bounds) rfl (h.sublist (List.Sublist.cons _ ((List.Sublist.cons_cons _ (List.Sublist.cons_cons _ (List.Sublist.cons_cons _ (List.Sublist.cons_cons _ (List.Sublist.cons_cons _ (List.Sublist.cons_cons _ (List.Sublist.cons _ (List.Sublist.refl _)))))))))))⟩
theorem C_p (m : Mem) (L : Own) (w : World) (hs : St m L w) :
    Calls Tryd.prog 19 #[] w fun x w' => ∃ pcs : Array Value, x = .returned (.agg pcs) ∧ PS m PC L pcs w' := by
  refine calls_of_TC (args := []) Tryd.func19 rfl Tryd.ntmps19 (Nat.le_of_ble_eq_true rfl) hs ?_
  repeat' (first | (apply TR.ch1 (o := ⟨_, .call _, _, _, _, _⟩); exact rfl; exact rfl; exact rfl; (first | exact Wd.plain rfl | exact Wd.on rfl rfl rfl); exact EvC.callX rfl rfl (fun w hs => A_c m _ w hs); rintro ⟨gb, gr, g1, g2, g3, g4⟩) | refine TC.seq ?_ | refine TC.region ?_ | refine TR.nil ?_ | refine Post.then_normal ?_ | (apply TR.ch1 (o := ⟨_, .alloc _, _, _, _, _⟩) ; exact rfl; exact rfl; exact rfl; (first | exact Wd.plain rfl | exact Wd.on rfl rfl rfl); exact EvC.alloc; intro g) | (apply TR.ch0 (o := ⟨_, .store _ _ _, _, _, _, _⟩) ; exact rfl; exact rfl; (first | exact Wd.plain rfl | exact Wd.on rfl rfl rfl); exact EvC.storeW rfl rfl (by first | exact rfl | assumption) (by first | exact bArr_one _ | exact rfl | (intro v hv; simp at hv; rcases hv with rfl | rfl | rfl | rfl | rfl | rfl | rfl | rfl <;> rfl)) (by repeat first | exact Upd.head | apply Upd.tail) (by first | exact rfl | assumption); rintro ⟨⟩))
  simp only
  rename_i g0
  obtain ⟨gp, hgp⟩ : ∃ x, x = g := ⟨_, rfl⟩
  subst hgp
  obtain ⟨xs, hxs⟩ : ∃ xs : Array Value, xs = #[.int .i64 3, .slice (some ⟨g1, 0, none⟩) 3 3, .int .i64 0, .int .i64 0, .int .i64 2, .slice (some ⟨g2, 0, none⟩) 2 2, .int .i64 0, .int .i64 0, .int .i64 6, .slice (some ⟨g3, 0, none⟩) 1 1, .int .i64 3, .int .i64 3, .int .i64 6, .slice (some ⟨g4, 0, none⟩) 1 1, .int .i64 2, .int .i64 3] := ⟨_, rfl⟩
  have hrow : OwnRow (.slice (some ⟨gr, 0, none⟩) 4 4) 44 4 4 xs.toList (some (gr, .cells xs 44)) := OwnRow.lit (by rw [hxs]; rfl) (by decide)
  have hxl : xs.toList.length = 16 := by rw [hxs]; rfl
  rw [← hxs]
  refine TC.turn (fun w h => h.perm (List.Perm.swap _ _ _)) ?_
  refine TC.draw' (L1 := [some (gr, .cells xs 44 (0, 0))]) [.st, .st, .ch, .ch, .ch, .ch, .st] mixed rfl (by kernel_rfl) ?_
  repeat' (first | (apply D.chx (o := ⟨_, .buildSlice _ _ _, _, _, _, _⟩); exact rfl; exact Wd.plain rfl; exact EvC.buildN (n := 2) (sz := 1) (vs := [.int .i64 2, .int .i64 1]) (cells := #[.int .i64 2, .int .i64 1]) rfl (by decide) (by decide) (by kernel_rfl); exact inferInstance; exact fun _ _ h => StX.of2 h; intro g5) | (apply D.chx (o := ⟨_, .call _, _, _, _, _⟩); exact rfl; (first | exact Wd.plain rfl | exact Wd.on rfl rfl rfl); exact EvC.callV rfl rfl (fun w hs => lrule_c _ _ _ _ _ _ _ _ w hs); exact inferInstance; exact (by first | exact fun _ _ h => StX.of0 h | exact fun _ _ h => StX.of1 h | exact fun _ _ h => StX.of2 h | exact fun _ _ h => StX.of3 h | exact fun _ _ h => StX.of h); rintro ⟨⟩) | (apply D.chx (o := ⟨_, .call _, _, _, _, _⟩); exact rfl; exact Wd.plain rfl; (apply EvC.append; exact rfl; exact rfl; exact hrow; exact Rep1.tail (Rep1.tail Rep1.head); (apply RdC.whole; (first | exact Reads.mem (by assumption) | exact Reads.own (by repeat first | exact List.Mem.head _ | assumption | apply List.Mem.tail))); exact rfl; exact (by first | exact (fun v hv => by simp at hv; rcases hv with rfl | rfl | rfl | rfl | rfl | rfl | rfl | rfl <;> rfl) | exact (fun v hv => by simp at hv; rcases hv with rfl | rfl | rfl | rfl | rfl | rfl | rfl <;> rfl) | exact (fun v hv => by simp at hv; rcases hv with rfl | rfl | rfl | rfl <;> rfl) | exact (fun v hv => by simp at hv; rcases hv with rfl | rfl <;> rfl) | exact (fun v hv => by simp at hv; subst hv; rfl)); exact rfl; decide; omega; (intro e2; exact Rep1.tail (Rep1.tail Rep1.head))); exact ownRow_ex (by rw [List.length_append, hxl]; rfl) (by decide); exact fun _ _ h => StX.of3 h; rintro ⟨⟨v2, e2⟩, hrow3⟩) | (apply D.st1; exact rfl; (first | exact Wd.plain rfl | exact Wd.on rfl rfl rfl); (first | exact EvS.fieldAddr rfl | (first | (apply EvS.load1; exact rfl; (first | exact Reads.memX (by assumption) | exact Reads.ownX (by repeat first | exact List.Mem.head _ | assumption | apply List.Mem.tail)); (first | assumption | exact nthL_arr rfl | exact rfl)) | (apply EvS.loadW; exact rfl; (first | exact Reads.memX (by assumption) | exact Reads.ownX (by repeat first | exact List.Mem.head _ | assumption | apply List.Mem.tail)); first | exact rfl | assumption) | (apply EvS.loadH; exact rfl; (first | exact Reads.memX (by assumption) | exact Reads.ownX (by repeat first | exact List.Mem.head _ | assumption | apply List.Mem.tail)); assumption; first | exact rfl | assumption)))) | (apply D.chx (o := ⟨_, .buildSlice _ _ _, _, _, _, _⟩) ; exact rfl; (first | exact Wd.plain rfl | exact Wd.on rfl rfl rfl); exact EvC.buildA rfl (by exact rfl) (by exact rfl) (by decide) (by decide); exact inferInstance; exact (by first | exact fun _ _ h => StX.of0 h | exact fun _ _ h => StX.of1 h | exact fun _ _ h => StX.of2 h | exact fun _ _ h => StX.of3 h | exact fun _ _ h => StX.of h); intro g) | refine D.tail_ ?_)
  simp only at hrow3 ⊢
  rcases hrow3 with ⟨_, h0, _, _⟩ | ⟨g6, cap, junk, rfl, hc1, hc2, hlen, hjl, rfl⟩
  · omega
  repeat' (first | refine TC.seq ?_ | refine TC.region ?_ | refine TR.nil ?_ | refine Post.then_normal ?_ | refine TC.ret ?_ | (apply TR.st1 (o := ⟨_, .load _ _, _, _, _, _⟩); exact rfl; exact rfl; exact rfl; (first | exact Wd.plain rfl | exact Wd.on rfl rfl rfl); (first | (apply EvS.load1; exact rfl; (first | exact Reads.mem (by assumption) | exact Reads.own (by repeat first | exact List.Mem.head _ | assumption | apply List.Mem.tail)); (first | assumption | exact nthL_arr rfl | exact rfl)) | (apply EvS.loadW; exact rfl; (first | exact Reads.mem (by assumption) | exact Reads.own (by repeat first | exact List.Mem.head _ | assumption | apply List.Mem.tail)); first | exact rfl | assumption) | (apply EvS.loadH; exact rfl; (first | exact Reads.mem (by assumption) | exact Reads.own (by repeat first | exact List.Mem.head _ | assumption | apply List.Mem.tail)); assumption; first | exact rfl | assumption))) | (apply TR.ch0 (o := ⟨_, .store _ _ _, _, _, _, _⟩) ; exact rfl; exact rfl; (first | exact Wd.plain rfl | exact Wd.on rfl rfl rfl); exact EvC.store1 rfl rfl rfl (by repeat first | exact Upd.head | apply Upd.tail) (by first | assumption | exact Nat.lt_of_sub_eq_succ rfl | (simp; omega) | simp); rintro ⟨⟩) | (apply TR.ch0 (o := ⟨_, .store _ _ _, _, _, _, _⟩) ; exact rfl; exact rfl; (first | exact Wd.plain rfl | exact Wd.on rfl rfl rfl); exact EvC.storeW rfl rfl (by first | exact rfl | assumption) (by first | exact bArr_one _ | exact rfl | (intro v hv; simp at hv; rcases hv with rfl | rfl | rfl | rfl | rfl | rfl | rfl | rfl <;> rfl)) (by repeat first | exact Upd.head | apply Upd.tail) (by first | exact rfl | assumption); rintro ⟨⟩))
  refine Post.body_ret _ (ResL.one rfl (ResV.cellW (n := 2) rfl (Reads.own (by repeat first | exact List.Mem.head _ | apply List.Mem.tail)) rfl)) ?_
  intro w h
  obtain ⟨m', k1, k2, k3⟩ := freezeAll [_, _, _, _, _, _, _, _, _, _] h
  refine ⟨_, rfl, m', k1, ⟨some ⟨gb, 0, none⟩, 3, some ⟨g6, 0, none⟩, cap, rfl, Sl.ofBlk (css := bds PC.bounds) (bds_len _) (by decide) (k2 gb _ (.tail _ (.tail _ (.tail _ (.tail _ (.tail _ (.tail _ (.tail _ (.tail _ (.head _)))))))))), ⟨⟨[[.int .i64 3, .slice (some ⟨g1, 0, none⟩) 3 3, .int .i64 0, .int .i64 0], [.int .i64 2, .slice (some ⟨g2, 0, none⟩) 2 2, .int .i64 0, .int .i64 0], [.int .i64 6, .slice (some ⟨g3, 0, none⟩) 1 1, .int .i64 3, .int .i64 3], [.int .i64 6, .slice (some ⟨g4, 0, none⟩) 1 1, .int .i64 2, .int .i64 3], [.int .i64 1, .slice (some ⟨g5, 0, none⟩) 2 2, .int .i64 0, .int .i64 0]], Sl.ofBlkJ (junk := junk) (T := 44) (fr := (0, 0)) ?_ (by simp) ?_, RlL.s ?_⟩⟩⟩, k3⟩
  · intro cs h
    simp at h
    rcases h with rfl | rfl | rfl | rfl | rfl <;> rfl
  · have := k2 g6 _ (.tail _ (.tail _ (.head _)))
    rw [hxs] at this
    exact this
  · exact ⟨RlC.of rfl (by decide) (by decide) (k2 g1 _ (.tail _ (.tail _ (.tail _ (.tail _ (.tail _ (.tail _ (.tail _ (.head _))))))))), RlC.of rfl (by decide) (by decide) (k2 g2 _ (.tail _ (.tail _ (.tail _ (.tail _ (.tail _ (.tail _ (.head _)))))))), RlC.of rfl (by decide) (by decide) (k2 g3 _ (.tail _ (.tail _ (.tail _ (.tail _ (.tail _ (.head _))))))), RlC.of rfl (by decide) (by decide) (k2 g4 _ (.tail _ (.tail _ (.tail _ (.tail _ (.head _)))))), RlC.of rfl (by decide) (by decide) (k2 g5 _ (.tail _ (.head _))), trivial⟩
end Go.Proofs.YtgpgjpcebajofaaDoor
set_option maxHeartbeats 4000000
set_option linter.unusedVariables false
set_option linter.unusedSimpArgs false
set_option maxRecDepth 100000
namespace Go.Proofs.YtgpgjpcebajofaaDoor
open Go Go.XC Go.RowKit Go.SetsP
attribute [local irreducible] Post TC TR D WL EvS EvC Wd ResL Code.wpIn Exit.then Exit.inBlock Exit.noGoto LoopK LoopP bodyPostM Reads Calls

section
variable {m m1 : Mem} {L : Own} {w : World} {pcs : Array Value}
theorem wh_c (hT : TabM m1) (hp : PbC m1 PA pcs) (g T : Nat) (hs : St m1 (some (g, .cells #[.int .u64 3, .int .u64 6, .int .u64 7] T (0, 0)) :: L) w) :
    Calls Tryd.prog 15 #[.agg pcs, .slice (some ⟨g, 0, none⟩) 3 3] w fun x w' => x = .returned (.tuple #[.int .i64 1, .int .i64 0]) ∧ St m1 (some (g, .cells #[.int .u64 3, .int .u64 6, .int .u64 7] T (0, 0)) :: L) w' :=
  borrowV hs fun hs2 => by
    have := holds_c PA pcs (some ⟨g, 0, none⟩) 3 [3, 6, 7] (by decide) (by decide) _ (hT.mono (lend hs).1) (hp.mono (lend hs).1) (Sl.ofBlk (css := u64s [3, 6, 7]) (T := T) (fr := (0, 0)) (by intro cs h; simp [u64s] at h; rcases h with rfl | rfl | rfl <;> rfl) (by decide) (Mem.put_same _ _ _)) _ w hs2
    rw [pa_holds] at this
    exact this
theorem wp_c (hT : TabM m1) (hp : PbC m1 PB pcs) (hs : St m1 L w) :
    Calls Tryd.prog 17 #[.agg pcs] w fun x w' => ∃ y : { y : Mem × (Option Addr × Nat) × (Option Addr × Nat) // m1.Le y.1 ∧ Sl y.1 2 y.2.1.1 (bds [⟨6, 6⟩, ⟨1, 1⟩, ⟨7, 7⟩]) ∧ FcS y.1 y.2.2.1 factsB },
      x = .returned (.tuple #[.slice y.1.2.1.1 3 y.1.2.1.2, .slice y.1.2.2.1 7 y.1.2.2.2, .int .i64 (-1), .int .i64 0]) ∧ St y.1.1 L w' := by
  have := propagate_ok PB pcs pb_ok m1 hT hp L w hs
  rw [pb_b, pb_f, pb_n] at this
  exact this.mono fun x w' ⟨m', A, c, FA, fc, h1, h2, h3, h4, h5⟩ => ⟨⟨(m', (A, c), (FA, fc)), h1, h2, h3⟩, h4, h5⟩
theorem ws_c (hT : TabM m1) (hp : PbC m1 PA pcs) (hs : St m1 L w) :
    Calls Tryd.prog 7 #[.agg pcs, .int .i64 9] w fun x w' => ∃ y : { y : Mem × Option Addr × Nat // m1.Le y.1 ∧ SolS y.1 y.2.1 solsA ∧ 4 ≤ y.2.2 },
      x = .returned (.tuple #[.slice y.1.2.1 4 y.1.2.2, .int .i64 7, .int .i64 0]) ∧ St y.1.1 L w' := by
  have := solve_c PA pcs 9 (by decide) (by decide) m1 hT hp L w hs
  rw [pa_s] at this
  exact this
theorem wc_c (hT : TabM m1) (hp : PbC m1 PC pcs) (hs : St m1 L w) :
    Calls Tryd.prog 8 #[.agg pcs] w fun x w' => ∃ y : { y : Mem × Option Addr × Nat // m1.Le y.1 ∧ Sl y.1 1 y.2.1 (ints [0, 1, 3, 4]) },
      x = .returned (.tuple #[.slice y.1.2.1 4 y.1.2.2, .int .i64 0]) ∧ St y.1.1 L w' := by
  have := core_ok PC pcs pc_ok m1 hT hp L w hs
  rw [pc_c] at this
  exact this
/-- A list in memory and a literal, of ints. -/
theorem wi_c {A : Option Addr} {n c g T : Nat} (l : List Int) (hn : n = l.length) (hb : l.length ≤ 1000) (hA : Sl m1 1 A (ints l)) (cells : Array Value) (hc : cells = (ints l).flatten.toArray) (hs : St m1 (some (g, .cells cells T (0, 0)) :: L) w) :
    Calls Tryd.prog 13 #[.slice A n c, .slice (some ⟨g, 0, none⟩) n n] w fun x w' => x = .returned (.bool true) ∧ St m1 (some (g, .cells cells T (0, 0)) :: L) w' := by
  subst hc hn
  refine borrowV hs fun hs2 => ?_
  have := sameInts_c A (some ⟨g, 0, none⟩) c l.length l l _ (hA.mono (lend hs).1) (Sl.ofBlk (T := T) (fr := (0, 0)) (ints_len l) (by rw [ints_length]; omega) (Mem.put_same _ _ _)) _ w hs2
  rw [show decide (l = l) = true by simp] at this
  exact this
theorem wb_c {A : Option Addr} {c g T : Nat} (hA : Sl m1 2 A (bds [⟨6, 6⟩, ⟨1, 1⟩, ⟨7, 7⟩])) (hs : St m1 (some (g, .cells #[.int .u64 6, .int .u64 6, .int .u64 1, .int .u64 1, .int .u64 7, .int .u64 7] T (0, 0)) :: L) w) :
    Calls Tryd.prog 20 #[.slice A 3 c, .slice (some ⟨g, 0, none⟩) 3 3] w fun x w' => x = .returned (.bool true) ∧ St m1 (some (g, .cells #[.int .u64 6, .int .u64 6, .int .u64 1, .int .u64 1, .int .u64 7, .int .u64 7] T (0, 0)) :: L) w' := by
  refine borrowV hs fun hs2 => ?_
  have := sameBounds_c A (some ⟨g, 0, none⟩) c 3 [⟨6, 6⟩, ⟨1, 1⟩, ⟨7, 7⟩] [⟨6, 6⟩, ⟨1, 1⟩, ⟨7, 7⟩] _ (hA.mono (lend hs).1) (Sl.ofBlk (T := T) (fr := (0, 0)) (bds_len _) (by decide) (Mem.put_same _ _ _)) _ w hs2
  rw [show decide (([⟨6, 6⟩, ⟨1, 1⟩, ⟨7, 7⟩] : List Bd) = [⟨6, 6⟩, ⟨1, 1⟩, ⟨7, 7⟩]) = true by simp] at this
  exact this
theorem SolS.take {A : Option Addr} {l : List (List BV)} (h : SolS m A l) (k : Nat) : SolS m A (l.take k) := by
  obtain ⟨css, h1, h2, h3⟩ := h
  refine ⟨css.take k, Go.Proofs.YtgpgjpcebajofaaDoor.Sl.take h1 k, by simp [h2], fun i t cs hi hj => ?_⟩
  rw [List.getElem?_take] at hi hj
  by_cases hk : i < k
  · rw [if_pos hk] at hi hj; exact h3 i t cs hi hj
  · rw [if_neg hk] at hi; cases hi
theorem wt_c {A : Option Addr} {c g1 g2 T1 T2 : Nat} (hA : SolS m1 A solsA) (hs : St m1 (some (g2, .cells #[.slice (some ⟨g1, 0, none⟩) 3 3] T2 (0, 0)) :: some (g1, .cells #[.int .u64 7, .int .u64 0, .int .u64 7] T1 (0, 0)) :: L) w) :
    Calls Tryd.prog 11 #[.slice A 1 c, .slice (some ⟨g2, 0, none⟩) 1 1] w fun x w' => x = .returned (.bool true) ∧ St m1 (some (g2, .cells #[.slice (some ⟨g1, 0, none⟩) 3 3] T2 (0, 0)) :: some (g1, .cells #[.int .u64 7, .int .u64 0, .int .u64 7] T1 (0, 0)) :: L) w' := by
  refine borrowV hs fun hs2 => borrowV hs2 fun hs3 => ?_
  have hl := (lend hs).1.trans (lend hs2).1
  have := sameSets_c A (some ⟨g2, 0, none⟩) c 1 [[7, 0, 7]] [[7, 0, 7]] _ ((hA.mono hl).take 1) ⟨[[.slice (some ⟨g1, 0, none⟩) 3 3]], Sl.ofBlk (T := T2) (fr := (0, 0)) (by simp) (by simp) ((lend hs2).1.blk _ _ (Mem.put_same _ _ _)), rfl, fun k l cs hk hc => ?_⟩ _ w hs3
  · rw [show decide (([[7, 0, 7]] : List (List BV)) = [[7, 0, 7]]) = true by simp] at this
    exact this
  · cases k with
    | zero =>
      simp at hk hc
      subst hk hc
      exact ⟨_, _, rfl, Sl.ofBlk (css := u64s [7, 0, 7]) (T := T1) (fr := (0, 0)) (by intro cs h; simp [u64s] at h; rcases h with rfl | rfl | rfl <;> rfl) (by decide) (Mem.put_same _ _ _)⟩
    | succ k => simp at hk
end
theorem works_c (m : Mem) (hT : TabM m) (L : Own) (w : World) (hs : St m L w) :
    Calls Tryd.prog 6 #[] w fun x w' => x = .returned (.bool true) ∧ St m L w' := by
  refine calls_of_TC (args := []) Tryd.func6 rfl Tryd.ntmps6 (Nat.le_of_ble_eq_true rfl) hs ?_
  repeat' (first | refine TC.seq ?_ | refine TC.region ?_ | refine TR.nil ?_ | refine Post.then_normal ?_ | (apply TR.st1 (o := ⟨_, .assign _, _, _, _, _⟩); exact rfl; exact rfl; exact rfl; (first | exact Wd.plain rfl | exact Wd.on rfl rfl rfl); exact EvS.assign rfl))
  (apply TR.ch1 (o := ⟨_, .call _, _, _, _, _⟩); exact rfl; exact rfl; exact rfl; exact Wd.plain rfl; exact EvC.callXS rfl rfl (fun w hs => A_p _ _ w hs); rintro pcs1)
  refine TR.of_exists (X := { y : Mem // m.Le y ∧ PbC y PA pcs1 }) (S' := fun y => St y.1 _) (fun w h => by obtain ⟨q, k1, k2, k3⟩ := h; exact ⟨⟨q, k1, k2⟩, k3⟩) ?_
  rintro ⟨m1, k1, hp1⟩
  simp only at k1 hp1 ⊢
  repeat' (first | (apply TR.ch1 (o := ⟨_, .buildSlice _ _ _, _, _, _, _⟩); exact rfl; exact rfl; exact rfl; (first | exact Wd.plain rfl | exact Wd.on rfl rfl rfl); exact EvC.buildN (n := 3) (sz := 1) (vs := [.int .u64 3, .int .u64 6, .int .u64 7]) (cells := #[.int .u64 3, .int .u64 6, .int .u64 7]) rfl (by decide) (by decide) (by kernel_rfl); intro g) | (apply TR.ch1 (o := ⟨_, .call _, _, _, _, _⟩); exact rfl; exact rfl; exact rfl; (first | exact Wd.plain rfl | exact Wd.on rfl rfl rfl); exact EvC.callV rfl rfl (fun w hs => wh_c (hT.mono k1) hp1 _ _ hs); rintro ⟨⟩) | refine TC.seq ?_ | refine TC.region ?_ | refine TR.nil ?_ | refine Post.then_normal ?_ | (apply TR.st1; exact rfl; exact rfl; exact rfl; (first | exact Wd.plain rfl | exact Wd.on rfl rfl rfl); (first | exact EvS.move rfl | exact EvS.assign rfl | exact EvS.extract rfl rfl)))
  (apply TR.ch1 (o := ⟨_, .call _, _, _, _, _⟩); exact rfl; exact rfl; exact rfl; exact Wd.plain rfl; exact EvC.callXS rfl rfl (fun w hs => B_p _ _ w hs); rintro pcs2)
  refine TR.of_exists (X := { y : Mem // m1.Le y ∧ PbC y PB pcs2 }) (S' := fun y => St y.1 _) (fun w h => by obtain ⟨q, k1, k2, k3⟩ := h; exact ⟨⟨q, k1, k2⟩, k3⟩) ?_
  rintro ⟨m2, k2, hp2⟩
  simp only at k2 hp2 ⊢
  repeat' (first | (apply TR.ch1 (o := ⟨_, .call _, _, _, _, _⟩); exact rfl; exact rfl; exact rfl; (first | exact Wd.plain rfl | exact Wd.on rfl rfl rfl); exact EvC.callX rfl rfl (fun w hs => wp_c (hT.mono (k1.trans k2)) hp2 hs); rintro ⟨⟨m3, ⟨A3, c3⟩, ⟨FA, fc⟩⟩, k3, hb3, hf3⟩) | refine TC.seq ?_ | refine TC.region ?_ | refine TR.nil ?_ | refine Post.then_normal ?_ | (apply TR.st1; exact rfl; exact rfl; exact rfl; (first | exact Wd.plain rfl | exact Wd.on rfl rfl rfl); (first | exact EvS.move rfl | exact EvS.assign rfl | exact EvS.extract rfl rfl)))
  simp only at k3 hb3 hf3 ⊢
  (apply TR.ch1 (o := ⟨_, .call _, _, _, _, _⟩); exact rfl; exact rfl; exact rfl; exact Wd.plain rfl; exact EvC.callXS rfl rfl (fun w hs => A_p _ _ w hs); rintro pcs4)
  refine TR.of_exists (X := { y : Mem // m3.Le y ∧ PbC y PA pcs4 }) (S' := fun y => St y.1 _) (fun w h => by obtain ⟨q, k1, k2, k3⟩ := h; exact ⟨⟨q, k1, k2⟩, k3⟩) ?_
  rintro ⟨m4, k4, hp4⟩
  simp only at k4 hp4 ⊢
  have hT4 := hT.mono ((k1.trans k2).trans (k3.trans k4))
  repeat' (first | (apply TR.ch1 (o := ⟨_, .call _, _, _, _, _⟩); exact rfl; exact rfl; exact rfl; (first | exact Wd.plain rfl | exact Wd.on rfl rfl rfl); exact EvC.callX rfl rfl (fun w hs => ws_c hT4 hp4 hs); rintro ⟨⟨m5, A5, c5⟩, k5, hs5, hc5⟩) | refine TC.seq ?_ | refine TC.region ?_ | refine TR.nil ?_ | refine Post.then_normal ?_ | (apply TR.st1; exact rfl; exact rfl; exact rfl; (first | exact Wd.plain rfl | exact Wd.on rfl rfl rfl); (first | exact EvS.move rfl | exact EvS.assign rfl | exact EvS.extract rfl rfl)))
  simp only at k5 hs5 hc5 ⊢
  (apply TR.ch1 (o := ⟨_, .call _, _, _, _, _⟩); exact rfl; exact rfl; exact rfl; exact Wd.plain rfl; exact EvC.callXS rfl rfl (fun w hs => C_p _ _ w hs); rintro pcs6)
  refine TR.of_exists (X := { y : Mem // m5.Le y ∧ PbC y PC pcs6 }) (S' := fun y => St y.1 _) (fun w h => by obtain ⟨q, k1, k2, k3⟩ := h; exact ⟨⟨q, k1, k2⟩, k3⟩) ?_
  rintro ⟨m6, k6, hp6⟩
  simp only at k6 hp6 ⊢
  (apply TR.ch1 (o := ⟨_, .call _, _, _, _, _⟩); exact rfl; exact rfl; exact rfl; exact Wd.plain rfl; exact EvC.callXS rfl rfl (fun w hs => wc_c (hT4.mono (k5.trans k6)) hp6 hs); rintro ⟨⟨m7, A7, c7⟩, k7, hi7⟩)
  simp only at k7 hi7 ⊢
  have hb := hb3.mono (((k4.trans k5).trans k6).trans k7)
  have hf := hf3.mono (((k4.trans k5).trans k6).trans k7)
  have hss := hs5.mono (k6.trans k7)
  obtain ⟨gF, oF, blkF, TF, frF, W4, c4, rfl, hmF, hc4, hw4⟩ := hf.get (k := 4) (f := ⟨0, 1, true, 3, [1]⟩) rfl
  obtain ⟨gF', oF', blkF', TF', frF', W6, c6, he, hmF', hc6, hw6⟩ := hf.get (k := 6) (f := ⟨1, 2, false, 1, [5]⟩) rfl
  obtain ⟨rfl, rfl⟩ : gF = gF' ∧ oF = oF' := by injection he with he; injection he with a b _; exact ⟨a, b⟩
  rw [hmF] at hmF'
  obtain rfl : blkF = blkF' := by injection hmF' with h; injection h
  obtain ⟨gS, oS, blkS, TS, frS, WS, cS, rfl, _, _, _⟩ := hss.get (k := 0) (l := [7, 0, 7]) rfl
  have h41 : blkF[oF + Int.toNat 4 * 5 + 3]? = some (.int .i64 3) := hc4 3 _ rfl
  have h42 : blkF[oF + Int.toNat 4 * 5 + 4]? = some (.slice W4 1 c4) := hc4 4 _ rfl
  have h62 : blkF[oF + Int.toNat 6 * 5 + 4]? = some (.slice W6 1 c6) := hc6 4 _ rfl
  clear hmF' hc4 hc6
  repeat' (first | (apply TR.ch1; exact rfl; exact rfl; exact rfl; (first | exact Wd.plain rfl | exact Wd.on rfl rfl rfl); (first | exact EvC.buildN (n := 3) (sz := 2) (cells := #[.int .u64 6, .int .u64 6, .int .u64 1, .int .u64 1, .int .u64 7, .int .u64 7]) rfl (by decide) (by decide) (by kernel_rfl) | exact EvC.buildN (n := 3) (sz := 1) (vs := [.int .u64 7, .int .u64 0, .int .u64 7]) (cells := #[.int .u64 7, .int .u64 0, .int .u64 7]) rfl (by decide) (by decide) (by kernel_rfl) | exact EvC.buildN (n := 4) (sz := 1) (vs := [.int .i64 0, .int .i64 1, .int .i64 3, .int .i64 4]) (cells := #[.int .i64 0, .int .i64 1, .int .i64 3, .int .i64 4]) rfl (by decide) (by decide) (by kernel_rfl)); intro g) | (apply TR.ch1; exact rfl; exact rfl; exact rfl; (first | exact Wd.plain rfl | exact Wd.on rfl rfl rfl); (first | exact EvC.callV rfl rfl (fun w hs => wb_c hb hs) | exact EvC.callV rfl rfl (fun w hs => wi_c [1] rfl (by decide) hw4 _ rfl hs) | exact EvC.callV rfl rfl (fun w hs => wi_c [5] rfl (by decide) hw6 _ rfl hs) | exact EvC.callV rfl rfl (fun w hs => wi_c [0, 1, 3, 4] rfl (by decide) hi7 _ rfl hs) | exact EvC.callV rfl rfl (fun w hs => wt_c hss hs)); rintro ⟨⟩) | refine TC.seq ?_ | refine TC.region ?_ | refine TR.nil ?_ | refine Post.then_normal ?_ | refine TC.skip ?_ | refine TC.ret ?_ | (apply TC.cond_f; exact rfl) | (apply TR.gs_t (o := ⟨_, .move _, _, _, _, _⟩); exact rfl; exact rfl; exact rfl; exact rfl; (first | exact Wd.plain rfl | exact Wd.on rfl rfl rfl); exact EvS.move rfl; (first | exact rfl | assumption)) | (apply TR.gs_f (o := ⟨_, .move _, _, _, _, _⟩); exact rfl; exact rfl; exact rfl; exact rfl; (first | exact Wd.plain rfl | exact Wd.on rfl rfl rfl); exact EvS.move rfl; (first | exact rfl | assumption)) | (apply TR.st1; exact rfl; exact rfl; exact rfl; (first | exact Wd.plain rfl | exact Wd.on rfl rfl rfl); (first | exact EvS.buildV rfl (by kernel_rfl) | (first | exact EvS.sliceHi (k := 1) rfl rfl rfl (by omega) | exact EvS.sliceA rfl) | exact EvS.move rfl | exact EvS.assign rfl | exact EvS.fieldAddr rfl | (first | (apply EvS.load1; exact rfl; (first | exact Reads.mem (by assumption) | exact Reads.own (by repeat first | exact List.Mem.head _ | assumption | apply List.Mem.tail)); (first | assumption | exact nthL_arr rfl | exact rfl)) | (apply EvS.loadW; exact rfl; (first | exact Reads.mem (by assumption) | exact Reads.own (by repeat first | exact List.Mem.head _ | assumption | apply List.Mem.tail)); first | exact rfl | assumption) | (apply EvS.loadH; exact rfl; (first | exact Reads.mem (by assumption) | exact Reads.own (by repeat first | exact List.Mem.head _ | assumption | apply List.Mem.tail)); assumption; first | exact rfl | assumption)) | exact EvS.len rfl | (first | exact EvS.eq64 rfl rfl (by first | with_reducible exact U64.var _ | exact U64.lit rfl) (by first | with_reducible exact U64.var _ | exact U64.lit rfl) | exact EvS.eqI rfl rfl | exact EvS.eqB rfl rfl) | (first | exact EvS.ne64 rfl rfl (by first | with_reducible exact U64.var _ | exact U64.lit rfl) (by first | with_reducible exact U64.var _ | exact U64.lit rfl) | exact EvS.neB rfl rfl | exact EvS.neI rfl rfl) | (first | exact EvS.pick_t rfl rfl | exact EvS.pick_f rfl rfl) | (first | exact EvS.indexAddr rfl rfl (by first | exact rfl | assumption) (by omega) | exact EvS.indexAddrA rfl rfl (by omega)) | exact EvS.extract rfl rfl)) | (apply TR.ch1 (o := ⟨_, .buildSlice _ _ _, _, _, _, _⟩) ; exact rfl; exact rfl; exact rfl; (first | exact Wd.plain rfl | exact Wd.on rfl rfl rfl); exact EvC.build1 rfl (by exact rfl) (by exact rfl); intro g))
  refine Post.body_ret _ (ResL.one rfl (ResV.tmp rfl)) ?_
  intro w h
  exact ⟨rfl, (h.tail.tail.tail.tail.tail.tail.tail).weaken ((((((k1.trans k2).trans k3).trans k4).trans k5).trans k6).trans k7)⟩
end Go.Proofs.YtgpgjpcebajofaaDoor
set_option maxHeartbeats 4000000
set_option linter.unusedVariables false
set_option linter.unusedSimpArgs false
set_option maxRecDepth 100000
namespace Go.Proofs.YtgpgjpcebajofaaDoor
open Go Go.XC Go.RowKit Go.SetsP
attribute [local irreducible] Post TC TR D WL EvS EvC Wd ResL Code.wpIn Exit.then Exit.inBlock Exit.noGoto LoopK LoopP bodyPostM Reads Calls

theorem setsSolves_c (p : Pb) (pcs : Array Value) (most : Int) (m : Mem) (hT : TabM m) (hpc : PbC m p pcs) (L : Own) (w : World) (hs : St m L w) :
    Calls Tryd.prog 3 #[.agg pcs, .int .i64 most] w fun x w' => x = .returned (.bool true) ∧ St m L w' := by
  have hpc0 := hpc
  have hsm := fun (w : World) (L : Own) (hs : St m L w) => small_c p pcs m hpc L w hs
  have hwk := fun (m' : Mem) (hm : m.Le m') (w : World) (L : Own) (hs : St m' L w) => works_c m' (hT.mono hm) L w hs
  have hwk0 := fun (w : World) (L : Own) (hs : St m L w) => works_c m hT L w hs
  obtain ⟨BA, bc, RA, rc, rfl, hBA, hRA⟩ := hpc
  by_cases hb : smallB p = true
  rotate_left
  · rw [Bool.not_eq_true] at hb
    rw [hb] at hsm
    refine calls_of_TC (args := [_, _]) Tryd.func3 rfl Tryd.ntmps3 (Nat.le_of_ble_eq_true rfl) hs ?_
    repeat' (first | (apply TR.ch1; exact rfl; exact rfl; exact rfl; (first | exact Wd.plain rfl | exact Wd.on rfl rfl rfl); (first | exact EvC.callV rfl rfl (fun w hs => hsm w _ hs) | exact EvC.callV rfl rfl (fun w hs => hwk0 w _ hs)); rintro ⟨⟩) | refine TC.seq ?_ | refine TC.region ?_ | refine TR.nil ?_ | refine Post.then_normal ?_ | refine TC.ret ?_ | (apply TC.cond_t; exact rfl) | refine Post.then_ret ?_ | (apply TR.sk1 (o := ⟨_, _, _, _, _, some _⟩); exact rfl; exact rfl; (first | exact Wd.off rfl rfl rfl rfl | exact Wd.offU rfl rfl rfl)) | (apply TR.gs_t (o := ⟨_, .move _, _, _, _, _⟩); exact rfl; exact rfl; exact rfl; exact rfl; (first | exact Wd.plain rfl | exact Wd.on rfl rfl rfl); exact EvS.move rfl; (first | exact rfl | assumption)) | (apply TR.st1; exact rfl; exact rfl; exact rfl; (first | exact Wd.plain rfl | exact Wd.on rfl rfl rfl); (first | exact EvS.assign rfl | (first | (apply EvS.load1; exact rfl; (first | exact Reads.mem (by assumption) | exact Reads.own (by repeat first | exact List.Mem.head _ | assumption | apply List.Mem.tail)); (first | assumption | exact nthL_arr rfl | exact rfl)) | (apply EvS.loadW; exact rfl; (first | exact Reads.mem (by assumption) | exact Reads.own (by repeat first | exact List.Mem.head _ | assumption | apply List.Mem.tail)); first | exact rfl | assumption) | (apply EvS.loadH; exact rfl; (first | exact Reads.mem (by assumption) | exact Reads.own (by repeat first | exact List.Mem.head _ | assumption | apply List.Mem.tail)); assumption; first | exact rfl | assumption)) | (first | exact EvS.not rfl | exact EvS.neg64 rfl (by first | with_reducible exact U64.var _ | exact U64.lit rfl)) | (first | exact EvS.pick_t rfl rfl | exact EvS.pick_f rfl rfl))) | (apply TR.ch1 (o := ⟨_, .box _ _, _, _, _, _⟩) ; exact rfl; exact rfl; exact rfl; (first | exact Wd.plain rfl | exact Wd.on rfl rfl rfl); exact EvC.boxA rfl; intro g))
    refine Post.body_ret _ (ResL.one rfl (ResV.tmp rfl)) ?_
    exact fun w h => ⟨rfl, h.tail⟩
  rw [hb] at hsm
  have hlen : p.bounds.length ≤ 9 ∧ p.rules.length ≤ 13 := by
    unfold smallB at hb
    rw [Bool.and_eq_true, Bool.and_eq_true, decide_eq_true_eq, decide_eq_true_eq] at hb
    exact hb.1
  have hop := fun (w : World) (L : Own) (hs : St m L w) => open_c p _ (by omega) m hpc0 L w hs
  by_cases ho : decide ((openN p.bounds : Int) > 48) = true
  · refine calls_of_TC (args := [_, _]) Tryd.func3 rfl Tryd.ntmps3 (Nat.le_of_ble_eq_true rfl) hs ?_
    repeat' (first | (apply TR.ch1; exact rfl; exact rfl; exact rfl; (first | exact Wd.plain rfl | exact Wd.on rfl rfl rfl); (first | exact EvC.callV rfl rfl (fun w hs => hsm w _ hs) | exact EvC.callV rfl rfl (fun w hs => hop w _ hs) | exact EvC.callV rfl rfl (fun w hs => hwk0 w _ hs)); rintro ⟨⟩) | refine TC.seq ?_ | refine TC.region ?_ | refine TR.nil ?_ | refine Post.then_normal ?_ | refine TC.ret ?_ | (apply TC.cond_bt; exact rfl; assumption) | refine Post.then_ret ?_ | (apply TR.gs_f (o := ⟨_, .move _, _, _, _, _⟩); exact rfl; exact rfl; exact rfl; exact rfl; (first | exact Wd.plain rfl | exact Wd.on rfl rfl rfl); exact EvS.move rfl; (first | exact rfl | assumption)) | (apply TR.st1; exact rfl; exact rfl; exact rfl; (first | exact Wd.plain rfl | exact Wd.on rfl rfl rfl); (first | exact EvS.assign rfl | (first | (apply EvS.load1; exact rfl; (first | exact Reads.mem (by assumption) | exact Reads.own (by repeat first | exact List.Mem.head _ | assumption | apply List.Mem.tail)); (first | assumption | exact nthL_arr rfl | exact rfl)) | (apply EvS.loadW; exact rfl; (first | exact Reads.mem (by assumption) | exact Reads.own (by repeat first | exact List.Mem.head _ | assumption | apply List.Mem.tail)); first | exact rfl | assumption) | (apply EvS.loadH; exact rfl; (first | exact Reads.mem (by assumption) | exact Reads.own (by repeat first | exact List.Mem.head _ | assumption | apply List.Mem.tail)); assumption; first | exact rfl | assumption)) | (first | exact EvS.not rfl | exact EvS.neg64 rfl (by first | with_reducible exact U64.var _ | exact U64.lit rfl)) | exact EvS.gtI rfl rfl | (first | exact EvS.pick_t rfl rfl | exact EvS.pick_f rfl rfl))) | (apply TR.ch1 (o := ⟨_, .box _ _, _, _, _, _⟩) ; exact rfl; exact rfl; exact rfl; (first | exact Wd.plain rfl | exact Wd.on rfl rfl rfl); exact EvC.boxA rfl; intro g))
    refine Post.body_ret _ (ResL.one rfl (ResV.tmp rfl)) ?_
    exact fun w h => ⟨rfl, h.tail⟩
  rw [Bool.not_eq_true] at ho
  have hso := fun (w : World) (L : Own) (hs : St m L w) => solve_c p _ most (by omega) (by omega) m hT hpc0 L w hs
  have hpr := fun (m' : Mem) (hm : m.Le m') (w : World) (L : Own) (hs : St m' L w) => prob_c p _ (by omega) (by omega) m' (hpc0.mono hm) L w hs
  by_cases hck : checkB p = true
  rotate_left
  · rw [Bool.not_eq_true] at hck
    have hsp : solveP p most = ([], 0, 2) := by unfold solveP; rw [hck]; rfl
    rw [hsp] at hso
    rw [hck] at hpr
    have hco := fun (m' : Mem) (hm : m.Le m') (w : World) (L : Own) (hs : St m' L w) => core_bad p _ hck (by omega) (by omega) m' (hpc0.mono hm) L w hs
    refine calls_of_TC (args := [_, _]) Tryd.func3 rfl Tryd.ntmps3 (Nat.le_of_ble_eq_true rfl) hs ?_
    repeat' (first | (apply TR.ch1; exact rfl; exact rfl; exact rfl; (first | exact Wd.plain rfl | exact Wd.on rfl rfl rfl); (first | exact EvC.callV rfl rfl (fun w hs => hsm w _ hs) | exact EvC.callV rfl rfl (fun w hs => hop w _ hs)); rintro ⟨⟩) | (apply TR.ch1 (o := ⟨_, .call _, _, _, _, _⟩); exact rfl; exact rfl; exact rfl; (first | exact Wd.plain rfl | exact Wd.on rfl rfl rfl); exact EvC.callX rfl rfl (fun w hs => hso w _ hs); rintro ⟨⟨m1, A1, c1⟩, k1, hS1⟩) | (apply TR.ch1; exact rfl; exact rfl; exact rfl; (first | exact Wd.plain rfl | exact Wd.on rfl rfl rfl); (first | exact EvC.callV rfl rfl (fun w hs => hco m1 k1 w _ hs) | exact EvC.callV rfl rfl (fun w hs => hpr m1 k1 w _ hs) | exact EvC.callV rfl rfl (fun w hs => hwk m1 k1 w _ hs)); rintro ⟨⟩) | refine TC.seq ?_ | refine TC.region ?_ | refine TR.nil ?_ | refine Post.then_normal ?_ | refine TC.skip ?_ | refine TC.ret ?_ | (apply TC.cond_t; exact rfl) | (apply TC.cond_bf; exact rfl; assumption) | refine Post.then_ret ?_ | (apply TR.gs_t (o := ⟨_, .move _, _, _, _, _⟩); exact rfl; exact rfl; exact rfl; exact rfl; (first | exact Wd.plain rfl | exact Wd.on rfl rfl rfl); exact EvS.move rfl; (first | exact rfl | assumption)) | (apply TR.gs_f (o := ⟨_, .move _, _, _, _, _⟩); exact rfl; exact rfl; exact rfl; exact rfl; (first | exact Wd.plain rfl | exact Wd.on rfl rfl rfl); exact EvS.move rfl; (first | exact rfl | assumption)) | (apply TR.st1; exact rfl; exact rfl; exact rfl; (first | exact Wd.plain rfl | exact Wd.on rfl rfl rfl); (first | exact EvS.move rfl | exact EvS.assign rfl | (first | (apply EvS.load1; exact rfl; (first | exact Reads.mem (by assumption) | exact Reads.own (by repeat first | exact List.Mem.head _ | assumption | apply List.Mem.tail)); (first | assumption | exact nthL_arr rfl | exact rfl)) | (apply EvS.loadW; exact rfl; (first | exact Reads.mem (by assumption) | exact Reads.own (by repeat first | exact List.Mem.head _ | assumption | apply List.Mem.tail)); first | exact rfl | assumption) | (apply EvS.loadH; exact rfl; (first | exact Reads.mem (by assumption) | exact Reads.own (by repeat first | exact List.Mem.head _ | assumption | apply List.Mem.tail)); assumption; first | exact rfl | assumption)) | exact EvS.len rfl | (first | exact EvS.not rfl | exact EvS.neg64 rfl (by first | with_reducible exact U64.var _ | exact U64.lit rfl)) | (first | exact EvS.eq64 rfl rfl (by first | with_reducible exact U64.var _ | exact U64.lit rfl) (by first | with_reducible exact U64.var _ | exact U64.lit rfl) | exact EvS.eqI rfl rfl | exact EvS.eqB rfl rfl) | exact EvS.gtI rfl rfl | (first | exact EvS.pick_t rfl rfl | exact EvS.pick_f rfl rfl) | exact EvS.extract rfl rfl)) | (apply TR.ch1 (o := ⟨_, .box _ _, _, _, _, _⟩) ; exact rfl; exact rfl; exact rfl; (first | exact Wd.plain rfl | exact Wd.on rfl rfl rfl); exact EvC.boxA rfl; intro g))
    refine Post.body_ret _ (ResL.one rfl (ResV.tmp rfl)) ?_
    exact fun w h => ⟨rfl, (h.weaken k1).tail⟩
  have hcq : ((coreP p).2 == (coreP p).2) = true := by simp
  rw [hck] at hpr
  have hco := fun (m' : Mem) (hm : m.Le m') (w : World) (L : Own) (hs : St m' L w) => core_ok p _ hck m' (hT.mono hm) (hpc0.mono hm) L w hs
  have hcr := fun (m' : Mem) (hm : m.Le m') (w : World) (L : Own) (hs : St m' L w) => coreR_c p _ hck m' (hpc0.mono hm) L w hs
  by_cases hm : 1 ≤ most ∧ most ≤ 100
  rotate_left
  · have hsp : solveP p most = ([], 0, 2) := by
      unfold solveP; rw [show decide (1 ≤ most ∧ most ≤ 100) = false by simp only [hm, decide_false], Bool.and_false]; rfl
    rw [hsp] at hso
    by_cases h1 : most < 1
    · have hd1 : decide (most < 1) = true := by simpa using h1
      refine calls_of_TC (args := [_, _]) Tryd.func3 rfl Tryd.ntmps3 (Nat.le_of_ble_eq_true rfl) hs ?_
      repeat' (first | (apply TR.ch1; exact rfl; exact rfl; exact rfl; (first | exact Wd.plain rfl | exact Wd.on rfl rfl rfl); (first | exact EvC.callV rfl rfl (fun w hs => hsm w _ hs) | exact EvC.callV rfl rfl (fun w hs => hop w _ hs)); rintro ⟨⟩) | refine TC.seq ?_ | refine TC.region ?_ | refine TR.nil ?_ | refine Post.then_normal ?_ | refine TC.skip ?_ | (apply TC.cond_bf; exact rfl; assumption) | (apply TR.gs_f (o := ⟨_, .move _, _, _, _, _⟩); exact rfl; exact rfl; exact rfl; exact rfl; (first | exact Wd.plain rfl | exact Wd.on rfl rfl rfl); exact EvS.move rfl; (first | exact rfl | assumption)) | (apply TR.st1; exact rfl; exact rfl; exact rfl; (first | exact Wd.plain rfl | exact Wd.on rfl rfl rfl); (first | exact EvS.move rfl | exact EvS.assign rfl | (first | (apply EvS.load1; exact rfl; (first | exact Reads.mem (by assumption) | exact Reads.own (by repeat first | exact List.Mem.head _ | assumption | apply List.Mem.tail)); (first | assumption | exact nthL_arr rfl | exact rfl)) | (apply EvS.loadW; exact rfl; (first | exact Reads.mem (by assumption) | exact Reads.own (by repeat first | exact List.Mem.head _ | assumption | apply List.Mem.tail)); first | exact rfl | assumption) | (apply EvS.loadH; exact rfl; (first | exact Reads.mem (by assumption) | exact Reads.own (by repeat first | exact List.Mem.head _ | assumption | apply List.Mem.tail)); assumption; first | exact rfl | assumption)) | (first | exact EvS.not rfl | exact EvS.neg64 rfl (by first | with_reducible exact U64.var _ | exact U64.lit rfl)) | exact EvS.gtI rfl rfl | (first | exact EvS.pick_t rfl rfl | exact EvS.pick_f rfl rfl))) | (apply TR.ch1 (o := ⟨_, .box _ _, _, _, _, _⟩) ; exact rfl; exact rfl; exact rfl; (first | exact Wd.plain rfl | exact Wd.on rfl rfl rfl); exact EvC.boxA rfl; intro g))
      (apply TR.ch1 (o := ⟨_, .call _, _, _, _, _⟩); exact rfl; exact rfl; exact rfl; exact Wd.plain rfl; exact EvC.callXS rfl rfl (fun w hs => hso w _ hs); rintro ⟨⟨m1, A1, c1⟩, k1, hS1, _⟩)
      simp only at k1 hS1 ⊢
      repeat' (first | refine TC.seq ?_ | refine TC.region ?_ | refine TR.nil ?_ | refine Post.then_normal ?_ | (apply TR.st1; exact rfl; exact rfl; exact rfl; (first | exact Wd.plain rfl | exact Wd.on rfl rfl rfl); (first | exact EvS.move rfl | exact EvS.assign rfl | (first | (apply EvS.load1; exact rfl; (first | exact Reads.mem (by assumption) | exact Reads.own (by repeat first | exact List.Mem.head _ | assumption | apply List.Mem.tail)); (first | assumption | exact nthL_arr rfl | exact rfl)) | (apply EvS.loadW; exact rfl; (first | exact Reads.mem (by assumption) | exact Reads.own (by repeat first | exact List.Mem.head _ | assumption | apply List.Mem.tail)); first | exact rfl | assumption) | (apply EvS.loadH; exact rfl; (first | exact Reads.mem (by assumption) | exact Reads.own (by repeat first | exact List.Mem.head _ | assumption | apply List.Mem.tail)); assumption; first | exact rfl | assumption)) | exact EvS.extract rfl rfl)))
      (apply TR.ch1 (o := ⟨_, .call _, _, _, _, _⟩); exact rfl; exact rfl; exact rfl; exact Wd.plain rfl; exact EvC.callXS rfl rfl (fun w hs => hco m1 k1 w _ hs); rintro ⟨⟨m2, A2, c2⟩, k2, hS2⟩)
      simp only at k2 hS2 ⊢
      repeat' (first | (apply TR.ch1 (o := ⟨_, .call _, _, _, _, _⟩); exact rfl; exact rfl; exact rfl; (first | exact Wd.plain rfl | exact Wd.on rfl rfl rfl); exact EvC.callV rfl rfl (fun w hs => hpr m2 (k1.trans k2) w _ hs); rintro ⟨⟩) | refine TC.seq ?_ | refine TC.region ?_ | refine TR.nil ?_ | refine Post.then_normal ?_ | refine TC.skip ?_ | (apply TC.cond_t; exact rfl) | (apply TC.cond_f; exact rfl) | (apply TR.sk1 (o := ⟨_, _, _, _, _, some _⟩); exact rfl; exact rfl; (first | exact Wd.off rfl rfl rfl rfl | exact Wd.offU rfl rfl rfl)) | (apply TR.gs_t (o := ⟨_, .move _, _, _, _, _⟩); exact rfl; exact rfl; exact rfl; exact rfl; (first | exact Wd.plain rfl | exact Wd.on rfl rfl rfl); exact EvS.move rfl; (first | exact rfl | assumption)) | (apply TR.gs_f (o := ⟨_, .move _, _, _, _, _⟩); exact rfl; exact rfl; exact rfl; exact rfl; (first | exact Wd.plain rfl | exact Wd.on rfl rfl rfl); exact EvS.move rfl; (first | exact rfl | assumption)) | (apply TR.st1; exact rfl; exact rfl; exact rfl; (first | exact Wd.plain rfl | exact Wd.on rfl rfl rfl); (first | exact EvS.move rfl | exact EvS.assign rfl | (first | (apply EvS.load1; exact rfl; (first | exact Reads.mem (by assumption) | exact Reads.own (by repeat first | exact List.Mem.head _ | assumption | apply List.Mem.tail)); (first | assumption | exact nthL_arr rfl | exact rfl)) | (apply EvS.loadW; exact rfl; (first | exact Reads.mem (by assumption) | exact Reads.own (by repeat first | exact List.Mem.head _ | assumption | apply List.Mem.tail)); first | exact rfl | assumption) | (apply EvS.loadH; exact rfl; (first | exact Reads.mem (by assumption) | exact Reads.own (by repeat first | exact List.Mem.head _ | assumption | apply List.Mem.tail)); assumption; first | exact rfl | assumption)) | exact EvS.len rfl | (first | exact EvS.not rfl | exact EvS.neg64 rfl (by first | with_reducible exact U64.var _ | exact U64.lit rfl)) | (first | exact EvS.ne64 rfl rfl (by first | with_reducible exact U64.var _ | exact U64.lit rfl) (by first | with_reducible exact U64.var _ | exact U64.lit rfl) | exact EvS.neB rfl rfl | exact EvS.neI rfl rfl) | exact EvS.ltI rfl rfl | exact EvS.gtI rfl rfl | (first | exact EvS.pick_t rfl rfl | exact EvS.pick_f rfl rfl) | exact EvS.extract rfl rfl)))
      (apply TR.ch1 (o := ⟨_, .call _, _, _, _, _⟩); exact rfl; exact rfl; exact rfl; exact Wd.plain rfl; exact EvC.callXS rfl rfl (fun w hs => hcr m2 (k1.trans k2) w _ hs); rintro ⟨⟨m4, A4, c4⟩, k4, hS4⟩)
      simp only at k4 hS4 ⊢
      have hsi := fun (w : World) (L : Own) (hs : St m4 L w) => sameInts_c A2 A4 c2 c4 (zs (coreP p).1) (zs (coreP p).1) m4 (hS2.mono (k4)) hS4 L w hs
      rw [zs_length, show decide (zs (coreP p).1 = zs (coreP p).1) = true by simp] at hsi
      repeat' (first | (apply TR.ch1; exact rfl; exact rfl; exact rfl; (first | exact Wd.plain rfl | exact Wd.on rfl rfl rfl); (first | exact EvC.callV rfl rfl (fun w hs => hsi w _ hs) | exact EvC.callV rfl rfl (fun w hs => hwk m4 ((k1.trans k2).trans k4) w _ hs)); rintro ⟨⟩) | refine TC.seq ?_ | refine TC.region ?_ | refine TR.nil ?_ | refine Post.then_normal ?_ | refine TC.ret ?_ | (apply TR.gs_t (o := ⟨_, .move _, _, _, _, _⟩); exact rfl; exact rfl; exact rfl; exact rfl; (first | exact Wd.plain rfl | exact Wd.on rfl rfl rfl); exact EvS.move rfl; (first | exact rfl | assumption)) | (apply TR.st1; exact rfl; exact rfl; exact rfl; (first | exact Wd.plain rfl | exact Wd.on rfl rfl rfl); (first | exact EvS.move rfl | exact EvS.assign rfl | (first | exact EvS.eq64 rfl rfl (by first | with_reducible exact U64.var _ | exact U64.lit rfl) (by first | with_reducible exact U64.var _ | exact U64.lit rfl) | exact EvS.eqI rfl rfl | exact EvS.eqB rfl rfl) | (first | exact EvS.pick_t rfl rfl | exact EvS.pick_f rfl rfl) | exact EvS.extract rfl rfl)))
      refine Post.body_ret _ (ResL.one rfl (ResV.tmp rfl)) ?_
      exact fun w h => ⟨rfl, (h.weaken ((k1.trans k2).trans k4)).tail⟩
    · have hd1 : decide (most < 1) = false := by simpa using h1
      have hd2 : decide (most > 100) = true := by simp; omega
      refine calls_of_TC (args := [_, _]) Tryd.func3 rfl Tryd.ntmps3 (Nat.le_of_ble_eq_true rfl) hs ?_
      repeat' (first | (apply TR.ch1; exact rfl; exact rfl; exact rfl; (first | exact Wd.plain rfl | exact Wd.on rfl rfl rfl); (first | exact EvC.callV rfl rfl (fun w hs => hsm w _ hs) | exact EvC.callV rfl rfl (fun w hs => hop w _ hs)); rintro ⟨⟩) | refine TC.seq ?_ | refine TC.region ?_ | refine TR.nil ?_ | refine Post.then_normal ?_ | refine TC.skip ?_ | (apply TC.cond_bf; exact rfl; assumption) | (apply TR.gs_f (o := ⟨_, .move _, _, _, _, _⟩); exact rfl; exact rfl; exact rfl; exact rfl; (first | exact Wd.plain rfl | exact Wd.on rfl rfl rfl); exact EvS.move rfl; (first | exact rfl | assumption)) | (apply TR.st1; exact rfl; exact rfl; exact rfl; (first | exact Wd.plain rfl | exact Wd.on rfl rfl rfl); (first | exact EvS.move rfl | exact EvS.assign rfl | (first | (apply EvS.load1; exact rfl; (first | exact Reads.mem (by assumption) | exact Reads.own (by repeat first | exact List.Mem.head _ | assumption | apply List.Mem.tail)); (first | assumption | exact nthL_arr rfl | exact rfl)) | (apply EvS.loadW; exact rfl; (first | exact Reads.mem (by assumption) | exact Reads.own (by repeat first | exact List.Mem.head _ | assumption | apply List.Mem.tail)); first | exact rfl | assumption) | (apply EvS.loadH; exact rfl; (first | exact Reads.mem (by assumption) | exact Reads.own (by repeat first | exact List.Mem.head _ | assumption | apply List.Mem.tail)); assumption; first | exact rfl | assumption)) | (first | exact EvS.not rfl | exact EvS.neg64 rfl (by first | with_reducible exact U64.var _ | exact U64.lit rfl)) | exact EvS.gtI rfl rfl | (first | exact EvS.pick_t rfl rfl | exact EvS.pick_f rfl rfl))) | (apply TR.ch1 (o := ⟨_, .box _ _, _, _, _, _⟩) ; exact rfl; exact rfl; exact rfl; (first | exact Wd.plain rfl | exact Wd.on rfl rfl rfl); exact EvC.boxA rfl; intro g))
      (apply TR.ch1 (o := ⟨_, .call _, _, _, _, _⟩); exact rfl; exact rfl; exact rfl; exact Wd.plain rfl; exact EvC.callXS rfl rfl (fun w hs => hso w _ hs); rintro ⟨⟨m1, A1, c1⟩, k1, hS1, _⟩)
      simp only at k1 hS1 ⊢
      repeat' (first | refine TC.seq ?_ | refine TC.region ?_ | refine TR.nil ?_ | refine Post.then_normal ?_ | (apply TR.st1; exact rfl; exact rfl; exact rfl; (first | exact Wd.plain rfl | exact Wd.on rfl rfl rfl); (first | exact EvS.move rfl | exact EvS.assign rfl | (first | (apply EvS.load1; exact rfl; (first | exact Reads.mem (by assumption) | exact Reads.own (by repeat first | exact List.Mem.head _ | assumption | apply List.Mem.tail)); (first | assumption | exact nthL_arr rfl | exact rfl)) | (apply EvS.loadW; exact rfl; (first | exact Reads.mem (by assumption) | exact Reads.own (by repeat first | exact List.Mem.head _ | assumption | apply List.Mem.tail)); first | exact rfl | assumption) | (apply EvS.loadH; exact rfl; (first | exact Reads.mem (by assumption) | exact Reads.own (by repeat first | exact List.Mem.head _ | assumption | apply List.Mem.tail)); assumption; first | exact rfl | assumption)) | exact EvS.extract rfl rfl)))
      (apply TR.ch1 (o := ⟨_, .call _, _, _, _, _⟩); exact rfl; exact rfl; exact rfl; exact Wd.plain rfl; exact EvC.callXS rfl rfl (fun w hs => hco m1 k1 w _ hs); rintro ⟨⟨m2, A2, c2⟩, k2, hS2⟩)
      simp only at k2 hS2 ⊢
      repeat' (first | (apply TR.ch1 (o := ⟨_, .call _, _, _, _, _⟩); exact rfl; exact rfl; exact rfl; (first | exact Wd.plain rfl | exact Wd.on rfl rfl rfl); exact EvC.callV rfl rfl (fun w hs => hpr m2 (k1.trans k2) w _ hs); rintro ⟨⟩) | refine TC.seq ?_ | refine TC.region ?_ | refine TR.nil ?_ | refine Post.then_normal ?_ | refine TC.skip ?_ | (apply TC.cond_f; exact rfl) | (apply TC.cond_bt; exact rfl; assumption) | (apply TR.gs_f (o := ⟨_, .move _, _, _, _, _⟩); exact rfl; exact rfl; exact rfl; exact rfl; (first | exact Wd.plain rfl | exact Wd.on rfl rfl rfl); exact EvS.move rfl; (first | exact rfl | assumption)) | (apply TR.st1; exact rfl; exact rfl; exact rfl; (first | exact Wd.plain rfl | exact Wd.on rfl rfl rfl); (first | exact EvS.move rfl | exact EvS.assign rfl | (first | (apply EvS.load1; exact rfl; (first | exact Reads.mem (by assumption) | exact Reads.own (by repeat first | exact List.Mem.head _ | assumption | apply List.Mem.tail)); (first | assumption | exact nthL_arr rfl | exact rfl)) | (apply EvS.loadW; exact rfl; (first | exact Reads.mem (by assumption) | exact Reads.own (by repeat first | exact List.Mem.head _ | assumption | apply List.Mem.tail)); first | exact rfl | assumption) | (apply EvS.loadH; exact rfl; (first | exact Reads.mem (by assumption) | exact Reads.own (by repeat first | exact List.Mem.head _ | assumption | apply List.Mem.tail)); assumption; first | exact rfl | assumption)) | exact EvS.len rfl | (first | exact EvS.not rfl | exact EvS.neg64 rfl (by first | with_reducible exact U64.var _ | exact U64.lit rfl)) | (first | exact EvS.ne64 rfl rfl (by first | with_reducible exact U64.var _ | exact U64.lit rfl) (by first | with_reducible exact U64.var _ | exact U64.lit rfl) | exact EvS.neB rfl rfl | exact EvS.neI rfl rfl) | exact EvS.ltI rfl rfl | exact EvS.gtI rfl rfl | (first | exact EvS.pick_t rfl rfl | exact EvS.pick_f rfl rfl) | exact EvS.extract rfl rfl)))
      (apply TR.ch1 (o := ⟨_, .call _, _, _, _, _⟩); exact rfl; exact rfl; exact rfl; exact Wd.plain rfl; exact EvC.callXS rfl rfl (fun w hs => hcr m2 (k1.trans k2) w _ hs); rintro ⟨⟨m4, A4, c4⟩, k4, hS4⟩)
      simp only at k4 hS4 ⊢
      have hsi := fun (w : World) (L : Own) (hs : St m4 L w) => sameInts_c A2 A4 c2 c4 (zs (coreP p).1) (zs (coreP p).1) m4 (hS2.mono (k4)) hS4 L w hs
      rw [zs_length, show decide (zs (coreP p).1 = zs (coreP p).1) = true by simp] at hsi
      repeat' (first | (apply TR.ch1; exact rfl; exact rfl; exact rfl; (first | exact Wd.plain rfl | exact Wd.on rfl rfl rfl); (first | exact EvC.callV rfl rfl (fun w hs => hsi w _ hs) | exact EvC.callV rfl rfl (fun w hs => hwk m4 ((k1.trans k2).trans k4) w _ hs)); rintro ⟨⟩) | refine TC.seq ?_ | refine TC.region ?_ | refine TR.nil ?_ | refine Post.then_normal ?_ | refine TC.ret ?_ | (apply TR.gs_t (o := ⟨_, .move _, _, _, _, _⟩); exact rfl; exact rfl; exact rfl; exact rfl; (first | exact Wd.plain rfl | exact Wd.on rfl rfl rfl); exact EvS.move rfl; (first | exact rfl | assumption)) | (apply TR.st1; exact rfl; exact rfl; exact rfl; (first | exact Wd.plain rfl | exact Wd.on rfl rfl rfl); (first | exact EvS.move rfl | exact EvS.assign rfl | (first | exact EvS.eq64 rfl rfl (by first | with_reducible exact U64.var _ | exact U64.lit rfl) (by first | with_reducible exact U64.var _ | exact U64.lit rfl) | exact EvS.eqI rfl rfl | exact EvS.eqB rfl rfl) | (first | exact EvS.pick_t rfl rfl | exact EvS.pick_f rfl rfl) | exact EvS.extract rfl rfl)))
      refine Post.body_ret _ (ResL.one rfl (ResV.tmp rfl)) ?_
      exact fun w h => ⟨rfl, (h.weaken ((k1.trans k2).trans k4)).tail⟩
  have hd1 : decide (most < 1) = false := by simp; omega
  have hd2 : decide (most > 100) = false := by simp; omega
  have hsv := fun (m' : Mem) (hmm : m.Le m') (w : World) (L : Own) (hs : St m' L w) => solveR_c p _ (okP_of hck) (checkB_ok hck).2.2.2 (Cn.pad hck) most (by omega) m' (hpc0.mono hmm) L w hs
  have hsp : solveP p most = if (searchP p most).op then ([], 0, 8) else ((searchP p most).sols, ((searchP p most).nodes : Int), 0) := by
    unfold solveP; rw [hck, show decide (1 ≤ most ∧ most ≤ 100) = true by simp [hm]]; rfl
  obtain ⟨F, hF⟩ : ∃ F, F = searchP p most := ⟨_, rfl⟩
  rw [← hF] at hsp hsv
  cases hfo : F.op with
  | true =>
    rw [hfo] at hsp hsv
    replace hsp : solveP p most = ([], 0, 8) := hsp
    rw [hsp] at hso
    refine calls_of_TC (args := [_, _]) Tryd.func3 rfl Tryd.ntmps3 (Nat.le_of_ble_eq_true rfl) hs ?_
    repeat' (first | (apply TR.ch1; exact rfl; exact rfl; exact rfl; (first | exact Wd.plain rfl | exact Wd.on rfl rfl rfl); (first | exact EvC.callV rfl rfl (fun w hs => hsm w _ hs) | exact EvC.callV rfl rfl (fun w hs => hop w _ hs)); rintro ⟨⟩) | refine TC.seq ?_ | refine TC.region ?_ | refine TR.nil ?_ | refine Post.then_normal ?_ | refine TC.skip ?_ | (apply TC.cond_bf; exact rfl; assumption) | (apply TR.gs_f (o := ⟨_, .move _, _, _, _, _⟩); exact rfl; exact rfl; exact rfl; exact rfl; (first | exact Wd.plain rfl | exact Wd.on rfl rfl rfl); exact EvS.move rfl; (first | exact rfl | assumption)) | (apply TR.st1; exact rfl; exact rfl; exact rfl; (first | exact Wd.plain rfl | exact Wd.on rfl rfl rfl); (first | exact EvS.move rfl | exact EvS.assign rfl | (first | (apply EvS.load1; exact rfl; (first | exact Reads.mem (by assumption) | exact Reads.own (by repeat first | exact List.Mem.head _ | assumption | apply List.Mem.tail)); (first | assumption | exact nthL_arr rfl | exact rfl)) | (apply EvS.loadW; exact rfl; (first | exact Reads.mem (by assumption) | exact Reads.own (by repeat first | exact List.Mem.head _ | assumption | apply List.Mem.tail)); first | exact rfl | assumption) | (apply EvS.loadH; exact rfl; (first | exact Reads.mem (by assumption) | exact Reads.own (by repeat first | exact List.Mem.head _ | assumption | apply List.Mem.tail)); assumption; first | exact rfl | assumption)) | (first | exact EvS.not rfl | exact EvS.neg64 rfl (by first | with_reducible exact U64.var _ | exact U64.lit rfl)) | exact EvS.gtI rfl rfl | (first | exact EvS.pick_t rfl rfl | exact EvS.pick_f rfl rfl))) | (apply TR.ch1 (o := ⟨_, .box _ _, _, _, _, _⟩) ; exact rfl; exact rfl; exact rfl; (first | exact Wd.plain rfl | exact Wd.on rfl rfl rfl); exact EvC.boxA rfl; intro g))
    (apply TR.ch1 (o := ⟨_, .call _, _, _, _, _⟩); exact rfl; exact rfl; exact rfl; exact Wd.plain rfl; exact EvC.callXS rfl rfl (fun w hs => hso w _ hs); rintro ⟨⟨m1, A1, c1⟩, k1, hS1, _⟩)
    simp only at k1 hS1 ⊢
    repeat' (first | refine TC.seq ?_ | refine TC.region ?_ | refine TR.nil ?_ | refine Post.then_normal ?_ | (apply TR.st1; exact rfl; exact rfl; exact rfl; (first | exact Wd.plain rfl | exact Wd.on rfl rfl rfl); (first | exact EvS.move rfl | exact EvS.assign rfl | (first | (apply EvS.load1; exact rfl; (first | exact Reads.mem (by assumption) | exact Reads.own (by repeat first | exact List.Mem.head _ | assumption | apply List.Mem.tail)); (first | assumption | exact nthL_arr rfl | exact rfl)) | (apply EvS.loadW; exact rfl; (first | exact Reads.mem (by assumption) | exact Reads.own (by repeat first | exact List.Mem.head _ | assumption | apply List.Mem.tail)); first | exact rfl | assumption) | (apply EvS.loadH; exact rfl; (first | exact Reads.mem (by assumption) | exact Reads.own (by repeat first | exact List.Mem.head _ | assumption | apply List.Mem.tail)); assumption; first | exact rfl | assumption)) | exact EvS.extract rfl rfl)))
    (apply TR.ch1 (o := ⟨_, .call _, _, _, _, _⟩); exact rfl; exact rfl; exact rfl; exact Wd.plain rfl; exact EvC.callXS rfl rfl (fun w hs => hco m1 k1 w _ hs); rintro ⟨⟨m2, A2, c2⟩, k2, hS2⟩)
    simp only at k2 hS2 ⊢
    repeat' (first | (apply TR.ch1 (o := ⟨_, .call _, _, _, _, _⟩); exact rfl; exact rfl; exact rfl; (first | exact Wd.plain rfl | exact Wd.on rfl rfl rfl); exact EvC.callV rfl rfl (fun w hs => hpr m2 (k1.trans k2) w _ hs); rintro ⟨⟩) | refine TC.seq ?_ | refine TC.region ?_ | refine TR.nil ?_ | refine Post.then_normal ?_ | refine TC.skip ?_ | (apply TC.cond_f; exact rfl) | (apply TC.cond_bf; exact rfl; assumption) | (apply TR.gs_f (o := ⟨_, .move _, _, _, _, _⟩); exact rfl; exact rfl; exact rfl; exact rfl; (first | exact Wd.plain rfl | exact Wd.on rfl rfl rfl); exact EvS.move rfl; (first | exact rfl | assumption)) | (apply TR.st1; exact rfl; exact rfl; exact rfl; (first | exact Wd.plain rfl | exact Wd.on rfl rfl rfl); (first | exact EvS.move rfl | exact EvS.assign rfl | (first | (apply EvS.load1; exact rfl; (first | exact Reads.mem (by assumption) | exact Reads.own (by repeat first | exact List.Mem.head _ | assumption | apply List.Mem.tail)); (first | assumption | exact nthL_arr rfl | exact rfl)) | (apply EvS.loadW; exact rfl; (first | exact Reads.mem (by assumption) | exact Reads.own (by repeat first | exact List.Mem.head _ | assumption | apply List.Mem.tail)); first | exact rfl | assumption) | (apply EvS.loadH; exact rfl; (first | exact Reads.mem (by assumption) | exact Reads.own (by repeat first | exact List.Mem.head _ | assumption | apply List.Mem.tail)); assumption; first | exact rfl | assumption)) | (first | exact EvS.not rfl | exact EvS.neg64 rfl (by first | with_reducible exact U64.var _ | exact U64.lit rfl)) | exact EvS.ltI rfl rfl | exact EvS.gtI rfl rfl | (first | exact EvS.pick_t rfl rfl | exact EvS.pick_f rfl rfl) | exact EvS.extract rfl rfl)))
    (apply TR.ch1 (o := ⟨_, .call _, _, _, _, _⟩); exact rfl; exact rfl; exact rfl; exact Wd.plain rfl; exact EvC.callXS rfl rfl (fun w hs => hsv m2 (k1.trans k2) w _ hs); rintro ⟨⟨m3, A3, c3⟩, k3, hS3⟩)
    simp only at k3 hS3 ⊢
    repeat' (first | refine TC.seq ?_ | refine TC.region ?_ | refine TR.nil ?_ | refine Post.then_normal ?_ | refine TC.skip ?_ | (apply TC.cond_f; exact rfl) | (apply TR.sk1 (o := ⟨_, _, _, _, _, some _⟩); exact rfl; exact rfl; (first | exact Wd.off rfl rfl rfl rfl | exact Wd.offU rfl rfl rfl)) | (apply TR.gs_t (o := ⟨_, .move _, _, _, _, _⟩); exact rfl; exact rfl; exact rfl; exact rfl; (first | exact Wd.plain rfl | exact Wd.on rfl rfl rfl); exact EvS.move rfl; (first | exact rfl | assumption)) | (apply TR.gs_f (o := ⟨_, .move _, _, _, _, _⟩); exact rfl; exact rfl; exact rfl; exact rfl; (first | exact Wd.plain rfl | exact Wd.on rfl rfl rfl); exact EvS.move rfl; (first | exact rfl | assumption)) | (apply TR.st1; exact rfl; exact rfl; exact rfl; (first | exact Wd.plain rfl | exact Wd.on rfl rfl rfl); (first | exact EvS.move rfl | exact EvS.fieldAddr rfl | (first | (apply EvS.load1; exact rfl; (first | exact Reads.mem (by assumption) | exact Reads.own (by repeat first | exact List.Mem.head _ | assumption | apply List.Mem.tail)); (first | assumption | exact nthL_arr rfl | exact rfl)) | (apply EvS.loadW; exact rfl; (first | exact Reads.mem (by assumption) | exact Reads.own (by repeat first | exact List.Mem.head _ | assumption | apply List.Mem.tail)); first | exact rfl | assumption) | (apply EvS.loadH; exact rfl; (first | exact Reads.mem (by assumption) | exact Reads.own (by repeat first | exact List.Mem.head _ | assumption | apply List.Mem.tail)); assumption; first | exact rfl | assumption)) | exact EvS.len rfl | (first | exact EvS.not rfl | exact EvS.neg64 rfl (by first | with_reducible exact U64.var _ | exact U64.lit rfl)) | (first | exact EvS.ne64 rfl rfl (by first | with_reducible exact U64.var _ | exact U64.lit rfl) (by first | with_reducible exact U64.var _ | exact U64.lit rfl) | exact EvS.neB rfl rfl | exact EvS.neI rfl rfl) | exact EvS.gtI rfl rfl | (first | exact EvS.pick_t rfl rfl | exact EvS.pick_f rfl rfl))) | (apply TR.ch1 (o := ⟨_, .alloc _, _, _, _, _⟩) ; exact rfl; exact rfl; exact rfl; (first | exact Wd.plain rfl | exact Wd.on rfl rfl rfl); exact EvC.alloc; intro g) | (apply TR.ch0 (o := ⟨_, .store _ _ _, _, _, _, _⟩) ; exact rfl; exact rfl; (first | exact Wd.plain rfl | exact Wd.on rfl rfl rfl); exact EvC.storeW rfl rfl (by first | exact rfl | assumption) (by first | exact bArr_one _ | exact rfl | (intro v hv; simp at hv; rcases hv with rfl | rfl | rfl | rfl | rfl | rfl | rfl | rfl <;> rfl)) (by repeat first | exact Upd.head | apply Upd.tail) (by first | exact rfl | assumption); rintro ⟨⟩))
    (apply TR.ch1 (o := ⟨_, .call _, _, _, _, _⟩); exact rfl; exact rfl; exact rfl; exact Wd.plain rfl; exact EvC.callXS rfl rfl (fun w hs => hcr m3 ((k1.trans k2).trans k3) w _ hs); rintro ⟨⟨m4, A4, c4⟩, k4, hS4⟩)
    simp only at k4 hS4 ⊢
    have hsi := fun (w : World) (L : Own) (hs : St m4 L w) => sameInts_c A2 A4 c2 c4 (zs (coreP p).1) (zs (coreP p).1) m4 (hS2.mono (k3.trans k4)) hS4 L w hs
    rw [zs_length, show decide (zs (coreP p).1 = zs (coreP p).1) = true by simp] at hsi
    repeat' (first | (apply TR.ch1; exact rfl; exact rfl; exact rfl; (first | exact Wd.plain rfl | exact Wd.on rfl rfl rfl); (first | exact EvC.callV rfl rfl (fun w hs => hsi w _ hs) | exact EvC.callV rfl rfl (fun w hs => hwk m4 (((k1.trans k2).trans k3).trans k4) w _ hs)); rintro ⟨⟩) | refine TC.seq ?_ | refine TC.region ?_ | refine TR.nil ?_ | refine Post.then_normal ?_ | refine TC.ret ?_ | (apply TR.gs_t (o := ⟨_, .move _, _, _, _, _⟩); exact rfl; exact rfl; exact rfl; exact rfl; (first | exact Wd.plain rfl | exact Wd.on rfl rfl rfl); exact EvS.move rfl; (first | exact rfl | assumption)) | (apply TR.st1; exact rfl; exact rfl; exact rfl; (first | exact Wd.plain rfl | exact Wd.on rfl rfl rfl); (first | exact EvS.move rfl | exact EvS.assign rfl | (first | exact EvS.eq64 rfl rfl (by first | with_reducible exact U64.var _ | exact U64.lit rfl) (by first | with_reducible exact U64.var _ | exact U64.lit rfl) | exact EvS.eqI rfl rfl | exact EvS.eqB rfl rfl) | (first | exact EvS.pick_t rfl rfl | exact EvS.pick_f rfl rfl) | exact EvS.extract rfl rfl)))
    refine Post.body_ret _ (ResL.one rfl (ResV.tmp rfl)) ?_
    exact fun w h => ⟨rfl, (h.weaken (((k1.trans k2).trans k3).trans k4)).tail.tail⟩
  | false =>
    rw [hfo] at hsp hsv
    replace hsp : solveP p most = (F.sols, (F.nodes : Int), 0) := hsp
    rw [hsp] at hso
    have hnn : ((F.nodes : Int) != (F.nodes : Int)) = false := by simp
    refine calls_of_TC (args := [_, _]) Tryd.func3 rfl Tryd.ntmps3 (Nat.le_of_ble_eq_true rfl) hs ?_
    repeat' (first | (apply TR.ch1; exact rfl; exact rfl; exact rfl; (first | exact Wd.plain rfl | exact Wd.on rfl rfl rfl); (first | exact EvC.callV rfl rfl (fun w hs => hsm w _ hs) | exact EvC.callV rfl rfl (fun w hs => hop w _ hs)); rintro ⟨⟩) | refine TC.seq ?_ | refine TC.region ?_ | refine TR.nil ?_ | refine Post.then_normal ?_ | refine TC.skip ?_ | (apply TC.cond_bf; exact rfl; assumption) | (apply TR.gs_f (o := ⟨_, .move _, _, _, _, _⟩); exact rfl; exact rfl; exact rfl; exact rfl; (first | exact Wd.plain rfl | exact Wd.on rfl rfl rfl); exact EvS.move rfl; (first | exact rfl | assumption)) | (apply TR.st1; exact rfl; exact rfl; exact rfl; (first | exact Wd.plain rfl | exact Wd.on rfl rfl rfl); (first | exact EvS.move rfl | exact EvS.assign rfl | (first | (apply EvS.load1; exact rfl; (first | exact Reads.mem (by assumption) | exact Reads.own (by repeat first | exact List.Mem.head _ | assumption | apply List.Mem.tail)); (first | assumption | exact nthL_arr rfl | exact rfl)) | (apply EvS.loadW; exact rfl; (first | exact Reads.mem (by assumption) | exact Reads.own (by repeat first | exact List.Mem.head _ | assumption | apply List.Mem.tail)); first | exact rfl | assumption) | (apply EvS.loadH; exact rfl; (first | exact Reads.mem (by assumption) | exact Reads.own (by repeat first | exact List.Mem.head _ | assumption | apply List.Mem.tail)); assumption; first | exact rfl | assumption)) | (first | exact EvS.not rfl | exact EvS.neg64 rfl (by first | with_reducible exact U64.var _ | exact U64.lit rfl)) | exact EvS.gtI rfl rfl | (first | exact EvS.pick_t rfl rfl | exact EvS.pick_f rfl rfl))) | (apply TR.ch1 (o := ⟨_, .box _ _, _, _, _, _⟩) ; exact rfl; exact rfl; exact rfl; (first | exact Wd.plain rfl | exact Wd.on rfl rfl rfl); exact EvC.boxA rfl; intro g))
    (apply TR.ch1 (o := ⟨_, .call _, _, _, _, _⟩); exact rfl; exact rfl; exact rfl; exact Wd.plain rfl; exact EvC.callXS rfl rfl (fun w hs => hso w _ hs); rintro ⟨⟨m1, A1, c1⟩, k1, hS1, _⟩)
    simp only at k1 hS1 ⊢
    repeat' (first | refine TC.seq ?_ | refine TC.region ?_ | refine TR.nil ?_ | refine Post.then_normal ?_ | (apply TR.st1; exact rfl; exact rfl; exact rfl; (first | exact Wd.plain rfl | exact Wd.on rfl rfl rfl); (first | exact EvS.move rfl | exact EvS.assign rfl | (first | (apply EvS.load1; exact rfl; (first | exact Reads.mem (by assumption) | exact Reads.own (by repeat first | exact List.Mem.head _ | assumption | apply List.Mem.tail)); (first | assumption | exact nthL_arr rfl | exact rfl)) | (apply EvS.loadW; exact rfl; (first | exact Reads.mem (by assumption) | exact Reads.own (by repeat first | exact List.Mem.head _ | assumption | apply List.Mem.tail)); first | exact rfl | assumption) | (apply EvS.loadH; exact rfl; (first | exact Reads.mem (by assumption) | exact Reads.own (by repeat first | exact List.Mem.head _ | assumption | apply List.Mem.tail)); assumption; first | exact rfl | assumption)) | exact EvS.extract rfl rfl)))
    (apply TR.ch1 (o := ⟨_, .call _, _, _, _, _⟩); exact rfl; exact rfl; exact rfl; exact Wd.plain rfl; exact EvC.callXS rfl rfl (fun w hs => hco m1 k1 w _ hs); rintro ⟨⟨m2, A2, c2⟩, k2, hS2⟩)
    simp only at k2 hS2 ⊢
    repeat' (first | (apply TR.ch1 (o := ⟨_, .call _, _, _, _, _⟩); exact rfl; exact rfl; exact rfl; (first | exact Wd.plain rfl | exact Wd.on rfl rfl rfl); exact EvC.callV rfl rfl (fun w hs => hpr m2 (k1.trans k2) w _ hs); rintro ⟨⟩) | refine TC.seq ?_ | refine TC.region ?_ | refine TR.nil ?_ | refine Post.then_normal ?_ | refine TC.skip ?_ | (apply TC.cond_f; exact rfl) | (apply TC.cond_bf; exact rfl; assumption) | (apply TR.gs_f (o := ⟨_, .move _, _, _, _, _⟩); exact rfl; exact rfl; exact rfl; exact rfl; (first | exact Wd.plain rfl | exact Wd.on rfl rfl rfl); exact EvS.move rfl; (first | exact rfl | assumption)) | (apply TR.st1; exact rfl; exact rfl; exact rfl; (first | exact Wd.plain rfl | exact Wd.on rfl rfl rfl); (first | exact EvS.move rfl | exact EvS.assign rfl | (first | (apply EvS.load1; exact rfl; (first | exact Reads.mem (by assumption) | exact Reads.own (by repeat first | exact List.Mem.head _ | assumption | apply List.Mem.tail)); (first | assumption | exact nthL_arr rfl | exact rfl)) | (apply EvS.loadW; exact rfl; (first | exact Reads.mem (by assumption) | exact Reads.own (by repeat first | exact List.Mem.head _ | assumption | apply List.Mem.tail)); first | exact rfl | assumption) | (apply EvS.loadH; exact rfl; (first | exact Reads.mem (by assumption) | exact Reads.own (by repeat first | exact List.Mem.head _ | assumption | apply List.Mem.tail)); assumption; first | exact rfl | assumption)) | (first | exact EvS.not rfl | exact EvS.neg64 rfl (by first | with_reducible exact U64.var _ | exact U64.lit rfl)) | exact EvS.ltI rfl rfl | exact EvS.gtI rfl rfl | (first | exact EvS.pick_t rfl rfl | exact EvS.pick_f rfl rfl) | exact EvS.extract rfl rfl)))
    (apply TR.ch1 (o := ⟨_, .call _, _, _, _, _⟩); exact rfl; exact rfl; exact rfl; exact Wd.plain rfl; exact EvC.callXS rfl rfl (fun w hs => hsv m2 (k1.trans k2) w _ hs); rintro ⟨⟨m3, A3, c3⟩, k3, hS3⟩)
    simp only at k3 hS3 ⊢
    have hss := fun (w : World) (L : Own) (hs : St m3 L w) => sameSets_c A1 A3 c1 c3 F.sols F.sols m3 (hS1.mono (k2.trans k3)) hS3 L w hs
    rw [show decide (F.sols = F.sols) = true by simp] at hss
    repeat' (first | (apply TR.ch1 (o := ⟨_, .call _, _, _, _, _⟩); exact rfl; exact rfl; exact rfl; (first | exact Wd.plain rfl | exact Wd.on rfl rfl rfl); exact EvC.callV rfl rfl (fun w hs => hss w _ hs); rintro ⟨⟩) | refine TC.seq ?_ | refine TC.region ?_ | refine TR.nil ?_ | refine Post.then_normal ?_ | refine TC.skip ?_ | (apply TC.cond_bf; exact rfl; assumption) | (apply TR.sk1 (o := ⟨_, _, _, _, _, some _⟩); exact rfl; exact rfl; (first | exact Wd.off rfl rfl rfl rfl | exact Wd.offU rfl rfl rfl)) | (apply TR.gs_t (o := ⟨_, .move _, _, _, _, _⟩); exact rfl; exact rfl; exact rfl; exact rfl; (first | exact Wd.plain rfl | exact Wd.on rfl rfl rfl); exact EvS.move rfl; (first | exact rfl | assumption)) | (apply TR.gs_f (o := ⟨_, .move _, _, _, _, _⟩); exact rfl; exact rfl; exact rfl; exact rfl; (first | exact Wd.plain rfl | exact Wd.on rfl rfl rfl); exact EvS.move rfl; (first | exact rfl | assumption)) | (apply TR.st1; exact rfl; exact rfl; exact rfl; (first | exact Wd.plain rfl | exact Wd.on rfl rfl rfl); (first | exact EvS.move rfl | exact EvS.fieldAddr rfl | (first | (apply EvS.load1; exact rfl; (first | exact Reads.mem (by assumption) | exact Reads.own (by repeat first | exact List.Mem.head _ | assumption | apply List.Mem.tail)); (first | assumption | exact nthL_arr rfl | exact rfl)) | (apply EvS.loadW; exact rfl; (first | exact Reads.mem (by assumption) | exact Reads.own (by repeat first | exact List.Mem.head _ | assumption | apply List.Mem.tail)); first | exact rfl | assumption) | (apply EvS.loadH; exact rfl; (first | exact Reads.mem (by assumption) | exact Reads.own (by repeat first | exact List.Mem.head _ | assumption | apply List.Mem.tail)); assumption; first | exact rfl | assumption)) | (first | exact EvS.not rfl | exact EvS.neg64 rfl (by first | with_reducible exact U64.var _ | exact U64.lit rfl)) | (first | exact EvS.ne64 rfl rfl (by first | with_reducible exact U64.var _ | exact U64.lit rfl) (by first | with_reducible exact U64.var _ | exact U64.lit rfl) | exact EvS.neB rfl rfl | exact EvS.neI rfl rfl) | (first | exact EvS.pick_t rfl rfl | exact EvS.pick_f rfl rfl))) | (apply TR.ch1 (o := ⟨_, .alloc _, _, _, _, _⟩) ; exact rfl; exact rfl; exact rfl; (first | exact Wd.plain rfl | exact Wd.on rfl rfl rfl); exact EvC.alloc; intro g) | (apply TR.ch0 (o := ⟨_, .store _ _ _, _, _, _, _⟩) ; exact rfl; exact rfl; (first | exact Wd.plain rfl | exact Wd.on rfl rfl rfl); exact EvC.storeW rfl rfl (by first | exact rfl | assumption) (by first | exact bArr_one _ | exact rfl | (intro v hv; simp at hv; rcases hv with rfl | rfl | rfl | rfl | rfl | rfl | rfl | rfl <;> rfl)) (by repeat first | exact Upd.head | apply Upd.tail) (by first | exact rfl | assumption); rintro ⟨⟩))
    (apply TR.ch1 (o := ⟨_, .call _, _, _, _, _⟩); exact rfl; exact rfl; exact rfl; exact Wd.plain rfl; exact EvC.callXS rfl rfl (fun w hs => hcr m3 ((k1.trans k2).trans k3) w _ hs); rintro ⟨⟨m4, A4, c4⟩, k4, hS4⟩)
    simp only at k4 hS4 ⊢
    have hsi := fun (w : World) (L : Own) (hs : St m4 L w) => sameInts_c A2 A4 c2 c4 (zs (coreP p).1) (zs (coreP p).1) m4 (hS2.mono (k3.trans k4)) hS4 L w hs
    rw [zs_length, show decide (zs (coreP p).1 = zs (coreP p).1) = true by simp] at hsi
    repeat' (first | (apply TR.ch1; exact rfl; exact rfl; exact rfl; (first | exact Wd.plain rfl | exact Wd.on rfl rfl rfl); (first | exact EvC.callV rfl rfl (fun w hs => hsi w _ hs) | exact EvC.callV rfl rfl (fun w hs => hwk m4 (((k1.trans k2).trans k3).trans k4) w _ hs)); rintro ⟨⟩) | refine TC.seq ?_ | refine TC.region ?_ | refine TR.nil ?_ | refine Post.then_normal ?_ | refine TC.ret ?_ | (apply TR.gs_t (o := ⟨_, .move _, _, _, _, _⟩); exact rfl; exact rfl; exact rfl; exact rfl; (first | exact Wd.plain rfl | exact Wd.on rfl rfl rfl); exact EvS.move rfl; (first | exact rfl | assumption)) | (apply TR.st1; exact rfl; exact rfl; exact rfl; (first | exact Wd.plain rfl | exact Wd.on rfl rfl rfl); (first | exact EvS.move rfl | exact EvS.assign rfl | (first | exact EvS.eq64 rfl rfl (by first | with_reducible exact U64.var _ | exact U64.lit rfl) (by first | with_reducible exact U64.var _ | exact U64.lit rfl) | exact EvS.eqI rfl rfl | exact EvS.eqB rfl rfl) | (first | exact EvS.pick_t rfl rfl | exact EvS.pick_f rfl rfl) | exact EvS.extract rfl rfl)))
    refine Post.body_ret _ (ResL.one rfl (ResV.tmp rfl)) ?_
    exact fun w h => ⟨rfl, (h.weaken (((k1.trans k2).trans k3).trans k4)).tail.tail⟩
end Go.Proofs.YtgpgjpcebajofaaDoor
