import Derived.Test.YtgpgjpcebajofaaGreatDoorZL
set_option linter.unusedVariables false
set_option linter.unusedSimpArgs false
set_option linter.all false
set_option maxHeartbeats 4000000
set_option linter.unusedVariables false
set_option linter.unusedSimpArgs false
set_option maxRecDepth 100000
namespace Go.Proofs.YtgpgjpcebajofaaGreatDoor
open Go Go.XC Go.RowKit Go.SetsP
attribute [local irreducible] Post TC TR D WL EvS EvC Wd ResL Code.wpIn Exit.then Exit.inBlock Exit.noGoto LoopK LoopP bodyPostM Reads Calls

attribute [local irreducible] partsB ens waysP foundP waysO
theorem loose_00 (p : Pb) (pcs : Array Value) (hck : checkB p = true) (by_ : Nat) (hby : by_ < 256) (m : Mem) (hT : TabM m) (hpc : PbC m p pcs) (L : Own) (w : World) (hs : St m L w) (hE : (solveP p (1 + ((by_ % 100 : Nat) : Int))).2.2 = 0) (hF : (coreP p).2 = 0) :
    Calls Tryz.prog 7 #[.agg pcs, .int .u8 (by_ : Int)] w fun x w' => x = .returned (.bool true) ∧ St m L w' := by
  have hp := OkP.of hck
  have h8 := hp.ok.b8
  have h12 := hp.ok.r12
  obtain ⟨most, hmost⟩ : ∃ y : Int, y = 1 + ((by_ % 100 : Nat) : Int) := ⟨_, rfl⟩
  rw [← hmost] at hE
  have hm1 : 1 ≤ most := by omega
  have hm2 : most ≤ 100 := by omega
  have R := solve_spec hck hm1 hm2
  have C := core_spec hck
  have hsol := fun (w : World) (L : Own) (hs : St m L w) => solve_c p pcs most (by omega) (by omega) m hT hpc L w hs
  have hcor := fun (m1 : Mem) (hm : m.Le m1) (w : World) (L : Own) (hs : St m1 L w) => core_ok p pcs hck m1 (hT.mono hm) (hpc.mono hm) L w hs
  generalize solveP p most = sp at R hsol hE
  generalize coreP p = cp at C hcor hF
  obtain ⟨s, n, e⟩ := sp
  obtain ⟨co, f⟩ := cp
  simp only at R C hsol hcor hE hF
  subst hE hF
  have hpc0 := hpc
  obtain ⟨BA, bc, RA, rc, rfl, hBA, hRA⟩ := hpc
  have hq1 : decide (most < (s.length : Int)) = false := by have := R.le; simp; omega
  have hq4 : decide (0 < (s.length : Int)) = false := by rw [core_f0 R C rfl]; rfl
  have hq2 : decide (n < 1) = false := by have := R.n1 rfl; simp; omega
  have hq3 : decide (200 < n) = false := by have := R.n1 rfl; simp; omega
  refine calls_of_TC (args := [_, _]) Tryz.func7 rfl Tryz.ntmps7 (Nat.le_of_ble_eq_true rfl) hs ?_
  repeat' (first | rw [← hmost] | (apply a_call; exact EvC.callX rfl rfl (fun w hs => hsol w _ hs); exact rfl; exact wd; rintro ⟨⟨m1, A1, c1⟩, hle1, hS1, hcc1⟩; simp only at hle1 hS1 hcc1 ⊢) | (apply a_call; exact EvC.callX rfl rfl (fun w hs => hcor _ hle1 w _ hs); exact rfl; exact wd; rintro ⟨⟨m2, A2, c2⟩, hle2, hS2⟩; simp only at hle2 hS2 ⊢) | refine TC.seq ?_ | refine TC.region ?_ | refine TR.nil ?_ | refine Post.then_normal ?_ | refine TC.block ?_ | refine TC.skip ?_ | (apply TC.cond_bf; exact rfl; assumption) | (apply a_sk; exact a_sks) | (apply a_gt; exact a_gss; (first | exact rfl | assumption)) | (apply a_gf; exact a_gss; (first | exact rfl | assumption)) | (apply TR.st1; exact rfl; exact rfl; exact rfl; (first | exact Wd.plain rfl | exact Wd.on rfl rfl rfl); (first | exact EvS.convN rfl (by omega) | exact EvS.remI (b := 100) rfl rfl (by decide))) | (apply a_move; exact a_moves) | (apply a_assign; exact a_assigns) | (apply a_load; exact a_loads) | (apply a_len; exact a_lens) | (apply a_beql; exact a_beqls) | (apply a_bneq; exact a_bneqs) | (apply a_blss; exact a_blsss) | (apply a_bgtr; exact a_bgtrs) | (apply a_badd; exact a_badds) | (apply a_pick; exact a_picks) | (apply a_extract; exact a_extracts) | (apply c_boxA; exact c_boxAs; exact rfl; intro g))
  obtain ⟨gp, hgp⟩ : ∃ y, y = g := ⟨_, rfl⟩
  subst hgp
  have hle := hle1.trans hle2
  have hS1' := hS1.mono hle2
  have hBA2 := hBA.mono hle
  have hRA2 := hRA.mono hle
  have hsb := hS1.big
  have hcl := core_len hp C
  refine TC.loopP (X := Nat) (fun k => k ≤ s.length) (fun k => [(74, .int .i64 (k : Int)), (73, .int .i64 (s.length : Int)), (72, .slice A1 s.length c1), (10, .int .i64 0), (9, .slice A2 co.length c2), (8, .int .i64 0), (7, .int .i64 n), (6, .slice A1 s.length c1), (5, .int .i64 most), (4, .bool false), (2, .pointer (some ⟨gp, 0, none⟩)), (1, .int .u8 (by_ : Int))]) (fun _ => St m2 (some (gp, Obj.cells #[.slice BA p.bounds.length bc, .slice RA p.rules.length rc] 25 (0, 0)) :: L)) (fun k => s.length - k) 0 (by omega) inc (fun w h => h) ?_
  intro k hk
  by_cases hlt : k < s.length
  · obtain ⟨x, hx⟩ : ∃ x, s[k]? = some x := ⟨_, List.getElem?_eq_getElem hlt⟩
    obtain ⟨g3, o3, blk3, T3, fr3, W, cw, hAe, hm3, hc3, hW⟩ := hS1'.get hx
    have hd : decide ((k : Int) < (s.length : Int)) = true := by simpa using hlt
    obtain ⟨hxl, hxb, hxr⟩ := (sols_bt hp).1 (R.sound x (List.mem_of_getElem? hx))
    have hxn : ((x.length : Int) != (p.bounds.length : Int)) = false := by rw [hxl]; simp
    have hno : (s.take k).any (fun y => decide (y = x)) = false := by
      rw [List.any_eq_false]
      intro y hy
      obtain ⟨j, hj⟩ := List.getElem?_of_mem hy
      rw [List.getElem?_take] at hj
      split at hj
      · rename_i hjk
        intro he
        have he := of_decide_eq_true he
        subst he
        obtain ⟨q1, q2⟩ := List.getElem?_eq_some_iff.1 hj
        obtain ⟨q3, q4⟩ := List.getElem?_eq_some_iff.1 hx
        have := (List.pairwise_iff_getElem.1 R.nodup) j k q1 q3 hjk
        rw [q2, q4] at this
        exact this rfl
      · cases hj
    have htl : (s.take k).length = k := by simp; omega
    have hbt := fun (w : World) (L : Own) (hs : St m2 L w) => between_c BA W bc cw p.bounds x hxl m2 hBA2 hW L w hs
    rw [hxb] at hbt
    have hru : ∀ (g T : Nat) (L : Own) (w : World), St m2 (some (g, .cells #[.slice W x.length cw] T (0, 0)) :: L) w → Calls Tryz.prog 27 #[.slice RA p.rules.length rc, .func (.func 28) #[] #[.pointer (some ⟨g, 0, none⟩)]] w fun z w' => z = .returned (.bool false) ∧ St m2 (some (g, .cells #[.slice W x.length cw] T (0, 0)) :: L) w' := fun g T L w hs => by
      have := containsRl_c 28 #[.pointer (some ⟨g, 0, none⟩)] (fun r => !heldB r x) RA rc p.rules m2 _ w hs hRA2 (fun r B c hr hB w hs => neg_loose1 hp hxl hW (List.Mem.head _) r B c hr hB w hs)
      rw [hxr] at this
      exact this
    have hdu : ∀ (g T : Nat) (L : Own) (w : World), St m2 (some (g, .cells #[.slice W x.length cw] T (0, 0)) :: L) w → Calls Tryz.prog 30 #[.slice A1 k c1, .func (.func 31) #[] #[.pointer (some ⟨g, 0, none⟩)]] w fun z w' => z = .returned (.bool false) ∧ St m2 (some (g, .cells #[.slice W x.length cw] T (0, 0)) :: L) w' := fun g T L w hs => by
      have := containsL_c 31 #[.pointer (some ⟨g, 0, none⟩)] (fun y => decide (y = x)) A1 c1 (s.take k) _ _ _ hs (SolS.take hS1' k) (fun y _ B cb hB w hs => eq_loose2 hW (List.Mem.head _) y B cb hB w hs)
      rw [hno, htl] at this
      exact this
    repeat' (first | (apply a_call; exact EvC.callV rfl rfl (fun w hs => hbt w _ hs); exact rfl; exact wd; rintro ⟨⟩) | (apply a_call; exact EvC.callV rfl rfl (fun w hs => hru _ _ _ w hs); exact rfl; exact wd; rintro ⟨⟩) | (apply a_call; exact EvC.callV rfl rfl (fun w hs => hdu _ _ _ w hs); exact rfl; exact wd; rintro ⟨⟩) | refine TC.seq ?_ | refine TC.region ?_ | refine TR.nil ?_ | refine Post.then_normal ?_ | refine TC.block ?_ | refine TC.skip ?_ | (apply TC.cond_f; exact rfl) | (apply TC.cond_bt; exact rfl; assumption) | refine Post.block_normal ?_ | (apply a_gf; exact a_gss; (first | exact rfl | assumption)) | (apply TR.st1 (o := ⟨_, .slice _ _ _ _ _, _, _, _, _⟩); exact rfl; exact rfl; exact rfl; (first | exact Wd.plain rfl | exact Wd.on rfl rfl rfl); exact EvS.sliceHi rfl rfl hAe (by omega)) | (apply a_move; exact a_moves) | (apply a_assign; exact a_assigns) | (apply a_fieldAddr; exact a_fieldAddrs) | (apply a_load; exact a_loads) | (apply a_len; exact a_lens) | (apply a_unOp; exact a_unOps) | (apply a_bneq; exact a_bneqs) | (apply a_blss; exact a_blsss) | (apply a_badd; exact a_badds) | (apply a_pick; exact a_picks) | (apply a_indexAddr; exact a_indexAddrs) | (apply a_makeFunc; exact a_makeFuncs) | (apply c_alloc; exact c_allocs; exact rfl; intro g) | (apply c_store1; exact c_store1s; rintro ⟨⟩))
    exact Post.nextP (k + 1) (by omega) inc (fun w h => h.tail) (by omega)
  · have hd : decide ((k : Int) < (s.length : Int)) = false := by simpa using hlt
    repeat' (first | refine TC.seq ?_ | refine TC.region ?_ | refine TR.nil ?_ | refine Post.then_normal ?_ | refine TC.block ?_ | refine TC.skip ?_ | refine TC.exit ?_ | (apply TC.cond_f; exact rfl) | (apply TC.cond_bf; exact rfl; assumption) | refine Post.then_exit ?_ | refine Post.block_here ?_ | (apply a_sk; exact a_sks) | (apply a_gt; exact a_gss; (first | exact rfl | assumption)) | (apply a_gf; exact a_gss; (first | exact rfl | assumption)) | (apply a_move; exact a_moves) | (apply a_len; exact a_lens) | (apply a_beql; exact a_beqls) | (apply a_bneq; exact a_bneqs) | (apply a_blss; exact a_blsss) | (apply a_bgtr; exact a_bgtrs) | (apply a_pick; exact a_picks))
    clear hd hlt hk
    refine TC.loopP (X := Nat) (fun k => k ≤ co.length) (fun k => [(147, .int .i64 (k : Int)), (146, .int .i64 (co.length : Int)), (145, .slice A2 co.length c2), (10, .int .i64 0), (9, .slice A2 co.length c2), (8, .int .i64 0), (6, .slice A1 s.length c1), (5, .int .i64 most), (4, .bool false), (2, .pointer (some ⟨gp, 0, none⟩)), (1, .int .u8 (by_ : Int))]) (fun _ => St m2 (some (gp, Obj.cells #[.slice BA p.bounds.length bc, .slice RA p.rules.length rc] 25 (0, 0)) :: L)) (fun k => co.length - k) 0 (by omega) inc (fun w h => h) ?_
    intro k hk
    by_cases hlt : k < co.length
    · obtain ⟨r, hr⟩ : ∃ r, co[k]? = some r := ⟨_, List.getElem?_eq_getElem hlt⟩
      obtain ⟨g3, o3, blk3, T3, fr3, hAe, hm3, hc3⟩ := hS2.get1 (k := k) (v := .int .i64 (r : Int)) (by simp [ints, zs, hr])
      have hd : decide ((k : Int) < (co.length : Int)) = true := by simpa using hlt
      obtain ⟨hrl, hrp⟩ := core_lt C hr
      have hr0 : decide ((r : Int) < 0) = false := by simp
      have hr1 : decide ((r : Int) ≥ (p.rules.length : Int)) = false := by simp; omega
      by_cases hk0 : 0 < k
      · obtain ⟨r', hr'⟩ : ∃ r', co[k - 1]? = some r' := ⟨_, List.getElem?_eq_getElem (by omega)⟩
        obtain ⟨g4, o4, blk4, T4, fr4, hAe4, hm4, hc4⟩ := hS2.get1 (k := k - 1) (v := .int .i64 (r' : Int)) (by simp [ints, zs, hr'])
        rw [hAe] at hAe4
        cases hAe4
        rw [hm3] at hm4
        cases hm4
        have hk1 : decide ((k : Int) > 0) = true := by simp; omega
        have hlp := hrp r' hk0 hr'
        have hrr : decide ((r : Int) ≤ (r' : Int)) = false := by simp; omega
        have hkk : (k : Int) - 1 = ((k - 1 : Nat) : Int) := by omega
        repeat' (first | rw [hkk] | refine TC.seq ?_ | refine TC.region ?_ | refine TR.nil ?_ | refine Post.then_normal ?_ | refine TC.block ?_ | refine TC.skip ?_ | (apply TC.cond_bt; exact rfl; assumption) | (apply TC.cond_bf; exact rfl; assumption) | refine Post.block_normal ?_ | (apply a_gt; exact a_gss; (first | exact rfl | assumption)) | (apply a_gf; exact a_gss; (first | exact rfl | assumption)) | (apply a_move; exact a_moves) | (apply a_assign; exact a_assigns) | (apply a_fieldAddr; exact a_fieldAddrs) | (apply a_load; exact a_loads) | (apply a_len; exact a_lens) | (apply a_blss; exact a_blsss) | (apply a_bleq; exact a_bleqs) | (apply a_bgtr; exact a_bgtrs) | (apply a_bgeq; exact a_bgeqs) | (apply a_badd; exact a_badds) | (apply a_bsub; exact a_bsubs) | (apply a_pick; exact a_picks) | (apply a_indexAddr; exact a_indexAddrs))
        exact Post.nextP (k + 1) (by omega) inc (fun w h => h) (by omega)
      · have hk1 : decide ((k : Int) > 0) = false := by simp; omega
        repeat' (first | refine TC.seq ?_ | refine TC.region ?_ | refine TR.nil ?_ | refine Post.then_normal ?_ | refine TC.block ?_ | refine TC.skip ?_ | (apply TC.cond_f; exact rfl) | (apply TC.cond_bt; exact rfl; assumption) | refine Post.block_normal ?_ | (apply a_sk; exact a_sks) | (apply a_gf; exact a_gss; (first | exact rfl | assumption)) | (apply a_move; exact a_moves) | (apply a_assign; exact a_assigns) | (apply a_fieldAddr; exact a_fieldAddrs) | (apply a_load; exact a_loads) | (apply a_len; exact a_lens) | (apply a_blss; exact a_blsss) | (apply a_bgtr; exact a_bgtrs) | (apply a_bgeq; exact a_bgeqs) | (apply a_badd; exact a_badds) | (apply a_pick; exact a_picks) | (apply a_indexAddr; exact a_indexAddrs))
        exact Post.nextP (k + 1) (by omega) inc (fun w h => h) (by omega)
    · have hd : decide ((k : Int) < (co.length : Int)) = false := by simpa using hlt
      repeat' (first | refine TC.seq ?_ | refine TC.region ?_ | refine TR.nil ?_ | refine Post.then_normal ?_ | refine TC.block ?_ | refine TC.exit ?_ | (apply TC.cond_bf; exact rfl; assumption) | refine Post.then_exit ?_ | refine Post.block_here ?_ | (apply a_move; exact a_moves) | (apply a_blss; exact a_blsss))
      clear hd hlt hk
      have hpc2 := hpc0.mono hle
      have hdr : ∀ (m' : Mem) (hm : m2.Le m') (gb T : Nat) (a b c : BV) (w : World) (L : Own), St m' (some (gb, .cells #[u64v a, u64v b, u64v c] T (0, 0)) :: L) w → Calls Tryz.prog 33 #[.slice BA p.bounds.length bc, .slice (some ⟨gb, 0, none⟩) 3 3] w fun x w' => ∃ y : UsX m' p.bounds.length, x = .returned (.slice y.1.2.1.1 p.bounds.length y.1.2.1.2) ∧ St y.1.1 L w' := fun m' hm gb T a b c w L hs => by
        obtain ⟨k1, k2⟩ := lend hs
        have hrw : OwnRow (.slice (some ⟨gb, 0, none⟩) 3 3) T 1 3 (u64s [a, b, c]).flatten (some (gb, .cells #[u64v a, u64v b, u64v c] T (0, 0))) := OwnRow.lit (cs := #[u64v a, u64v b, u64v c]) rfl (by decide)
        obtain ⟨A9, c9, q1, _, hSb⟩ := OwnRow.lent (m := m') hrw (u64s_len _) rfl (by omega)
        injection q1 with q1 q2 q3
        subst q1
        refine (drawn_c BA (some ⟨gb, 0, none⟩) bc 3 p.bounds [a, b, c] (by omega) _ ((hBA2.mono hm).mono k1) hSb L w k2).mono fun x w' ⟨y, h1, h2⟩ => ?_
        obtain ⟨y, q1, q2, q3⟩ := y
        exact ⟨⟨y, k1.trans q1, q2, q3⟩, h1, h2⟩
      have hmd : ∀ (m' : Mem) (hm : m2.Le m') (A : Option Addr) (c : Nat) (l : List BV) (hl : l.length = p.bounds.length) (hS : Sl m' 1 A (u64s l)) (w : World) (L : Own), St m' L w → Calls Tryz.prog 34 #[.agg #[.slice BA p.bounds.length bc, .slice RA p.rules.length rc], .slice A p.bounds.length c] w fun x w' => ∃ y : UsX m' p.bounds.length, x = .returned (.slice y.1.2.1.1 p.bounds.length y.1.2.1.2) ∧ St y.1.1 L w' := fun m' hm A c l hl hS w L hs => by
        have := mended_c p _ hp A c l hl m' (hpc2.mono hm) hS L w hs
        rw [hl] at this
        exact this
      have hbw : ∀ (m' : Mem) (hm : m2.Le m') (A : Option Addr) (c : Nat) (l : List BV) (hl : l.length = p.bounds.length) (hS : Sl m' 1 A (u64s l)) (b : Bool) (hb : betweenB p.bounds l = b) (w : World) (L : Own), St m' L w → Calls Tryz.prog 26 #[.slice BA p.bounds.length bc, .slice A p.bounds.length c] w fun x w' => x = .returned (.bool b) ∧ St m' L w' := fun m' hm A c l hl hS b hb w L hs => by
        have := between_c BA A bc c p.bounds l hl m' (hBA2.mono hm) hS L w hs
        rw [hl, hb] at this
        exact this
      have hch := fun (m' : Mem) (hm : m2.Le m') (w : World) (L : Own) (hs : St m' L w) => chosen_c p _ A2 c2 co (-1) (fun k hk => by
        obtain ⟨i, hi⟩ := List.getElem?_of_mem hk
        exact (core_lt C hi).1) hcl.2 m' (hpc2.mono hm) (hS2.mono hm) L w hs
      rw [pkA_none] at hch
      have hps : OkP (selP p co) := hp.sel (fun k hk => by
        obtain ⟨i, hi⟩ := List.getElem?_of_mem hk
        exact (core_lt C hi).1) hcl.2
      have hn4 : ∀ (m' : Mem) (A B : Option Addr) (c rc' : Nat) (l : List BV) (hl : l.length = p.bounds.length) (hS : Sl m' 1 A (u64s l)) (hR : RlS m' B (selP p co).rules) (b : Bool) (hb : (selP p co).rules.any (fun r => !heldB r l) = b) (gl gf Tl Tf : Nat) (w : World) (L : Own), St m' (some (gf, .cells #[.func (.func 35) #[] #[.pointer (some ⟨gl, 0, none⟩)]] Tf (0, 0)) :: some (gl, .cells #[.slice A p.bounds.length c] Tl (0, 0)) :: L) w →
          Calls Tryz.prog 27 #[.slice B (selP p co).rules.length rc', .func (.func 36) #[] #[.pointer (some ⟨gf, 0, none⟩)]] w fun z w' => z = .returned (.bool b) ∧ St m' (some (gf, .cells #[.func (.func 35) #[] #[.pointer (some ⟨gl, 0, none⟩)]] Tf (0, 0)) :: some (gl, .cells #[.slice A p.bounds.length c] Tl (0, 0)) :: L) w' := fun m' A B c rc' l hl hS hR b hb gl gf Tl Tf w L hs => by
        rw [← hl] at hs ⊢
        have := containsRl_c 36 #[.pointer (some ⟨gf, 0, none⟩)] (fun r => !heldB r l) B rc' (selP p co).rules m' _ w hs hR (fun r B c hr hB w hs => neg2_loose4 hps hl hS (List.Mem.tail _ (List.Mem.head _)) (List.Mem.head _) r B c hr hB w hs)
        rw [hb] at this
        exact this
      have hn5 : ∀ (m' : Mem) (hm : m2.Le m') (A : Option Addr) (c : Nat) (l : List BV) (hl : l.length = p.bounds.length) (hS : Sl m' 1 A (u64s l)) (b : Bool) (hb : p.rules.any (fun r => !heldB r l) = b) (gl gf Tl Tf : Nat) (w : World) (L : Own), St m' (some (gf, .cells #[.func (.func 35) #[] #[.pointer (some ⟨gl, 0, none⟩)]] Tf (0, 0)) :: some (gl, .cells #[.slice A p.bounds.length c] Tl (0, 0)) :: L) w →
          Calls Tryz.prog 27 #[.slice RA p.rules.length rc, .func (.func 37) #[] #[.pointer (some ⟨gf, 0, none⟩)]] w fun z w' => z = .returned (.bool b) ∧ St m' (some (gf, .cells #[.func (.func 35) #[] #[.pointer (some ⟨gl, 0, none⟩)]] Tf (0, 0)) :: some (gl, .cells #[.slice A p.bounds.length c] Tl (0, 0)) :: L) w' := fun m' hm A c l hl hS b hb gl gf Tl Tf w L hs => by
        rw [← hl] at hs ⊢
        have := containsRl_c 37 #[.pointer (some ⟨gf, 0, none⟩)] (fun r => !heldB r l) RA rc p.rules m' _ w hs (hRA2.mono hm) (fun r B c hr hB w hs => neg2_loose5 hp hl hS (List.Mem.tail _ (List.Mem.head _)) (List.Mem.head _) r B c hr hB w hs)
        rw [hb] at this
        exact this
      have hn6 : ∀ (m' : Mem) (hm : m2.Le m') (A : Option Addr) (c : Nat) (l : List BV) (hl : l.length = p.bounds.length) (hS : Sl m' 1 A (u64s l)) (b : Bool) (hb : s.any (fun y => decide (y = l)) = b) (gl gf Tl : Nat) (o : Obj) (w : World) (L : Own), St m' (some (gf, o) :: some (gl, .cells #[.slice A p.bounds.length c] Tl (0, 0)) :: L) w →
          Calls Tryz.prog 30 #[.slice A1 s.length c1, .func (.func 38) #[] #[.pointer (some ⟨gl, 0, none⟩)]] w fun z w' => z = .returned (.bool b) ∧ St m' (some (gf, o) :: some (gl, .cells #[.slice A p.bounds.length c] Tl (0, 0)) :: L) w' := fun m' hm A c l hl hS b hb gl gf Tl o w L hs => by
        rw [← hl] at hs ⊢
        have := containsL_c 38 #[.pointer (some ⟨gl, 0, none⟩)] (fun y => decide (y = l)) A1 c1 s m' _ w hs (hS1'.mono hm) (fun y _ B cb hB w hs => eq_loose6 hS (List.Mem.tail _ (List.Mem.head _)) y B cb hB w hs)
        rw [hb] at this
        exact this
      refine TC.loopP (X := BV) (fun j => j.toNat ≤ 4) (fun j => [(175, .int .u64 (j.toNat : Int)), (10, .int .i64 0), (9, .slice A2 co.length c2), (8, .int .i64 0), (6, .slice A1 s.length c1), (5, .int .i64 most), (4, .bool false), (2, .pointer (some ⟨gp, 0, none⟩)), (1, .int .u8 (by_ : Int))]) (fun _ w => ∃ m', m2.Le m' ∧ St m' (some (gp, Obj.cells #[.slice BA p.bounds.length bc, .slice RA p.rules.length rc] 25 (0, 0)) :: L) w) (fun j => 4 - j.toNat) 0#64 (by decide) inc (fun w h => ⟨m2, Mem.Le.refl _, h⟩) ?_
      intro j hj
      refine TC.of_exists (X := { y : Mem // m2.Le y }) (S' := fun y => St y.1 (some (gp, Obj.cells #[.slice BA p.bounds.length bc, .slice RA p.rules.length rc] 25 (0, 0)) :: L)) (fun w h => let ⟨m', h1, h2⟩ := h; ⟨⟨m', h1⟩, h2⟩) ?_
      rintro ⟨m3, hle3⟩
      simp only
      by_cases hlt : j.toNat < 4
      · have hd : decide ((j.toNat : Int) < 4) = true := by simp; omega
        repeat' (first | (apply TR.ch1 (o := ⟨_, .buildSlice _ _ _, _, _, _, _⟩); exact rfl; exact rfl; exact rfl; exact wd; exact EvC.buildN (n := 3) (sz := 1) (cells := #[u64v (j * 21845#64), u64v ((BitVec.ofNat 64 by_ * 257#64) <<< ((j.toNat : Int)).toNat), u64v (BitVec.ofNat 64 18446744073709551615)]) rfl (by decide) (by decide) (by kernel_rfl); intro g) | (apply a_call; exact EvC.callX rfl rfl (fun w hs => hdr m3 hle3 _ _ _ _ (BitVec.ofNat 64 18446744073709551615) w _ hs); exact rfl; exact wd; rintro ⟨⟨m4, ⟨A4, c4⟩, l⟩, hle4, hl4, hS4⟩; simp only at hle4 hl4 hS4 ⊢) | (apply a_call; exact EvC.callX rfl rfl (fun w hs => hmd _ (hle3.trans hle4) _ _ _ hl4 hS4 w _ hs); exact rfl; exact wd; rintro ⟨⟨m5, ⟨A4, c4⟩, l⟩, hle5, hl4, hS4⟩; simp only at hle5 hl4 hS4 ⊢; have hle4 := hle4.trans hle5) | refine TC.seq ?_ | refine TC.region ?_ | refine TR.nil ?_ | refine Post.then_normal ?_ | refine TC.block ?_ | refine TC.skip ?_ | (apply TC.cond_bt; exact rfl; assumption) | (apply TC.cond; exact rfl; all_goals (intro h)) | (apply TR.st1; exact rfl; exact rfl; exact rfl; (first | exact Wd.plain rfl | exact Wd.on rfl rfl rfl); (first | exact EvS.conv8 rfl hby | exact EvS.remI (b := 2) rfl rfl (by decide))) | (apply a_move; exact a_moves) | (apply a_assign; exact a_assigns) | (apply a_fieldAddr; exact a_fieldAddrs) | (apply a_load; exact a_loads) | (apply a_beql; exact a_beqls) | (apply a_bmul; exact a_bmuls) | (apply a_blss; exact a_blsss) | (apply a_bshl; exact a_bshls) | (apply c_alloc; exact c_allocs; exact rfl; intro g) | (apply c_store1; exact c_store1s; rintro ⟨⟩))
        all_goals
          have hle9 := hle3.trans hle4
          have hj1 : (j + 1#64).toNat = j.toNat + 1 := by rw [BitVec.toNat_add]; show (j.toNat + 1) % 2 ^ 64 = _; omega
          cases hb : betweenB p.bounds l with
          | false =>
            repeat' (first | (apply a_call; exact EvC.callV rfl rfl (fun w hs => hbw _ hle9 _ _ _ hl4 hS4 _ hb w _ hs); exact rfl; exact wd; rintro ⟨⟩) | refine TC.region ?_ | refine TR.nil ?_ | refine Post.then_normal ?_ | refine TC.exit ?_ | (apply TC.cond_t; exact rfl) | refine Post.then_exit ?_ | refine Post.block_here ?_ | (apply a_move; exact a_moves) | (apply a_unOp; exact a_unOps) | (apply a_badd; exact a_badds))
            exact Post.nextP (j + 1#64) (by omega) inc (fun w h => ⟨_, hle9, h.tail⟩) (by omega)
          | true =>
            have hno : (0 : Int) = 0 → (selP p co).rules.any (fun r => !heldB r l) = true := fun hf => core_no hp C hf hl4 hb
            cases hal : p.rules.any (fun r => !heldB r l) with
            | true =>
              repeat' (first | (apply a_call; exact EvC.callV rfl rfl (fun w hs => hbw _ hle9 _ _ _ hl4 hS4 _ hb w _ hs); exact rfl; exact wd; rintro ⟨⟩) | (apply a_call; exact EvC.callX rfl rfl (fun w hs => hch _ hle9 w _ hs); exact rfl; exact wd; rintro ⟨⟨m6, cs6⟩, hle6, hP6⟩; simp only at hle6 hP6 ⊢; obtain ⟨BA6, bc6, RA6, rc6, rfl, hBA6, hRA6⟩ := hP6; have hle9 := hle9.trans hle6; have hS4 := hS4.mono hle6) | (apply a_call; exact EvC.callV rfl rfl (fun w hs => hn4 _ _ _ _ _ _ hl4 hS4 hRA6 _ (hno rfl) _ _ _ _ w _ hs); exact rfl; exact wd; rintro ⟨⟩) | (apply a_call; exact EvC.callV rfl rfl (fun w hs => hn5 _ hle9 _ _ _ hl4 hS4 _ hal _ _ _ _ w _ hs); exact rfl; exact wd; rintro ⟨⟩) | refine TC.seq ?_ | refine TC.region ?_ | refine TR.nil ?_ | refine Post.then_normal ?_ | refine TC.skip ?_ | (apply TC.cond_f; exact rfl) | refine Post.block_normal ?_ | (apply a_sk; exact a_sks) | (apply a_gt; exact a_gss; (first | exact rfl | assumption)) | (apply a_gf; exact a_gss; (first | exact rfl | assumption)) | (apply TR.st1 (o := ⟨_, _, _, _, _, _⟩); exact rfl; exact rfl; exact rfl; (first | exact Wd.plain rfl | exact Wd.on rfl rfl rfl); exact EvS.fieldR rfl) | (apply a_move; exact a_moves) | (apply a_assign; exact a_assigns) | (apply a_fieldAddr; exact a_fieldAddrs) | (apply a_load; exact a_loads) | (apply a_unOp; exact a_unOps) | (apply a_beql; exact a_beqls) | (apply a_badd; exact a_badds) | (apply a_pick; exact a_picks) | (apply a_makeFunc; exact a_makeFuncs) | (apply c_alloc; exact c_allocs; exact rfl; intro g) | (apply c_store1; exact c_store1s; rintro ⟨⟩))
              exact Post.nextP (j + 1#64) (by omega) inc (fun w h => ⟨_, hle9, h.tail.tail⟩) (by omega)
            | false =>
              have hsl := (sols_bt hp).2 ⟨hl4, hb, hal⟩
              by_cases hsm : (s.length : Int) < most
              · have hsd : decide ((s.length : Int) < most) = true := decide_eq_true hsm
                have hin : (0 : Int) = 0 → s.any (fun y => decide (y = l)) = true := fun he => by
                  rw [List.any_eq_true]
                  exact ⟨l, R.full he hsm l hsl, decide_eq_true rfl⟩
                repeat' (first | (apply a_call; exact EvC.callV rfl rfl (fun w hs => hbw _ hle9 _ _ _ hl4 hS4 _ hb w _ hs); exact rfl; exact wd; rintro ⟨⟩) | (apply a_call; exact EvC.callX rfl rfl (fun w hs => hch _ hle9 w _ hs); exact rfl; exact wd; rintro ⟨⟨m6, cs6⟩, hle6, hP6⟩; simp only at hle6 hP6 ⊢; obtain ⟨BA6, bc6, RA6, rc6, rfl, hBA6, hRA6⟩ := hP6; have hle9 := hle9.trans hle6; have hS4 := hS4.mono hle6) | (apply a_call; exact EvC.callV rfl rfl (fun w hs => hn4 _ _ _ _ _ _ hl4 hS4 hRA6 _ (hno rfl) _ _ _ _ w _ hs); exact rfl; exact wd; rintro ⟨⟩) | (apply a_call; exact EvC.callV rfl rfl (fun w hs => hn5 _ hle9 _ _ _ hl4 hS4 _ hal _ _ _ _ w _ hs); exact rfl; exact wd; rintro ⟨⟩) | (apply a_call; exact EvC.callV rfl rfl (fun w hs => hn6 _ hle9 _ _ _ hl4 hS4 _ (hin rfl) _ _ _ _ w _ hs); exact rfl; exact wd; rintro ⟨⟩) | refine TC.seq ?_ | refine TC.region ?_ | refine TR.nil ?_ | refine Post.then_normal ?_ | refine TC.skip ?_ | (apply TC.cond_f; exact rfl) | refine Post.block_normal ?_ | (apply a_gt; exact a_gss; (first | exact rfl | assumption)) | (apply TR.st1 (o := ⟨_, _, _, _, _, _⟩); exact rfl; exact rfl; exact rfl; (first | exact Wd.plain rfl | exact Wd.on rfl rfl rfl); exact EvS.fieldR rfl) | (apply a_move; exact a_moves) | (apply a_assign; exact a_assigns) | (apply a_fieldAddr; exact a_fieldAddrs) | (apply a_load; exact a_loads) | (apply a_len; exact a_lens) | (apply a_unOp; exact a_unOps) | (apply a_beql; exact a_beqls) | (apply a_blss; exact a_blsss) | (apply a_badd; exact a_badds) | (apply a_pick; exact a_picks) | (apply a_makeFunc; exact a_makeFuncs) | (apply c_alloc; exact c_allocs; exact rfl; intro g) | (apply c_store1; exact c_store1s; rintro ⟨⟩))
                exact Post.nextP (j + 1#64) (by omega) inc (fun w h => ⟨_, hle9, h.tail.tail⟩) (by omega)
              · have hsd : decide ((s.length : Int) < most) = false := decide_eq_false hsm
                repeat' (first | (apply a_call; exact EvC.callV rfl rfl (fun w hs => hbw _ hle9 _ _ _ hl4 hS4 _ hb w _ hs); exact rfl; exact wd; rintro ⟨⟩) | (apply a_call; exact EvC.callX rfl rfl (fun w hs => hch _ hle9 w _ hs); exact rfl; exact wd; rintro ⟨⟨m6, cs6⟩, hle6, hP6⟩; simp only at hle6 hP6 ⊢; obtain ⟨BA6, bc6, RA6, rc6, rfl, hBA6, hRA6⟩ := hP6; have hle9 := hle9.trans hle6; have hS4 := hS4.mono hle6) | (apply a_call; exact EvC.callV rfl rfl (fun w hs => hn4 _ _ _ _ _ _ hl4 hS4 hRA6 _ (hno rfl) _ _ _ _ w _ hs); exact rfl; exact wd; rintro ⟨⟩) | (apply a_call; exact EvC.callV rfl rfl (fun w hs => hn5 _ hle9 _ _ _ hl4 hS4 _ hal _ _ _ _ w _ hs); exact rfl; exact wd; rintro ⟨⟩) | refine TC.seq ?_ | refine TC.region ?_ | refine TR.nil ?_ | refine Post.then_normal ?_ | refine TC.skip ?_ | (apply TC.cond_f; exact rfl) | refine Post.block_normal ?_ | (apply a_sk; exact a_sks) | (apply a_gt; exact a_gss; (first | exact rfl | assumption)) | (apply a_gf; exact a_gss; (first | exact rfl | assumption)) | (apply TR.st1 (o := ⟨_, _, _, _, _, _⟩); exact rfl; exact rfl; exact rfl; (first | exact Wd.plain rfl | exact Wd.on rfl rfl rfl); exact EvS.fieldR rfl) | (apply a_move; exact a_moves) | (apply a_assign; exact a_assigns) | (apply a_fieldAddr; exact a_fieldAddrs) | (apply a_load; exact a_loads) | (apply a_len; exact a_lens) | (apply a_unOp; exact a_unOps) | (apply a_beql; exact a_beqls) | (apply a_blss; exact a_blsss) | (apply a_badd; exact a_badds) | (apply a_pick; exact a_picks) | (apply a_makeFunc; exact a_makeFuncs) | (apply c_alloc; exact c_allocs; exact rfl; intro g) | (apply c_store1; exact c_store1s; rintro ⟨⟩))
                exact Post.nextP (j + 1#64) (by omega) inc (fun w h => ⟨_, hle9, h.tail.tail⟩) (by omega)
      · have hd : decide ((j.toNat : Int) < 4) = false := by simp; omega
        repeat' (first | refine TC.seq ?_ | refine TC.region ?_ | refine TR.nil ?_ | refine Post.then_normal ?_ | refine TC.ret ?_ | refine TC.exit ?_ | (apply TC.cond_bf; exact rfl; assumption) | refine Post.then_exit ?_ | refine Post.block_here ?_ | (apply a_assign; exact a_assigns) | (apply a_blss; exact a_blsss))
        refine Post.body_ret _ (ResL.one rfl (ResV.tmp rfl)) ?_
        exact fun w h => ⟨rfl, (h.weaken (hle.trans hle3)).tail⟩
end Go.Proofs.YtgpgjpcebajofaaGreatDoor
set_option maxHeartbeats 4000000
set_option linter.unusedVariables false
set_option linter.unusedSimpArgs false
set_option maxRecDepth 100000
namespace Go.Proofs.YtgpgjpcebajofaaGreatDoor
open Go Go.XC Go.RowKit Go.SetsP
attribute [local irreducible] Post TC TR D WL EvS EvC Wd ResL Code.wpIn Exit.then Exit.inBlock Exit.noGoto LoopK LoopP bodyPostM Reads Calls

attribute [local irreducible] partsB ens waysP foundP waysO
theorem loose_05 (p : Pb) (pcs : Array Value) (hck : checkB p = true) (by_ : Nat) (hby : by_ < 256) (m : Mem) (hT : TabM m) (hpc : PbC m p pcs) (L : Own) (w : World) (hs : St m L w) (hE : (solveP p (1 + ((by_ % 100 : Nat) : Int))).2.2 = 0) (hF : (coreP p).2 = 5) :
    Calls Tryz.prog 7 #[.agg pcs, .int .u8 (by_ : Int)] w fun x w' => x = .returned (.bool true) ∧ St m L w' := by
  have hp := OkP.of hck
  have h8 := hp.ok.b8
  have h12 := hp.ok.r12
  obtain ⟨most, hmost⟩ : ∃ y : Int, y = 1 + ((by_ % 100 : Nat) : Int) := ⟨_, rfl⟩
  rw [← hmost] at hE
  have hm1 : 1 ≤ most := by omega
  have hm2 : most ≤ 100 := by omega
  have R := solve_spec hck hm1 hm2
  have C := core_spec hck
  have hsol := fun (w : World) (L : Own) (hs : St m L w) => solve_c p pcs most (by omega) (by omega) m hT hpc L w hs
  have hcor := fun (m1 : Mem) (hm : m.Le m1) (w : World) (L : Own) (hs : St m1 L w) => core_ok p pcs hck m1 (hT.mono hm) (hpc.mono hm) L w hs
  generalize solveP p most = sp at R hsol hE
  generalize coreP p = cp at C hcor hF
  obtain ⟨s, n, e⟩ := sp
  obtain ⟨co, f⟩ := cp
  simp only at R C hsol hcor hE hF
  subst hE hF
  have hpc0 := hpc
  obtain ⟨BA, bc, RA, rc, rfl, hBA, hRA⟩ := hpc
  have hq1 : decide (most < (s.length : Int)) = false := by have := R.le; simp; omega
  have hq6 : decide (0 < (co.length : Int)) = false := by rw [C.e (by decide)]; rfl
  have hq2 : decide (n < 1) = false := by have := R.n1 rfl; simp; omega
  have hq3 : decide (200 < n) = false := by have := R.n1 rfl; simp; omega
  have hq8 : ((s.length : Int) == 0) = false := by
    have h9 := core_f5 hm1 R C rfl rfl
    have : 0 < s.length := List.length_pos_iff.2 h9
    simp; omega
  refine calls_of_TC (args := [_, _]) Tryz.func7 rfl Tryz.ntmps7 (Nat.le_of_ble_eq_true rfl) hs ?_
  repeat' (first | rw [← hmost] | (apply a_call; exact EvC.callX rfl rfl (fun w hs => hsol w _ hs); exact rfl; exact wd; rintro ⟨⟨m1, A1, c1⟩, hle1, hS1, hcc1⟩; simp only at hle1 hS1 hcc1 ⊢) | (apply a_call; exact EvC.callX rfl rfl (fun w hs => hcor _ hle1 w _ hs); exact rfl; exact wd; rintro ⟨⟨m2, A2, c2⟩, hle2, hS2⟩; simp only at hle2 hS2 ⊢) | refine TC.seq ?_ | refine TC.region ?_ | refine TR.nil ?_ | refine Post.then_normal ?_ | refine TC.block ?_ | refine TC.skip ?_ | (apply TC.cond_bf; exact rfl; assumption) | (apply a_sk; exact a_sks) | (apply a_gt; exact a_gss; (first | exact rfl | assumption)) | (apply a_gf; exact a_gss; (first | exact rfl | assumption)) | (apply TR.st1; exact rfl; exact rfl; exact rfl; (first | exact Wd.plain rfl | exact Wd.on rfl rfl rfl); (first | exact EvS.convN rfl (by omega) | exact EvS.remI (b := 100) rfl rfl (by decide))) | (apply a_move; exact a_moves) | (apply a_assign; exact a_assigns) | (apply a_load; exact a_loads) | (apply a_len; exact a_lens) | (apply a_beql; exact a_beqls) | (apply a_bneq; exact a_bneqs) | (apply a_blss; exact a_blsss) | (apply a_bgtr; exact a_bgtrs) | (apply a_badd; exact a_badds) | (apply a_pick; exact a_picks) | (apply a_extract; exact a_extracts) | (apply c_boxA; exact c_boxAs; exact rfl; intro g))
  obtain ⟨gp, hgp⟩ : ∃ y, y = g := ⟨_, rfl⟩
  subst hgp
  have hle := hle1.trans hle2
  have hS1' := hS1.mono hle2
  have hBA2 := hBA.mono hle
  have hRA2 := hRA.mono hle
  have hsb := hS1.big
  have hcl := core_len hp C
  refine TC.loopP (X := Nat) (fun k => k ≤ s.length) (fun k => [(74, .int .i64 (k : Int)), (73, .int .i64 (s.length : Int)), (72, .slice A1 s.length c1), (10, .int .i64 5), (9, .slice A2 co.length c2), (8, .int .i64 0), (7, .int .i64 n), (6, .slice A1 s.length c1), (5, .int .i64 most), (4, .bool false), (2, .pointer (some ⟨gp, 0, none⟩)), (1, .int .u8 (by_ : Int))]) (fun _ => St m2 (some (gp, Obj.cells #[.slice BA p.bounds.length bc, .slice RA p.rules.length rc] 25 (0, 0)) :: L)) (fun k => s.length - k) 0 (by omega) inc (fun w h => h) ?_
  intro k hk
  by_cases hlt : k < s.length
  · obtain ⟨x, hx⟩ : ∃ x, s[k]? = some x := ⟨_, List.getElem?_eq_getElem hlt⟩
    obtain ⟨g3, o3, blk3, T3, fr3, W, cw, hAe, hm3, hc3, hW⟩ := hS1'.get hx
    have hd : decide ((k : Int) < (s.length : Int)) = true := by simpa using hlt
    obtain ⟨hxl, hxb, hxr⟩ := (sols_bt hp).1 (R.sound x (List.mem_of_getElem? hx))
    have hxn : ((x.length : Int) != (p.bounds.length : Int)) = false := by rw [hxl]; simp
    have hno : (s.take k).any (fun y => decide (y = x)) = false := by
      rw [List.any_eq_false]
      intro y hy
      obtain ⟨j, hj⟩ := List.getElem?_of_mem hy
      rw [List.getElem?_take] at hj
      split at hj
      · rename_i hjk
        intro he
        have he := of_decide_eq_true he
        subst he
        obtain ⟨q1, q2⟩ := List.getElem?_eq_some_iff.1 hj
        obtain ⟨q3, q4⟩ := List.getElem?_eq_some_iff.1 hx
        have := (List.pairwise_iff_getElem.1 R.nodup) j k q1 q3 hjk
        rw [q2, q4] at this
        exact this rfl
      · cases hj
    have htl : (s.take k).length = k := by simp; omega
    have hbt := fun (w : World) (L : Own) (hs : St m2 L w) => between_c BA W bc cw p.bounds x hxl m2 hBA2 hW L w hs
    rw [hxb] at hbt
    have hru : ∀ (g T : Nat) (L : Own) (w : World), St m2 (some (g, .cells #[.slice W x.length cw] T (0, 0)) :: L) w → Calls Tryz.prog 27 #[.slice RA p.rules.length rc, .func (.func 28) #[] #[.pointer (some ⟨g, 0, none⟩)]] w fun z w' => z = .returned (.bool false) ∧ St m2 (some (g, .cells #[.slice W x.length cw] T (0, 0)) :: L) w' := fun g T L w hs => by
      have := containsRl_c 28 #[.pointer (some ⟨g, 0, none⟩)] (fun r => !heldB r x) RA rc p.rules m2 _ w hs hRA2 (fun r B c hr hB w hs => neg_loose1 hp hxl hW (List.Mem.head _) r B c hr hB w hs)
      rw [hxr] at this
      exact this
    have hdu : ∀ (g T : Nat) (L : Own) (w : World), St m2 (some (g, .cells #[.slice W x.length cw] T (0, 0)) :: L) w → Calls Tryz.prog 30 #[.slice A1 k c1, .func (.func 31) #[] #[.pointer (some ⟨g, 0, none⟩)]] w fun z w' => z = .returned (.bool false) ∧ St m2 (some (g, .cells #[.slice W x.length cw] T (0, 0)) :: L) w' := fun g T L w hs => by
      have := containsL_c 31 #[.pointer (some ⟨g, 0, none⟩)] (fun y => decide (y = x)) A1 c1 (s.take k) _ _ _ hs (SolS.take hS1' k) (fun y _ B cb hB w hs => eq_loose2 hW (List.Mem.head _) y B cb hB w hs)
      rw [hno, htl] at this
      exact this
    repeat' (first | (apply a_call; exact EvC.callV rfl rfl (fun w hs => hbt w _ hs); exact rfl; exact wd; rintro ⟨⟩) | (apply a_call; exact EvC.callV rfl rfl (fun w hs => hru _ _ _ w hs); exact rfl; exact wd; rintro ⟨⟩) | (apply a_call; exact EvC.callV rfl rfl (fun w hs => hdu _ _ _ w hs); exact rfl; exact wd; rintro ⟨⟩) | refine TC.seq ?_ | refine TC.region ?_ | refine TR.nil ?_ | refine Post.then_normal ?_ | refine TC.block ?_ | refine TC.skip ?_ | (apply TC.cond_f; exact rfl) | (apply TC.cond_bt; exact rfl; assumption) | refine Post.block_normal ?_ | (apply a_gf; exact a_gss; (first | exact rfl | assumption)) | (apply TR.st1 (o := ⟨_, .slice _ _ _ _ _, _, _, _, _⟩); exact rfl; exact rfl; exact rfl; (first | exact Wd.plain rfl | exact Wd.on rfl rfl rfl); exact EvS.sliceHi rfl rfl hAe (by omega)) | (apply a_move; exact a_moves) | (apply a_assign; exact a_assigns) | (apply a_fieldAddr; exact a_fieldAddrs) | (apply a_load; exact a_loads) | (apply a_len; exact a_lens) | (apply a_unOp; exact a_unOps) | (apply a_bneq; exact a_bneqs) | (apply a_blss; exact a_blsss) | (apply a_badd; exact a_badds) | (apply a_pick; exact a_picks) | (apply a_indexAddr; exact a_indexAddrs) | (apply a_makeFunc; exact a_makeFuncs) | (apply c_alloc; exact c_allocs; exact rfl; intro g) | (apply c_store1; exact c_store1s; rintro ⟨⟩))
    exact Post.nextP (k + 1) (by omega) inc (fun w h => h.tail) (by omega)
  · have hd : decide ((k : Int) < (s.length : Int)) = false := by simpa using hlt
    repeat' (first | refine TC.seq ?_ | refine TC.region ?_ | refine TR.nil ?_ | refine Post.then_normal ?_ | refine TC.block ?_ | refine TC.skip ?_ | refine TC.exit ?_ | (apply TC.cond_bf; exact rfl; assumption) | refine Post.then_exit ?_ | refine Post.block_here ?_ | (apply a_sk; exact a_sks) | (apply a_gt; exact a_gss; (first | exact rfl | assumption)) | (apply a_gf; exact a_gss; (first | exact rfl | assumption)) | (apply a_move; exact a_moves) | (apply a_len; exact a_lens) | (apply a_beql; exact a_beqls) | (apply a_bneq; exact a_bneqs) | (apply a_blss; exact a_blsss) | (apply a_bgtr; exact a_bgtrs) | (apply a_pick; exact a_picks))
    clear hd hlt hk
    refine TC.loopP (X := Nat) (fun k => k ≤ co.length) (fun k => [(147, .int .i64 (k : Int)), (146, .int .i64 (co.length : Int)), (145, .slice A2 co.length c2), (10, .int .i64 5), (9, .slice A2 co.length c2), (8, .int .i64 0), (6, .slice A1 s.length c1), (5, .int .i64 most), (4, .bool false), (2, .pointer (some ⟨gp, 0, none⟩)), (1, .int .u8 (by_ : Int))]) (fun _ => St m2 (some (gp, Obj.cells #[.slice BA p.bounds.length bc, .slice RA p.rules.length rc] 25 (0, 0)) :: L)) (fun k => co.length - k) 0 (by omega) inc (fun w h => h) ?_
    intro k hk
    by_cases hlt : k < co.length
    · obtain ⟨r, hr⟩ : ∃ r, co[k]? = some r := ⟨_, List.getElem?_eq_getElem hlt⟩
      obtain ⟨g3, o3, blk3, T3, fr3, hAe, hm3, hc3⟩ := hS2.get1 (k := k) (v := .int .i64 (r : Int)) (by simp [ints, zs, hr])
      have hd : decide ((k : Int) < (co.length : Int)) = true := by simpa using hlt
      obtain ⟨hrl, hrp⟩ := core_lt C hr
      have hr0 : decide ((r : Int) < 0) = false := by simp
      have hr1 : decide ((r : Int) ≥ (p.rules.length : Int)) = false := by simp; omega
      by_cases hk0 : 0 < k
      · obtain ⟨r', hr'⟩ : ∃ r', co[k - 1]? = some r' := ⟨_, List.getElem?_eq_getElem (by omega)⟩
        obtain ⟨g4, o4, blk4, T4, fr4, hAe4, hm4, hc4⟩ := hS2.get1 (k := k - 1) (v := .int .i64 (r' : Int)) (by simp [ints, zs, hr'])
        rw [hAe] at hAe4
        cases hAe4
        rw [hm3] at hm4
        cases hm4
        have hk1 : decide ((k : Int) > 0) = true := by simp; omega
        have hlp := hrp r' hk0 hr'
        have hrr : decide ((r : Int) ≤ (r' : Int)) = false := by simp; omega
        have hkk : (k : Int) - 1 = ((k - 1 : Nat) : Int) := by omega
        repeat' (first | rw [hkk] | refine TC.seq ?_ | refine TC.region ?_ | refine TR.nil ?_ | refine Post.then_normal ?_ | refine TC.block ?_ | refine TC.skip ?_ | (apply TC.cond_bt; exact rfl; assumption) | (apply TC.cond_bf; exact rfl; assumption) | refine Post.block_normal ?_ | (apply a_gt; exact a_gss; (first | exact rfl | assumption)) | (apply a_gf; exact a_gss; (first | exact rfl | assumption)) | (apply a_move; exact a_moves) | (apply a_assign; exact a_assigns) | (apply a_fieldAddr; exact a_fieldAddrs) | (apply a_load; exact a_loads) | (apply a_len; exact a_lens) | (apply a_blss; exact a_blsss) | (apply a_bleq; exact a_bleqs) | (apply a_bgtr; exact a_bgtrs) | (apply a_bgeq; exact a_bgeqs) | (apply a_badd; exact a_badds) | (apply a_bsub; exact a_bsubs) | (apply a_pick; exact a_picks) | (apply a_indexAddr; exact a_indexAddrs))
        exact Post.nextP (k + 1) (by omega) inc (fun w h => h) (by omega)
      · have hk1 : decide ((k : Int) > 0) = false := by simp; omega
        repeat' (first | refine TC.seq ?_ | refine TC.region ?_ | refine TR.nil ?_ | refine Post.then_normal ?_ | refine TC.block ?_ | refine TC.skip ?_ | (apply TC.cond_f; exact rfl) | (apply TC.cond_bt; exact rfl; assumption) | refine Post.block_normal ?_ | (apply a_sk; exact a_sks) | (apply a_gf; exact a_gss; (first | exact rfl | assumption)) | (apply a_move; exact a_moves) | (apply a_assign; exact a_assigns) | (apply a_fieldAddr; exact a_fieldAddrs) | (apply a_load; exact a_loads) | (apply a_len; exact a_lens) | (apply a_blss; exact a_blsss) | (apply a_bgtr; exact a_bgtrs) | (apply a_bgeq; exact a_bgeqs) | (apply a_badd; exact a_badds) | (apply a_pick; exact a_picks) | (apply a_indexAddr; exact a_indexAddrs))
        exact Post.nextP (k + 1) (by omega) inc (fun w h => h) (by omega)
    · have hd : decide ((k : Int) < (co.length : Int)) = false := by simpa using hlt
      repeat' (first | refine TC.seq ?_ | refine TC.region ?_ | refine TR.nil ?_ | refine Post.then_normal ?_ | refine TC.block ?_ | refine TC.exit ?_ | (apply TC.cond_bf; exact rfl; assumption) | refine Post.then_exit ?_ | refine Post.block_here ?_ | (apply a_move; exact a_moves) | (apply a_blss; exact a_blsss))
      clear hd hlt hk
      have hpc2 := hpc0.mono hle
      have hdr : ∀ (m' : Mem) (hm : m2.Le m') (gb T : Nat) (a b c : BV) (w : World) (L : Own), St m' (some (gb, .cells #[u64v a, u64v b, u64v c] T (0, 0)) :: L) w → Calls Tryz.prog 33 #[.slice BA p.bounds.length bc, .slice (some ⟨gb, 0, none⟩) 3 3] w fun x w' => ∃ y : UsX m' p.bounds.length, x = .returned (.slice y.1.2.1.1 p.bounds.length y.1.2.1.2) ∧ St y.1.1 L w' := fun m' hm gb T a b c w L hs => by
        obtain ⟨k1, k2⟩ := lend hs
        have hrw : OwnRow (.slice (some ⟨gb, 0, none⟩) 3 3) T 1 3 (u64s [a, b, c]).flatten (some (gb, .cells #[u64v a, u64v b, u64v c] T (0, 0))) := OwnRow.lit (cs := #[u64v a, u64v b, u64v c]) rfl (by decide)
        obtain ⟨A9, c9, q1, _, hSb⟩ := OwnRow.lent (m := m') hrw (u64s_len _) rfl (by omega)
        injection q1 with q1 q2 q3
        subst q1
        refine (drawn_c BA (some ⟨gb, 0, none⟩) bc 3 p.bounds [a, b, c] (by omega) _ ((hBA2.mono hm).mono k1) hSb L w k2).mono fun x w' ⟨y, h1, h2⟩ => ?_
        obtain ⟨y, q1, q2, q3⟩ := y
        exact ⟨⟨y, k1.trans q1, q2, q3⟩, h1, h2⟩
      have hmd : ∀ (m' : Mem) (hm : m2.Le m') (A : Option Addr) (c : Nat) (l : List BV) (hl : l.length = p.bounds.length) (hS : Sl m' 1 A (u64s l)) (w : World) (L : Own), St m' L w → Calls Tryz.prog 34 #[.agg #[.slice BA p.bounds.length bc, .slice RA p.rules.length rc], .slice A p.bounds.length c] w fun x w' => ∃ y : UsX m' p.bounds.length, x = .returned (.slice y.1.2.1.1 p.bounds.length y.1.2.1.2) ∧ St y.1.1 L w' := fun m' hm A c l hl hS w L hs => by
        have := mended_c p _ hp A c l hl m' (hpc2.mono hm) hS L w hs
        rw [hl] at this
        exact this
      have hbw : ∀ (m' : Mem) (hm : m2.Le m') (A : Option Addr) (c : Nat) (l : List BV) (hl : l.length = p.bounds.length) (hS : Sl m' 1 A (u64s l)) (b : Bool) (hb : betweenB p.bounds l = b) (w : World) (L : Own), St m' L w → Calls Tryz.prog 26 #[.slice BA p.bounds.length bc, .slice A p.bounds.length c] w fun x w' => x = .returned (.bool b) ∧ St m' L w' := fun m' hm A c l hl hS b hb w L hs => by
        have := between_c BA A bc c p.bounds l hl m' (hBA2.mono hm) hS L w hs
        rw [hl, hb] at this
        exact this
      have hch := fun (m' : Mem) (hm : m2.Le m') (w : World) (L : Own) (hs : St m' L w) => chosen_c p _ A2 c2 co (-1) (fun k hk => by
        obtain ⟨i, hi⟩ := List.getElem?_of_mem hk
        exact (core_lt C hi).1) hcl.2 m' (hpc2.mono hm) (hS2.mono hm) L w hs
      rw [pkA_none] at hch
      have hps : OkP (selP p co) := hp.sel (fun k hk => by
        obtain ⟨i, hi⟩ := List.getElem?_of_mem hk
        exact (core_lt C hi).1) hcl.2
      have hn4 : ∀ (m' : Mem) (A B : Option Addr) (c rc' : Nat) (l : List BV) (hl : l.length = p.bounds.length) (hS : Sl m' 1 A (u64s l)) (hR : RlS m' B (selP p co).rules) (b : Bool) (hb : (selP p co).rules.any (fun r => !heldB r l) = b) (gl gf Tl Tf : Nat) (w : World) (L : Own), St m' (some (gf, .cells #[.func (.func 35) #[] #[.pointer (some ⟨gl, 0, none⟩)]] Tf (0, 0)) :: some (gl, .cells #[.slice A p.bounds.length c] Tl (0, 0)) :: L) w →
          Calls Tryz.prog 27 #[.slice B (selP p co).rules.length rc', .func (.func 36) #[] #[.pointer (some ⟨gf, 0, none⟩)]] w fun z w' => z = .returned (.bool b) ∧ St m' (some (gf, .cells #[.func (.func 35) #[] #[.pointer (some ⟨gl, 0, none⟩)]] Tf (0, 0)) :: some (gl, .cells #[.slice A p.bounds.length c] Tl (0, 0)) :: L) w' := fun m' A B c rc' l hl hS hR b hb gl gf Tl Tf w L hs => by
        rw [← hl] at hs ⊢
        have := containsRl_c 36 #[.pointer (some ⟨gf, 0, none⟩)] (fun r => !heldB r l) B rc' (selP p co).rules m' _ w hs hR (fun r B c hr hB w hs => neg2_loose4 hps hl hS (List.Mem.tail _ (List.Mem.head _)) (List.Mem.head _) r B c hr hB w hs)
        rw [hb] at this
        exact this
      have hn5 : ∀ (m' : Mem) (hm : m2.Le m') (A : Option Addr) (c : Nat) (l : List BV) (hl : l.length = p.bounds.length) (hS : Sl m' 1 A (u64s l)) (b : Bool) (hb : p.rules.any (fun r => !heldB r l) = b) (gl gf Tl Tf : Nat) (w : World) (L : Own), St m' (some (gf, .cells #[.func (.func 35) #[] #[.pointer (some ⟨gl, 0, none⟩)]] Tf (0, 0)) :: some (gl, .cells #[.slice A p.bounds.length c] Tl (0, 0)) :: L) w →
          Calls Tryz.prog 27 #[.slice RA p.rules.length rc, .func (.func 37) #[] #[.pointer (some ⟨gf, 0, none⟩)]] w fun z w' => z = .returned (.bool b) ∧ St m' (some (gf, .cells #[.func (.func 35) #[] #[.pointer (some ⟨gl, 0, none⟩)]] Tf (0, 0)) :: some (gl, .cells #[.slice A p.bounds.length c] Tl (0, 0)) :: L) w' := fun m' hm A c l hl hS b hb gl gf Tl Tf w L hs => by
        rw [← hl] at hs ⊢
        have := containsRl_c 37 #[.pointer (some ⟨gf, 0, none⟩)] (fun r => !heldB r l) RA rc p.rules m' _ w hs (hRA2.mono hm) (fun r B c hr hB w hs => neg2_loose5 hp hl hS (List.Mem.tail _ (List.Mem.head _)) (List.Mem.head _) r B c hr hB w hs)
        rw [hb] at this
        exact this
      have hn6 : ∀ (m' : Mem) (hm : m2.Le m') (A : Option Addr) (c : Nat) (l : List BV) (hl : l.length = p.bounds.length) (hS : Sl m' 1 A (u64s l)) (b : Bool) (hb : s.any (fun y => decide (y = l)) = b) (gl gf Tl : Nat) (o : Obj) (w : World) (L : Own), St m' (some (gf, o) :: some (gl, .cells #[.slice A p.bounds.length c] Tl (0, 0)) :: L) w →
          Calls Tryz.prog 30 #[.slice A1 s.length c1, .func (.func 38) #[] #[.pointer (some ⟨gl, 0, none⟩)]] w fun z w' => z = .returned (.bool b) ∧ St m' (some (gf, o) :: some (gl, .cells #[.slice A p.bounds.length c] Tl (0, 0)) :: L) w' := fun m' hm A c l hl hS b hb gl gf Tl o w L hs => by
        rw [← hl] at hs ⊢
        have := containsL_c 38 #[.pointer (some ⟨gl, 0, none⟩)] (fun y => decide (y = l)) A1 c1 s m' _ w hs (hS1'.mono hm) (fun y _ B cb hB w hs => eq_loose6 hS (List.Mem.tail _ (List.Mem.head _)) y B cb hB w hs)
        rw [hb] at this
        exact this
      refine TC.loopP (X := BV) (fun j => j.toNat ≤ 4) (fun j => [(175, .int .u64 (j.toNat : Int)), (10, .int .i64 5), (9, .slice A2 co.length c2), (8, .int .i64 0), (6, .slice A1 s.length c1), (5, .int .i64 most), (4, .bool false), (2, .pointer (some ⟨gp, 0, none⟩)), (1, .int .u8 (by_ : Int))]) (fun _ w => ∃ m', m2.Le m' ∧ St m' (some (gp, Obj.cells #[.slice BA p.bounds.length bc, .slice RA p.rules.length rc] 25 (0, 0)) :: L) w) (fun j => 4 - j.toNat) 0#64 (by decide) inc (fun w h => ⟨m2, Mem.Le.refl _, h⟩) ?_
      intro j hj
      refine TC.of_exists (X := { y : Mem // m2.Le y }) (S' := fun y => St y.1 (some (gp, Obj.cells #[.slice BA p.bounds.length bc, .slice RA p.rules.length rc] 25 (0, 0)) :: L)) (fun w h => let ⟨m', h1, h2⟩ := h; ⟨⟨m', h1⟩, h2⟩) ?_
      rintro ⟨m3, hle3⟩
      simp only
      by_cases hlt : j.toNat < 4
      · have hd : decide ((j.toNat : Int) < 4) = true := by simp; omega
        repeat' (first | (apply TR.ch1 (o := ⟨_, .buildSlice _ _ _, _, _, _, _⟩); exact rfl; exact rfl; exact rfl; exact wd; exact EvC.buildN (n := 3) (sz := 1) (cells := #[u64v (j * 21845#64), u64v ((BitVec.ofNat 64 by_ * 257#64) <<< ((j.toNat : Int)).toNat), u64v (BitVec.ofNat 64 18446744073709551615)]) rfl (by decide) (by decide) (by kernel_rfl); intro g) | (apply a_call; exact EvC.callX rfl rfl (fun w hs => hdr m3 hle3 _ _ _ _ (BitVec.ofNat 64 18446744073709551615) w _ hs); exact rfl; exact wd; rintro ⟨⟨m4, ⟨A4, c4⟩, l⟩, hle4, hl4, hS4⟩; simp only at hle4 hl4 hS4 ⊢) | (apply a_call; exact EvC.callX rfl rfl (fun w hs => hmd _ (hle3.trans hle4) _ _ _ hl4 hS4 w _ hs); exact rfl; exact wd; rintro ⟨⟨m5, ⟨A4, c4⟩, l⟩, hle5, hl4, hS4⟩; simp only at hle5 hl4 hS4 ⊢; have hle4 := hle4.trans hle5) | refine TC.seq ?_ | refine TC.region ?_ | refine TR.nil ?_ | refine Post.then_normal ?_ | refine TC.block ?_ | refine TC.skip ?_ | (apply TC.cond_bt; exact rfl; assumption) | (apply TC.cond; exact rfl; all_goals (intro h)) | (apply TR.st1; exact rfl; exact rfl; exact rfl; (first | exact Wd.plain rfl | exact Wd.on rfl rfl rfl); (first | exact EvS.conv8 rfl hby | exact EvS.remI (b := 2) rfl rfl (by decide))) | (apply a_move; exact a_moves) | (apply a_assign; exact a_assigns) | (apply a_fieldAddr; exact a_fieldAddrs) | (apply a_load; exact a_loads) | (apply a_beql; exact a_beqls) | (apply a_bmul; exact a_bmuls) | (apply a_blss; exact a_blsss) | (apply a_bshl; exact a_bshls) | (apply c_alloc; exact c_allocs; exact rfl; intro g) | (apply c_store1; exact c_store1s; rintro ⟨⟩))
        all_goals
          have hle9 := hle3.trans hle4
          have hj1 : (j + 1#64).toNat = j.toNat + 1 := by rw [BitVec.toNat_add]; show (j.toNat + 1) % 2 ^ 64 = _; omega
          cases hb : betweenB p.bounds l with
          | false =>
            repeat' (first | (apply a_call; exact EvC.callV rfl rfl (fun w hs => hbw _ hle9 _ _ _ hl4 hS4 _ hb w _ hs); exact rfl; exact wd; rintro ⟨⟩) | refine TC.region ?_ | refine TR.nil ?_ | refine Post.then_normal ?_ | refine TC.exit ?_ | (apply TC.cond_t; exact rfl) | refine Post.then_exit ?_ | refine Post.block_here ?_ | (apply a_move; exact a_moves) | (apply a_unOp; exact a_unOps) | (apply a_badd; exact a_badds))
            exact Post.nextP (j + 1#64) (by omega) inc (fun w h => ⟨_, hle9, h.tail⟩) (by omega)
          | true =>
            have hno : (5 : Int) = 0 → (selP p co).rules.any (fun r => !heldB r l) = true := fun hf => core_no hp C hf hl4 hb
            cases hal : p.rules.any (fun r => !heldB r l) with
            | true =>
              repeat' (first | (apply a_call; exact EvC.callV rfl rfl (fun w hs => hbw _ hle9 _ _ _ hl4 hS4 _ hb w _ hs); exact rfl; exact wd; rintro ⟨⟩) | (apply a_call; exact EvC.callV rfl rfl (fun w hs => hn5 _ hle9 _ _ _ hl4 hS4 _ hal _ _ _ _ w _ hs); exact rfl; exact wd; rintro ⟨⟩) | refine TC.seq ?_ | refine TC.region ?_ | refine TR.nil ?_ | refine Post.then_normal ?_ | refine TC.skip ?_ | (apply TC.cond_f; exact rfl) | refine Post.block_normal ?_ | (apply a_sk; exact a_sks) | (apply a_gf; exact a_gss; (first | exact rfl | assumption)) | (apply a_move; exact a_moves) | (apply a_assign; exact a_assigns) | (apply a_fieldAddr; exact a_fieldAddrs) | (apply a_load; exact a_loads) | (apply a_unOp; exact a_unOps) | (apply a_beql; exact a_beqls) | (apply a_badd; exact a_badds) | (apply a_pick; exact a_picks) | (apply a_makeFunc; exact a_makeFuncs) | (apply c_alloc; exact c_allocs; exact rfl; intro g) | (apply c_store1; exact c_store1s; rintro ⟨⟩))
              exact Post.nextP (j + 1#64) (by omega) inc (fun w h => ⟨_, hle9, h.tail.tail⟩) (by omega)
            | false =>
              have hsl := (sols_bt hp).2 ⟨hl4, hb, hal⟩
              by_cases hsm : (s.length : Int) < most
              · have hsd : decide ((s.length : Int) < most) = true := decide_eq_true hsm
                have hin : (0 : Int) = 0 → s.any (fun y => decide (y = l)) = true := fun he => by
                  rw [List.any_eq_true]
                  exact ⟨l, R.full he hsm l hsl, decide_eq_true rfl⟩
                repeat' (first | (apply a_call; exact EvC.callV rfl rfl (fun w hs => hbw _ hle9 _ _ _ hl4 hS4 _ hb w _ hs); exact rfl; exact wd; rintro ⟨⟩) | (apply a_call; exact EvC.callV rfl rfl (fun w hs => hn5 _ hle9 _ _ _ hl4 hS4 _ hal _ _ _ _ w _ hs); exact rfl; exact wd; rintro ⟨⟩) | (apply a_call; exact EvC.callV rfl rfl (fun w hs => hn6 _ hle9 _ _ _ hl4 hS4 _ (hin rfl) _ _ _ _ w _ hs); exact rfl; exact wd; rintro ⟨⟩) | refine TC.seq ?_ | refine TC.region ?_ | refine TR.nil ?_ | refine Post.then_normal ?_ | refine TC.skip ?_ | (apply TC.cond_f; exact rfl) | refine Post.block_normal ?_ | (apply a_sk; exact a_sks) | (apply a_gt; exact a_gss; (first | exact rfl | assumption)) | (apply a_gf; exact a_gss; (first | exact rfl | assumption)) | (apply a_move; exact a_moves) | (apply a_assign; exact a_assigns) | (apply a_fieldAddr; exact a_fieldAddrs) | (apply a_load; exact a_loads) | (apply a_len; exact a_lens) | (apply a_unOp; exact a_unOps) | (apply a_beql; exact a_beqls) | (apply a_blss; exact a_blsss) | (apply a_badd; exact a_badds) | (apply a_pick; exact a_picks) | (apply a_makeFunc; exact a_makeFuncs) | (apply c_alloc; exact c_allocs; exact rfl; intro g) | (apply c_store1; exact c_store1s; rintro ⟨⟩))
                exact Post.nextP (j + 1#64) (by omega) inc (fun w h => ⟨_, hle9, h.tail.tail⟩) (by omega)
              · have hsd : decide ((s.length : Int) < most) = false := decide_eq_false hsm
                repeat' (first | (apply a_call; exact EvC.callV rfl rfl (fun w hs => hbw _ hle9 _ _ _ hl4 hS4 _ hb w _ hs); exact rfl; exact wd; rintro ⟨⟩) | (apply a_call; exact EvC.callV rfl rfl (fun w hs => hn5 _ hle9 _ _ _ hl4 hS4 _ hal _ _ _ _ w _ hs); exact rfl; exact wd; rintro ⟨⟩) | refine TC.seq ?_ | refine TC.region ?_ | refine TR.nil ?_ | refine Post.then_normal ?_ | refine TC.skip ?_ | (apply TC.cond_f; exact rfl) | refine Post.block_normal ?_ | (apply a_sk; exact a_sks) | (apply a_gt; exact a_gss; (first | exact rfl | assumption)) | (apply a_gf; exact a_gss; (first | exact rfl | assumption)) | (apply a_move; exact a_moves) | (apply a_assign; exact a_assigns) | (apply a_fieldAddr; exact a_fieldAddrs) | (apply a_load; exact a_loads) | (apply a_len; exact a_lens) | (apply a_unOp; exact a_unOps) | (apply a_beql; exact a_beqls) | (apply a_blss; exact a_blsss) | (apply a_badd; exact a_badds) | (apply a_pick; exact a_picks) | (apply a_makeFunc; exact a_makeFuncs) | (apply c_alloc; exact c_allocs; exact rfl; intro g) | (apply c_store1; exact c_store1s; rintro ⟨⟩))
                exact Post.nextP (j + 1#64) (by omega) inc (fun w h => ⟨_, hle9, h.tail.tail⟩) (by omega)
      · have hd : decide ((j.toNat : Int) < 4) = false := by simp; omega
        repeat' (first | refine TC.seq ?_ | refine TC.region ?_ | refine TR.nil ?_ | refine Post.then_normal ?_ | refine TC.ret ?_ | refine TC.exit ?_ | (apply TC.cond_bf; exact rfl; assumption) | refine Post.then_exit ?_ | refine Post.block_here ?_ | (apply a_assign; exact a_assigns) | (apply a_blss; exact a_blsss))
        refine Post.body_ret _ (ResL.one rfl (ResV.tmp rfl)) ?_
        exact fun w h => ⟨rfl, (h.weaken (hle.trans hle3)).tail⟩
end Go.Proofs.YtgpgjpcebajofaaGreatDoor
set_option maxHeartbeats 4000000
set_option linter.unusedVariables false
set_option linter.unusedSimpArgs false
set_option maxRecDepth 100000
namespace Go.Proofs.YtgpgjpcebajofaaGreatDoor
open Go Go.XC Go.RowKit Go.SetsP
attribute [local irreducible] Post TC TR D WL EvS EvC Wd ResL Code.wpIn Exit.then Exit.inBlock Exit.noGoto LoopK LoopP bodyPostM Reads Calls

attribute [local irreducible] partsB ens waysP foundP waysO
theorem loose_08 (p : Pb) (pcs : Array Value) (hck : checkB p = true) (by_ : Nat) (hby : by_ < 256) (m : Mem) (hT : TabM m) (hpc : PbC m p pcs) (L : Own) (w : World) (hs : St m L w) (hE : (solveP p (1 + ((by_ % 100 : Nat) : Int))).2.2 = 0) (hF : (coreP p).2 = 8) :
    Calls Tryz.prog 7 #[.agg pcs, .int .u8 (by_ : Int)] w fun x w' => x = .returned (.bool true) ∧ St m L w' := by
  have hp := OkP.of hck
  have h8 := hp.ok.b8
  have h12 := hp.ok.r12
  obtain ⟨most, hmost⟩ : ∃ y : Int, y = 1 + ((by_ % 100 : Nat) : Int) := ⟨_, rfl⟩
  rw [← hmost] at hE
  have hm1 : 1 ≤ most := by omega
  have hm2 : most ≤ 100 := by omega
  have R := solve_spec hck hm1 hm2
  have C := core_spec hck
  have hsol := fun (w : World) (L : Own) (hs : St m L w) => solve_c p pcs most (by omega) (by omega) m hT hpc L w hs
  have hcor := fun (m1 : Mem) (hm : m.Le m1) (w : World) (L : Own) (hs : St m1 L w) => core_ok p pcs hck m1 (hT.mono hm) (hpc.mono hm) L w hs
  generalize solveP p most = sp at R hsol hE
  generalize coreP p = cp at C hcor hF
  obtain ⟨s, n, e⟩ := sp
  obtain ⟨co, f⟩ := cp
  simp only at R C hsol hcor hE hF
  subst hE hF
  have hpc0 := hpc
  obtain ⟨BA, bc, RA, rc, rfl, hBA, hRA⟩ := hpc
  have hq1 : decide (most < (s.length : Int)) = false := by have := R.le; simp; omega
  have hq6 : decide (0 < (co.length : Int)) = false := by rw [C.e (by decide)]; rfl
  have hq2 : decide (n < 1) = false := by have := R.n1 rfl; simp; omega
  have hq3 : decide (200 < n) = false := by have := R.n1 rfl; simp; omega
  refine calls_of_TC (args := [_, _]) Tryz.func7 rfl Tryz.ntmps7 (Nat.le_of_ble_eq_true rfl) hs ?_
  repeat' (first | rw [← hmost] | (apply a_call; exact EvC.callX rfl rfl (fun w hs => hsol w _ hs); exact rfl; exact wd; rintro ⟨⟨m1, A1, c1⟩, hle1, hS1, hcc1⟩; simp only at hle1 hS1 hcc1 ⊢) | (apply a_call; exact EvC.callX rfl rfl (fun w hs => hcor _ hle1 w _ hs); exact rfl; exact wd; rintro ⟨⟨m2, A2, c2⟩, hle2, hS2⟩; simp only at hle2 hS2 ⊢) | refine TC.seq ?_ | refine TC.region ?_ | refine TR.nil ?_ | refine Post.then_normal ?_ | refine TC.block ?_ | refine TC.skip ?_ | (apply TC.cond_bf; exact rfl; assumption) | (apply a_sk; exact a_sks) | (apply a_gt; exact a_gss; (first | exact rfl | assumption)) | (apply a_gf; exact a_gss; (first | exact rfl | assumption)) | (apply TR.st1; exact rfl; exact rfl; exact rfl; (first | exact Wd.plain rfl | exact Wd.on rfl rfl rfl); (first | exact EvS.convN rfl (by omega) | exact EvS.remI (b := 100) rfl rfl (by decide))) | (apply a_move; exact a_moves) | (apply a_assign; exact a_assigns) | (apply a_load; exact a_loads) | (apply a_len; exact a_lens) | (apply a_beql; exact a_beqls) | (apply a_bneq; exact a_bneqs) | (apply a_blss; exact a_blsss) | (apply a_bgtr; exact a_bgtrs) | (apply a_badd; exact a_badds) | (apply a_pick; exact a_picks) | (apply a_extract; exact a_extracts) | (apply c_boxA; exact c_boxAs; exact rfl; intro g))
  obtain ⟨gp, hgp⟩ : ∃ y, y = g := ⟨_, rfl⟩
  subst hgp
  have hle := hle1.trans hle2
  have hS1' := hS1.mono hle2
  have hBA2 := hBA.mono hle
  have hRA2 := hRA.mono hle
  have hsb := hS1.big
  have hcl := core_len hp C
  refine TC.loopP (X := Nat) (fun k => k ≤ s.length) (fun k => [(74, .int .i64 (k : Int)), (73, .int .i64 (s.length : Int)), (72, .slice A1 s.length c1), (10, .int .i64 8), (9, .slice A2 co.length c2), (8, .int .i64 0), (7, .int .i64 n), (6, .slice A1 s.length c1), (5, .int .i64 most), (4, .bool false), (2, .pointer (some ⟨gp, 0, none⟩)), (1, .int .u8 (by_ : Int))]) (fun _ => St m2 (some (gp, Obj.cells #[.slice BA p.bounds.length bc, .slice RA p.rules.length rc] 25 (0, 0)) :: L)) (fun k => s.length - k) 0 (by omega) inc (fun w h => h) ?_
  intro k hk
  by_cases hlt : k < s.length
  · obtain ⟨x, hx⟩ : ∃ x, s[k]? = some x := ⟨_, List.getElem?_eq_getElem hlt⟩
    obtain ⟨g3, o3, blk3, T3, fr3, W, cw, hAe, hm3, hc3, hW⟩ := hS1'.get hx
    have hd : decide ((k : Int) < (s.length : Int)) = true := by simpa using hlt
    obtain ⟨hxl, hxb, hxr⟩ := (sols_bt hp).1 (R.sound x (List.mem_of_getElem? hx))
    have hxn : ((x.length : Int) != (p.bounds.length : Int)) = false := by rw [hxl]; simp
    have hno : (s.take k).any (fun y => decide (y = x)) = false := by
      rw [List.any_eq_false]
      intro y hy
      obtain ⟨j, hj⟩ := List.getElem?_of_mem hy
      rw [List.getElem?_take] at hj
      split at hj
      · rename_i hjk
        intro he
        have he := of_decide_eq_true he
        subst he
        obtain ⟨q1, q2⟩ := List.getElem?_eq_some_iff.1 hj
        obtain ⟨q3, q4⟩ := List.getElem?_eq_some_iff.1 hx
        have := (List.pairwise_iff_getElem.1 R.nodup) j k q1 q3 hjk
        rw [q2, q4] at this
        exact this rfl
      · cases hj
    have htl : (s.take k).length = k := by simp; omega
    have hbt := fun (w : World) (L : Own) (hs : St m2 L w) => between_c BA W bc cw p.bounds x hxl m2 hBA2 hW L w hs
    rw [hxb] at hbt
    have hru : ∀ (g T : Nat) (L : Own) (w : World), St m2 (some (g, .cells #[.slice W x.length cw] T (0, 0)) :: L) w → Calls Tryz.prog 27 #[.slice RA p.rules.length rc, .func (.func 28) #[] #[.pointer (some ⟨g, 0, none⟩)]] w fun z w' => z = .returned (.bool false) ∧ St m2 (some (g, .cells #[.slice W x.length cw] T (0, 0)) :: L) w' := fun g T L w hs => by
      have := containsRl_c 28 #[.pointer (some ⟨g, 0, none⟩)] (fun r => !heldB r x) RA rc p.rules m2 _ w hs hRA2 (fun r B c hr hB w hs => neg_loose1 hp hxl hW (List.Mem.head _) r B c hr hB w hs)
      rw [hxr] at this
      exact this
    have hdu : ∀ (g T : Nat) (L : Own) (w : World), St m2 (some (g, .cells #[.slice W x.length cw] T (0, 0)) :: L) w → Calls Tryz.prog 30 #[.slice A1 k c1, .func (.func 31) #[] #[.pointer (some ⟨g, 0, none⟩)]] w fun z w' => z = .returned (.bool false) ∧ St m2 (some (g, .cells #[.slice W x.length cw] T (0, 0)) :: L) w' := fun g T L w hs => by
      have := containsL_c 31 #[.pointer (some ⟨g, 0, none⟩)] (fun y => decide (y = x)) A1 c1 (s.take k) _ _ _ hs (SolS.take hS1' k) (fun y _ B cb hB w hs => eq_loose2 hW (List.Mem.head _) y B cb hB w hs)
      rw [hno, htl] at this
      exact this
    repeat' (first | (apply a_call; exact EvC.callV rfl rfl (fun w hs => hbt w _ hs); exact rfl; exact wd; rintro ⟨⟩) | (apply a_call; exact EvC.callV rfl rfl (fun w hs => hru _ _ _ w hs); exact rfl; exact wd; rintro ⟨⟩) | (apply a_call; exact EvC.callV rfl rfl (fun w hs => hdu _ _ _ w hs); exact rfl; exact wd; rintro ⟨⟩) | refine TC.seq ?_ | refine TC.region ?_ | refine TR.nil ?_ | refine Post.then_normal ?_ | refine TC.block ?_ | refine TC.skip ?_ | (apply TC.cond_f; exact rfl) | (apply TC.cond_bt; exact rfl; assumption) | refine Post.block_normal ?_ | (apply a_gf; exact a_gss; (first | exact rfl | assumption)) | (apply TR.st1 (o := ⟨_, .slice _ _ _ _ _, _, _, _, _⟩); exact rfl; exact rfl; exact rfl; (first | exact Wd.plain rfl | exact Wd.on rfl rfl rfl); exact EvS.sliceHi rfl rfl hAe (by omega)) | (apply a_move; exact a_moves) | (apply a_assign; exact a_assigns) | (apply a_fieldAddr; exact a_fieldAddrs) | (apply a_load; exact a_loads) | (apply a_len; exact a_lens) | (apply a_unOp; exact a_unOps) | (apply a_bneq; exact a_bneqs) | (apply a_blss; exact a_blsss) | (apply a_badd; exact a_badds) | (apply a_pick; exact a_picks) | (apply a_indexAddr; exact a_indexAddrs) | (apply a_makeFunc; exact a_makeFuncs) | (apply c_alloc; exact c_allocs; exact rfl; intro g) | (apply c_store1; exact c_store1s; rintro ⟨⟩))
    exact Post.nextP (k + 1) (by omega) inc (fun w h => h.tail) (by omega)
  · have hd : decide ((k : Int) < (s.length : Int)) = false := by simpa using hlt
    repeat' (first | refine TC.seq ?_ | refine TC.region ?_ | refine TR.nil ?_ | refine Post.then_normal ?_ | refine TC.block ?_ | refine TC.skip ?_ | refine TC.exit ?_ | (apply TC.cond_f; exact rfl) | (apply TC.cond_bf; exact rfl; assumption) | refine Post.then_exit ?_ | refine Post.block_here ?_ | (apply a_sk; exact a_sks) | (apply a_gt; exact a_gss; (first | exact rfl | assumption)) | (apply a_gf; exact a_gss; (first | exact rfl | assumption)) | (apply a_move; exact a_moves) | (apply a_len; exact a_lens) | (apply a_beql; exact a_beqls) | (apply a_bneq; exact a_bneqs) | (apply a_blss; exact a_blsss) | (apply a_bgtr; exact a_bgtrs) | (apply a_pick; exact a_picks))
    clear hd hlt hk
    refine TC.loopP (X := Nat) (fun k => k ≤ co.length) (fun k => [(147, .int .i64 (k : Int)), (146, .int .i64 (co.length : Int)), (145, .slice A2 co.length c2), (10, .int .i64 8), (9, .slice A2 co.length c2), (8, .int .i64 0), (6, .slice A1 s.length c1), (5, .int .i64 most), (4, .bool false), (2, .pointer (some ⟨gp, 0, none⟩)), (1, .int .u8 (by_ : Int))]) (fun _ => St m2 (some (gp, Obj.cells #[.slice BA p.bounds.length bc, .slice RA p.rules.length rc] 25 (0, 0)) :: L)) (fun k => co.length - k) 0 (by omega) inc (fun w h => h) ?_
    intro k hk
    by_cases hlt : k < co.length
    · obtain ⟨r, hr⟩ : ∃ r, co[k]? = some r := ⟨_, List.getElem?_eq_getElem hlt⟩
      obtain ⟨g3, o3, blk3, T3, fr3, hAe, hm3, hc3⟩ := hS2.get1 (k := k) (v := .int .i64 (r : Int)) (by simp [ints, zs, hr])
      have hd : decide ((k : Int) < (co.length : Int)) = true := by simpa using hlt
      obtain ⟨hrl, hrp⟩ := core_lt C hr
      have hr0 : decide ((r : Int) < 0) = false := by simp
      have hr1 : decide ((r : Int) ≥ (p.rules.length : Int)) = false := by simp; omega
      by_cases hk0 : 0 < k
      · obtain ⟨r', hr'⟩ : ∃ r', co[k - 1]? = some r' := ⟨_, List.getElem?_eq_getElem (by omega)⟩
        obtain ⟨g4, o4, blk4, T4, fr4, hAe4, hm4, hc4⟩ := hS2.get1 (k := k - 1) (v := .int .i64 (r' : Int)) (by simp [ints, zs, hr'])
        rw [hAe] at hAe4
        cases hAe4
        rw [hm3] at hm4
        cases hm4
        have hk1 : decide ((k : Int) > 0) = true := by simp; omega
        have hlp := hrp r' hk0 hr'
        have hrr : decide ((r : Int) ≤ (r' : Int)) = false := by simp; omega
        have hkk : (k : Int) - 1 = ((k - 1 : Nat) : Int) := by omega
        repeat' (first | rw [hkk] | refine TC.seq ?_ | refine TC.region ?_ | refine TR.nil ?_ | refine Post.then_normal ?_ | refine TC.block ?_ | refine TC.skip ?_ | (apply TC.cond_bt; exact rfl; assumption) | (apply TC.cond_bf; exact rfl; assumption) | refine Post.block_normal ?_ | (apply a_gt; exact a_gss; (first | exact rfl | assumption)) | (apply a_gf; exact a_gss; (first | exact rfl | assumption)) | (apply a_move; exact a_moves) | (apply a_assign; exact a_assigns) | (apply a_fieldAddr; exact a_fieldAddrs) | (apply a_load; exact a_loads) | (apply a_len; exact a_lens) | (apply a_blss; exact a_blsss) | (apply a_bleq; exact a_bleqs) | (apply a_bgtr; exact a_bgtrs) | (apply a_bgeq; exact a_bgeqs) | (apply a_badd; exact a_badds) | (apply a_bsub; exact a_bsubs) | (apply a_pick; exact a_picks) | (apply a_indexAddr; exact a_indexAddrs))
        exact Post.nextP (k + 1) (by omega) inc (fun w h => h) (by omega)
      · have hk1 : decide ((k : Int) > 0) = false := by simp; omega
        repeat' (first | refine TC.seq ?_ | refine TC.region ?_ | refine TR.nil ?_ | refine Post.then_normal ?_ | refine TC.block ?_ | refine TC.skip ?_ | (apply TC.cond_f; exact rfl) | (apply TC.cond_bt; exact rfl; assumption) | refine Post.block_normal ?_ | (apply a_sk; exact a_sks) | (apply a_gf; exact a_gss; (first | exact rfl | assumption)) | (apply a_move; exact a_moves) | (apply a_assign; exact a_assigns) | (apply a_fieldAddr; exact a_fieldAddrs) | (apply a_load; exact a_loads) | (apply a_len; exact a_lens) | (apply a_blss; exact a_blsss) | (apply a_bgtr; exact a_bgtrs) | (apply a_bgeq; exact a_bgeqs) | (apply a_badd; exact a_badds) | (apply a_pick; exact a_picks) | (apply a_indexAddr; exact a_indexAddrs))
        exact Post.nextP (k + 1) (by omega) inc (fun w h => h) (by omega)
    · have hd : decide ((k : Int) < (co.length : Int)) = false := by simpa using hlt
      repeat' (first | refine TC.seq ?_ | refine TC.region ?_ | refine TR.nil ?_ | refine Post.then_normal ?_ | refine TC.block ?_ | refine TC.exit ?_ | (apply TC.cond_bf; exact rfl; assumption) | refine Post.then_exit ?_ | refine Post.block_here ?_ | (apply a_move; exact a_moves) | (apply a_blss; exact a_blsss))
      clear hd hlt hk
      have hpc2 := hpc0.mono hle
      have hdr : ∀ (m' : Mem) (hm : m2.Le m') (gb T : Nat) (a b c : BV) (w : World) (L : Own), St m' (some (gb, .cells #[u64v a, u64v b, u64v c] T (0, 0)) :: L) w → Calls Tryz.prog 33 #[.slice BA p.bounds.length bc, .slice (some ⟨gb, 0, none⟩) 3 3] w fun x w' => ∃ y : UsX m' p.bounds.length, x = .returned (.slice y.1.2.1.1 p.bounds.length y.1.2.1.2) ∧ St y.1.1 L w' := fun m' hm gb T a b c w L hs => by
        obtain ⟨k1, k2⟩ := lend hs
        have hrw : OwnRow (.slice (some ⟨gb, 0, none⟩) 3 3) T 1 3 (u64s [a, b, c]).flatten (some (gb, .cells #[u64v a, u64v b, u64v c] T (0, 0))) := OwnRow.lit (cs := #[u64v a, u64v b, u64v c]) rfl (by decide)
        obtain ⟨A9, c9, q1, _, hSb⟩ := OwnRow.lent (m := m') hrw (u64s_len _) rfl (by omega)
        injection q1 with q1 q2 q3
        subst q1
        refine (drawn_c BA (some ⟨gb, 0, none⟩) bc 3 p.bounds [a, b, c] (by omega) _ ((hBA2.mono hm).mono k1) hSb L w k2).mono fun x w' ⟨y, h1, h2⟩ => ?_
        obtain ⟨y, q1, q2, q3⟩ := y
        exact ⟨⟨y, k1.trans q1, q2, q3⟩, h1, h2⟩
      have hmd : ∀ (m' : Mem) (hm : m2.Le m') (A : Option Addr) (c : Nat) (l : List BV) (hl : l.length = p.bounds.length) (hS : Sl m' 1 A (u64s l)) (w : World) (L : Own), St m' L w → Calls Tryz.prog 34 #[.agg #[.slice BA p.bounds.length bc, .slice RA p.rules.length rc], .slice A p.bounds.length c] w fun x w' => ∃ y : UsX m' p.bounds.length, x = .returned (.slice y.1.2.1.1 p.bounds.length y.1.2.1.2) ∧ St y.1.1 L w' := fun m' hm A c l hl hS w L hs => by
        have := mended_c p _ hp A c l hl m' (hpc2.mono hm) hS L w hs
        rw [hl] at this
        exact this
      have hbw : ∀ (m' : Mem) (hm : m2.Le m') (A : Option Addr) (c : Nat) (l : List BV) (hl : l.length = p.bounds.length) (hS : Sl m' 1 A (u64s l)) (b : Bool) (hb : betweenB p.bounds l = b) (w : World) (L : Own), St m' L w → Calls Tryz.prog 26 #[.slice BA p.bounds.length bc, .slice A p.bounds.length c] w fun x w' => x = .returned (.bool b) ∧ St m' L w' := fun m' hm A c l hl hS b hb w L hs => by
        have := between_c BA A bc c p.bounds l hl m' (hBA2.mono hm) hS L w hs
        rw [hl, hb] at this
        exact this
      have hch := fun (m' : Mem) (hm : m2.Le m') (w : World) (L : Own) (hs : St m' L w) => chosen_c p _ A2 c2 co (-1) (fun k hk => by
        obtain ⟨i, hi⟩ := List.getElem?_of_mem hk
        exact (core_lt C hi).1) hcl.2 m' (hpc2.mono hm) (hS2.mono hm) L w hs
      rw [pkA_none] at hch
      have hps : OkP (selP p co) := hp.sel (fun k hk => by
        obtain ⟨i, hi⟩ := List.getElem?_of_mem hk
        exact (core_lt C hi).1) hcl.2
      have hn4 : ∀ (m' : Mem) (A B : Option Addr) (c rc' : Nat) (l : List BV) (hl : l.length = p.bounds.length) (hS : Sl m' 1 A (u64s l)) (hR : RlS m' B (selP p co).rules) (b : Bool) (hb : (selP p co).rules.any (fun r => !heldB r l) = b) (gl gf Tl Tf : Nat) (w : World) (L : Own), St m' (some (gf, .cells #[.func (.func 35) #[] #[.pointer (some ⟨gl, 0, none⟩)]] Tf (0, 0)) :: some (gl, .cells #[.slice A p.bounds.length c] Tl (0, 0)) :: L) w →
          Calls Tryz.prog 27 #[.slice B (selP p co).rules.length rc', .func (.func 36) #[] #[.pointer (some ⟨gf, 0, none⟩)]] w fun z w' => z = .returned (.bool b) ∧ St m' (some (gf, .cells #[.func (.func 35) #[] #[.pointer (some ⟨gl, 0, none⟩)]] Tf (0, 0)) :: some (gl, .cells #[.slice A p.bounds.length c] Tl (0, 0)) :: L) w' := fun m' A B c rc' l hl hS hR b hb gl gf Tl Tf w L hs => by
        rw [← hl] at hs ⊢
        have := containsRl_c 36 #[.pointer (some ⟨gf, 0, none⟩)] (fun r => !heldB r l) B rc' (selP p co).rules m' _ w hs hR (fun r B c hr hB w hs => neg2_loose4 hps hl hS (List.Mem.tail _ (List.Mem.head _)) (List.Mem.head _) r B c hr hB w hs)
        rw [hb] at this
        exact this
      have hn5 : ∀ (m' : Mem) (hm : m2.Le m') (A : Option Addr) (c : Nat) (l : List BV) (hl : l.length = p.bounds.length) (hS : Sl m' 1 A (u64s l)) (b : Bool) (hb : p.rules.any (fun r => !heldB r l) = b) (gl gf Tl Tf : Nat) (w : World) (L : Own), St m' (some (gf, .cells #[.func (.func 35) #[] #[.pointer (some ⟨gl, 0, none⟩)]] Tf (0, 0)) :: some (gl, .cells #[.slice A p.bounds.length c] Tl (0, 0)) :: L) w →
          Calls Tryz.prog 27 #[.slice RA p.rules.length rc, .func (.func 37) #[] #[.pointer (some ⟨gf, 0, none⟩)]] w fun z w' => z = .returned (.bool b) ∧ St m' (some (gf, .cells #[.func (.func 35) #[] #[.pointer (some ⟨gl, 0, none⟩)]] Tf (0, 0)) :: some (gl, .cells #[.slice A p.bounds.length c] Tl (0, 0)) :: L) w' := fun m' hm A c l hl hS b hb gl gf Tl Tf w L hs => by
        rw [← hl] at hs ⊢
        have := containsRl_c 37 #[.pointer (some ⟨gf, 0, none⟩)] (fun r => !heldB r l) RA rc p.rules m' _ w hs (hRA2.mono hm) (fun r B c hr hB w hs => neg2_loose5 hp hl hS (List.Mem.tail _ (List.Mem.head _)) (List.Mem.head _) r B c hr hB w hs)
        rw [hb] at this
        exact this
      have hn6 : ∀ (m' : Mem) (hm : m2.Le m') (A : Option Addr) (c : Nat) (l : List BV) (hl : l.length = p.bounds.length) (hS : Sl m' 1 A (u64s l)) (b : Bool) (hb : s.any (fun y => decide (y = l)) = b) (gl gf Tl : Nat) (o : Obj) (w : World) (L : Own), St m' (some (gf, o) :: some (gl, .cells #[.slice A p.bounds.length c] Tl (0, 0)) :: L) w →
          Calls Tryz.prog 30 #[.slice A1 s.length c1, .func (.func 38) #[] #[.pointer (some ⟨gl, 0, none⟩)]] w fun z w' => z = .returned (.bool b) ∧ St m' (some (gf, o) :: some (gl, .cells #[.slice A p.bounds.length c] Tl (0, 0)) :: L) w' := fun m' hm A c l hl hS b hb gl gf Tl o w L hs => by
        rw [← hl] at hs ⊢
        have := containsL_c 38 #[.pointer (some ⟨gl, 0, none⟩)] (fun y => decide (y = l)) A1 c1 s m' _ w hs (hS1'.mono hm) (fun y _ B cb hB w hs => eq_loose6 hS (List.Mem.tail _ (List.Mem.head _)) y B cb hB w hs)
        rw [hb] at this
        exact this
      refine TC.loopP (X := BV) (fun j => j.toNat ≤ 4) (fun j => [(175, .int .u64 (j.toNat : Int)), (10, .int .i64 8), (9, .slice A2 co.length c2), (8, .int .i64 0), (6, .slice A1 s.length c1), (5, .int .i64 most), (4, .bool false), (2, .pointer (some ⟨gp, 0, none⟩)), (1, .int .u8 (by_ : Int))]) (fun _ w => ∃ m', m2.Le m' ∧ St m' (some (gp, Obj.cells #[.slice BA p.bounds.length bc, .slice RA p.rules.length rc] 25 (0, 0)) :: L) w) (fun j => 4 - j.toNat) 0#64 (by decide) inc (fun w h => ⟨m2, Mem.Le.refl _, h⟩) ?_
      intro j hj
      refine TC.of_exists (X := { y : Mem // m2.Le y }) (S' := fun y => St y.1 (some (gp, Obj.cells #[.slice BA p.bounds.length bc, .slice RA p.rules.length rc] 25 (0, 0)) :: L)) (fun w h => let ⟨m', h1, h2⟩ := h; ⟨⟨m', h1⟩, h2⟩) ?_
      rintro ⟨m3, hle3⟩
      simp only
      by_cases hlt : j.toNat < 4
      · have hd : decide ((j.toNat : Int) < 4) = true := by simp; omega
        repeat' (first | (apply TR.ch1 (o := ⟨_, .buildSlice _ _ _, _, _, _, _⟩); exact rfl; exact rfl; exact rfl; exact wd; exact EvC.buildN (n := 3) (sz := 1) (cells := #[u64v (j * 21845#64), u64v ((BitVec.ofNat 64 by_ * 257#64) <<< ((j.toNat : Int)).toNat), u64v (BitVec.ofNat 64 18446744073709551615)]) rfl (by decide) (by decide) (by kernel_rfl); intro g) | (apply a_call; exact EvC.callX rfl rfl (fun w hs => hdr m3 hle3 _ _ _ _ (BitVec.ofNat 64 18446744073709551615) w _ hs); exact rfl; exact wd; rintro ⟨⟨m4, ⟨A4, c4⟩, l⟩, hle4, hl4, hS4⟩; simp only at hle4 hl4 hS4 ⊢) | (apply a_call; exact EvC.callX rfl rfl (fun w hs => hmd _ (hle3.trans hle4) _ _ _ hl4 hS4 w _ hs); exact rfl; exact wd; rintro ⟨⟨m5, ⟨A4, c4⟩, l⟩, hle5, hl4, hS4⟩; simp only at hle5 hl4 hS4 ⊢; have hle4 := hle4.trans hle5) | refine TC.seq ?_ | refine TC.region ?_ | refine TR.nil ?_ | refine Post.then_normal ?_ | refine TC.block ?_ | refine TC.skip ?_ | (apply TC.cond_bt; exact rfl; assumption) | (apply TC.cond; exact rfl; all_goals (intro h)) | (apply TR.st1; exact rfl; exact rfl; exact rfl; (first | exact Wd.plain rfl | exact Wd.on rfl rfl rfl); (first | exact EvS.conv8 rfl hby | exact EvS.remI (b := 2) rfl rfl (by decide))) | (apply a_move; exact a_moves) | (apply a_assign; exact a_assigns) | (apply a_fieldAddr; exact a_fieldAddrs) | (apply a_load; exact a_loads) | (apply a_beql; exact a_beqls) | (apply a_bmul; exact a_bmuls) | (apply a_blss; exact a_blsss) | (apply a_bshl; exact a_bshls) | (apply c_alloc; exact c_allocs; exact rfl; intro g) | (apply c_store1; exact c_store1s; rintro ⟨⟩))
        all_goals
          have hle9 := hle3.trans hle4
          have hj1 : (j + 1#64).toNat = j.toNat + 1 := by rw [BitVec.toNat_add]; show (j.toNat + 1) % 2 ^ 64 = _; omega
          cases hb : betweenB p.bounds l with
          | false =>
            repeat' (first | (apply a_call; exact EvC.callV rfl rfl (fun w hs => hbw _ hle9 _ _ _ hl4 hS4 _ hb w _ hs); exact rfl; exact wd; rintro ⟨⟩) | refine TC.region ?_ | refine TR.nil ?_ | refine Post.then_normal ?_ | refine TC.exit ?_ | (apply TC.cond_t; exact rfl) | refine Post.then_exit ?_ | refine Post.block_here ?_ | (apply a_move; exact a_moves) | (apply a_unOp; exact a_unOps) | (apply a_badd; exact a_badds))
            exact Post.nextP (j + 1#64) (by omega) inc (fun w h => ⟨_, hle9, h.tail⟩) (by omega)
          | true =>
            have hno : (8 : Int) = 0 → (selP p co).rules.any (fun r => !heldB r l) = true := fun hf => core_no hp C hf hl4 hb
            cases hal : p.rules.any (fun r => !heldB r l) with
            | true =>
              repeat' (first | (apply a_call; exact EvC.callV rfl rfl (fun w hs => hbw _ hle9 _ _ _ hl4 hS4 _ hb w _ hs); exact rfl; exact wd; rintro ⟨⟩) | (apply a_call; exact EvC.callV rfl rfl (fun w hs => hn5 _ hle9 _ _ _ hl4 hS4 _ hal _ _ _ _ w _ hs); exact rfl; exact wd; rintro ⟨⟩) | refine TC.seq ?_ | refine TC.region ?_ | refine TR.nil ?_ | refine Post.then_normal ?_ | refine TC.skip ?_ | (apply TC.cond_f; exact rfl) | refine Post.block_normal ?_ | (apply a_sk; exact a_sks) | (apply a_gf; exact a_gss; (first | exact rfl | assumption)) | (apply a_move; exact a_moves) | (apply a_assign; exact a_assigns) | (apply a_fieldAddr; exact a_fieldAddrs) | (apply a_load; exact a_loads) | (apply a_unOp; exact a_unOps) | (apply a_beql; exact a_beqls) | (apply a_badd; exact a_badds) | (apply a_pick; exact a_picks) | (apply a_makeFunc; exact a_makeFuncs) | (apply c_alloc; exact c_allocs; exact rfl; intro g) | (apply c_store1; exact c_store1s; rintro ⟨⟩))
              exact Post.nextP (j + 1#64) (by omega) inc (fun w h => ⟨_, hle9, h.tail.tail⟩) (by omega)
            | false =>
              have hsl := (sols_bt hp).2 ⟨hl4, hb, hal⟩
              by_cases hsm : (s.length : Int) < most
              · have hsd : decide ((s.length : Int) < most) = true := decide_eq_true hsm
                have hin : (0 : Int) = 0 → s.any (fun y => decide (y = l)) = true := fun he => by
                  rw [List.any_eq_true]
                  exact ⟨l, R.full he hsm l hsl, decide_eq_true rfl⟩
                repeat' (first | (apply a_call; exact EvC.callV rfl rfl (fun w hs => hbw _ hle9 _ _ _ hl4 hS4 _ hb w _ hs); exact rfl; exact wd; rintro ⟨⟩) | (apply a_call; exact EvC.callV rfl rfl (fun w hs => hn5 _ hle9 _ _ _ hl4 hS4 _ hal _ _ _ _ w _ hs); exact rfl; exact wd; rintro ⟨⟩) | (apply a_call; exact EvC.callV rfl rfl (fun w hs => hn6 _ hle9 _ _ _ hl4 hS4 _ (hin rfl) _ _ _ _ w _ hs); exact rfl; exact wd; rintro ⟨⟩) | refine TC.seq ?_ | refine TC.region ?_ | refine TR.nil ?_ | refine Post.then_normal ?_ | refine TC.skip ?_ | (apply TC.cond_f; exact rfl) | refine Post.block_normal ?_ | (apply a_sk; exact a_sks) | (apply a_gt; exact a_gss; (first | exact rfl | assumption)) | (apply a_gf; exact a_gss; (first | exact rfl | assumption)) | (apply a_move; exact a_moves) | (apply a_assign; exact a_assigns) | (apply a_fieldAddr; exact a_fieldAddrs) | (apply a_load; exact a_loads) | (apply a_len; exact a_lens) | (apply a_unOp; exact a_unOps) | (apply a_beql; exact a_beqls) | (apply a_blss; exact a_blsss) | (apply a_badd; exact a_badds) | (apply a_pick; exact a_picks) | (apply a_makeFunc; exact a_makeFuncs) | (apply c_alloc; exact c_allocs; exact rfl; intro g) | (apply c_store1; exact c_store1s; rintro ⟨⟩))
                exact Post.nextP (j + 1#64) (by omega) inc (fun w h => ⟨_, hle9, h.tail.tail⟩) (by omega)
              · have hsd : decide ((s.length : Int) < most) = false := decide_eq_false hsm
                repeat' (first | (apply a_call; exact EvC.callV rfl rfl (fun w hs => hbw _ hle9 _ _ _ hl4 hS4 _ hb w _ hs); exact rfl; exact wd; rintro ⟨⟩) | (apply a_call; exact EvC.callV rfl rfl (fun w hs => hn5 _ hle9 _ _ _ hl4 hS4 _ hal _ _ _ _ w _ hs); exact rfl; exact wd; rintro ⟨⟩) | refine TC.seq ?_ | refine TC.region ?_ | refine TR.nil ?_ | refine Post.then_normal ?_ | refine TC.skip ?_ | (apply TC.cond_f; exact rfl) | refine Post.block_normal ?_ | (apply a_sk; exact a_sks) | (apply a_gt; exact a_gss; (first | exact rfl | assumption)) | (apply a_gf; exact a_gss; (first | exact rfl | assumption)) | (apply a_move; exact a_moves) | (apply a_assign; exact a_assigns) | (apply a_fieldAddr; exact a_fieldAddrs) | (apply a_load; exact a_loads) | (apply a_len; exact a_lens) | (apply a_unOp; exact a_unOps) | (apply a_beql; exact a_beqls) | (apply a_blss; exact a_blsss) | (apply a_badd; exact a_badds) | (apply a_pick; exact a_picks) | (apply a_makeFunc; exact a_makeFuncs) | (apply c_alloc; exact c_allocs; exact rfl; intro g) | (apply c_store1; exact c_store1s; rintro ⟨⟩))
                exact Post.nextP (j + 1#64) (by omega) inc (fun w h => ⟨_, hle9, h.tail.tail⟩) (by omega)
      · have hd : decide ((j.toNat : Int) < 4) = false := by simp; omega
        repeat' (first | refine TC.seq ?_ | refine TC.region ?_ | refine TR.nil ?_ | refine Post.then_normal ?_ | refine TC.ret ?_ | refine TC.exit ?_ | (apply TC.cond_bf; exact rfl; assumption) | refine Post.then_exit ?_ | refine Post.block_here ?_ | (apply a_assign; exact a_assigns) | (apply a_blss; exact a_blsss))
        refine Post.body_ret _ (ResL.one rfl (ResV.tmp rfl)) ?_
        exact fun w h => ⟨rfl, (h.weaken (hle.trans hle3)).tail⟩
end Go.Proofs.YtgpgjpcebajofaaGreatDoor
set_option maxHeartbeats 4000000
set_option linter.unusedVariables false
set_option linter.unusedSimpArgs false
set_option maxRecDepth 100000
namespace Go.Proofs.YtgpgjpcebajofaaGreatDoor
open Go Go.XC Go.RowKit Go.SetsP
attribute [local irreducible] Post TC TR D WL EvS EvC Wd ResL Code.wpIn Exit.then Exit.inBlock Exit.noGoto LoopK LoopP bodyPostM Reads Calls

attribute [local irreducible] partsB ens waysP foundP waysO
theorem loose_80 (p : Pb) (pcs : Array Value) (hck : checkB p = true) (by_ : Nat) (hby : by_ < 256) (m : Mem) (hT : TabM m) (hpc : PbC m p pcs) (L : Own) (w : World) (hs : St m L w) (hE : (solveP p (1 + ((by_ % 100 : Nat) : Int))).2.2 = 8) (hF : (coreP p).2 = 0) :
    Calls Tryz.prog 7 #[.agg pcs, .int .u8 (by_ : Int)] w fun x w' => x = .returned (.bool true) ∧ St m L w' := by
  have hp := OkP.of hck
  have h8 := hp.ok.b8
  have h12 := hp.ok.r12
  obtain ⟨most, hmost⟩ : ∃ y : Int, y = 1 + ((by_ % 100 : Nat) : Int) := ⟨_, rfl⟩
  rw [← hmost] at hE
  have hm1 : 1 ≤ most := by omega
  have hm2 : most ≤ 100 := by omega
  have R := solve_spec hck hm1 hm2
  have C := core_spec hck
  have hsol := fun (w : World) (L : Own) (hs : St m L w) => solve_c p pcs most (by omega) (by omega) m hT hpc L w hs
  have hcor := fun (m1 : Mem) (hm : m.Le m1) (w : World) (L : Own) (hs : St m1 L w) => core_ok p pcs hck m1 (hT.mono hm) (hpc.mono hm) L w hs
  generalize solveP p most = sp at R hsol hE
  generalize coreP p = cp at C hcor hF
  obtain ⟨s, n, e⟩ := sp
  obtain ⟨co, f⟩ := cp
  simp only at R C hsol hcor hE hF
  subst hE hF
  have hpc0 := hpc
  obtain ⟨BA, bc, RA, rc, rfl, hBA, hRA⟩ := hpc
  have hq1 : decide (most < (s.length : Int)) = false := by have := R.le; simp; omega
  have hq4 : decide (0 < (s.length : Int)) = false := by rw [core_f0 R C rfl]; rfl
  have hq7 : (n != 0) = false := by rw [(R.e8 rfl).2]; rfl
  refine calls_of_TC (args := [_, _]) Tryz.func7 rfl Tryz.ntmps7 (Nat.le_of_ble_eq_true rfl) hs ?_
  repeat' (first | rw [← hmost] | (apply a_call; exact EvC.callX rfl rfl (fun w hs => hsol w _ hs); exact rfl; exact wd; rintro ⟨⟨m1, A1, c1⟩, hle1, hS1, hcc1⟩; simp only at hle1 hS1 hcc1 ⊢) | (apply a_call; exact EvC.callX rfl rfl (fun w hs => hcor _ hle1 w _ hs); exact rfl; exact wd; rintro ⟨⟨m2, A2, c2⟩, hle2, hS2⟩; simp only at hle2 hS2 ⊢) | refine TC.seq ?_ | refine TC.region ?_ | refine TR.nil ?_ | refine Post.then_normal ?_ | refine TC.block ?_ | refine TC.skip ?_ | (apply TC.cond_f; exact rfl) | (apply a_sk; exact a_sks) | (apply a_gt; exact a_gss; (first | exact rfl | assumption)) | (apply a_gf; exact a_gss; (first | exact rfl | assumption)) | (apply TR.st1; exact rfl; exact rfl; exact rfl; (first | exact Wd.plain rfl | exact Wd.on rfl rfl rfl); (first | exact EvS.convN rfl (by omega) | exact EvS.remI (b := 100) rfl rfl (by decide))) | (apply a_move; exact a_moves) | (apply a_assign; exact a_assigns) | (apply a_load; exact a_loads) | (apply a_len; exact a_lens) | (apply a_beql; exact a_beqls) | (apply a_bneq; exact a_bneqs) | (apply a_bgtr; exact a_bgtrs) | (apply a_badd; exact a_badds) | (apply a_pick; exact a_picks) | (apply a_extract; exact a_extracts) | (apply c_boxA; exact c_boxAs; exact rfl; intro g))
  obtain ⟨gp, hgp⟩ : ∃ y, y = g := ⟨_, rfl⟩
  subst hgp
  have hle := hle1.trans hle2
  have hS1' := hS1.mono hle2
  have hBA2 := hBA.mono hle
  have hRA2 := hRA.mono hle
  have hsb := hS1.big
  have hcl := core_len hp C
  refine TC.loopP (X := Nat) (fun k => k ≤ s.length) (fun k => [(74, .int .i64 (k : Int)), (73, .int .i64 (s.length : Int)), (72, .slice A1 s.length c1), (10, .int .i64 0), (9, .slice A2 co.length c2), (8, .int .i64 8), (7, .int .i64 n), (6, .slice A1 s.length c1), (5, .int .i64 most), (4, .bool false), (2, .pointer (some ⟨gp, 0, none⟩)), (1, .int .u8 (by_ : Int))]) (fun _ => St m2 (some (gp, Obj.cells #[.slice BA p.bounds.length bc, .slice RA p.rules.length rc] 25 (0, 0)) :: L)) (fun k => s.length - k) 0 (by omega) inc (fun w h => h) ?_
  intro k hk
  by_cases hlt : k < s.length
  · obtain ⟨x, hx⟩ : ∃ x, s[k]? = some x := ⟨_, List.getElem?_eq_getElem hlt⟩
    obtain ⟨g3, o3, blk3, T3, fr3, W, cw, hAe, hm3, hc3, hW⟩ := hS1'.get hx
    have hd : decide ((k : Int) < (s.length : Int)) = true := by simpa using hlt
    obtain ⟨hxl, hxb, hxr⟩ := (sols_bt hp).1 (R.sound x (List.mem_of_getElem? hx))
    have hxn : ((x.length : Int) != (p.bounds.length : Int)) = false := by rw [hxl]; simp
    have hno : (s.take k).any (fun y => decide (y = x)) = false := by
      rw [List.any_eq_false]
      intro y hy
      obtain ⟨j, hj⟩ := List.getElem?_of_mem hy
      rw [List.getElem?_take] at hj
      split at hj
      · rename_i hjk
        intro he
        have he := of_decide_eq_true he
        subst he
        obtain ⟨q1, q2⟩ := List.getElem?_eq_some_iff.1 hj
        obtain ⟨q3, q4⟩ := List.getElem?_eq_some_iff.1 hx
        have := (List.pairwise_iff_getElem.1 R.nodup) j k q1 q3 hjk
        rw [q2, q4] at this
        exact this rfl
      · cases hj
    have htl : (s.take k).length = k := by simp; omega
    have hbt := fun (w : World) (L : Own) (hs : St m2 L w) => between_c BA W bc cw p.bounds x hxl m2 hBA2 hW L w hs
    rw [hxb] at hbt
    have hru : ∀ (g T : Nat) (L : Own) (w : World), St m2 (some (g, .cells #[.slice W x.length cw] T (0, 0)) :: L) w → Calls Tryz.prog 27 #[.slice RA p.rules.length rc, .func (.func 28) #[] #[.pointer (some ⟨g, 0, none⟩)]] w fun z w' => z = .returned (.bool false) ∧ St m2 (some (g, .cells #[.slice W x.length cw] T (0, 0)) :: L) w' := fun g T L w hs => by
      have := containsRl_c 28 #[.pointer (some ⟨g, 0, none⟩)] (fun r => !heldB r x) RA rc p.rules m2 _ w hs hRA2 (fun r B c hr hB w hs => neg_loose1 hp hxl hW (List.Mem.head _) r B c hr hB w hs)
      rw [hxr] at this
      exact this
    have hdu : ∀ (g T : Nat) (L : Own) (w : World), St m2 (some (g, .cells #[.slice W x.length cw] T (0, 0)) :: L) w → Calls Tryz.prog 30 #[.slice A1 k c1, .func (.func 31) #[] #[.pointer (some ⟨g, 0, none⟩)]] w fun z w' => z = .returned (.bool false) ∧ St m2 (some (g, .cells #[.slice W x.length cw] T (0, 0)) :: L) w' := fun g T L w hs => by
      have := containsL_c 31 #[.pointer (some ⟨g, 0, none⟩)] (fun y => decide (y = x)) A1 c1 (s.take k) _ _ _ hs (SolS.take hS1' k) (fun y _ B cb hB w hs => eq_loose2 hW (List.Mem.head _) y B cb hB w hs)
      rw [hno, htl] at this
      exact this
    repeat' (first | (apply a_call; exact EvC.callV rfl rfl (fun w hs => hbt w _ hs); exact rfl; exact wd; rintro ⟨⟩) | (apply a_call; exact EvC.callV rfl rfl (fun w hs => hru _ _ _ w hs); exact rfl; exact wd; rintro ⟨⟩) | (apply a_call; exact EvC.callV rfl rfl (fun w hs => hdu _ _ _ w hs); exact rfl; exact wd; rintro ⟨⟩) | refine TC.seq ?_ | refine TC.region ?_ | refine TR.nil ?_ | refine Post.then_normal ?_ | refine TC.block ?_ | refine TC.skip ?_ | (apply TC.cond_f; exact rfl) | (apply TC.cond_bt; exact rfl; assumption) | refine Post.block_normal ?_ | (apply a_gf; exact a_gss; (first | exact rfl | assumption)) | (apply TR.st1 (o := ⟨_, .slice _ _ _ _ _, _, _, _, _⟩); exact rfl; exact rfl; exact rfl; (first | exact Wd.plain rfl | exact Wd.on rfl rfl rfl); exact EvS.sliceHi rfl rfl hAe (by omega)) | (apply a_move; exact a_moves) | (apply a_assign; exact a_assigns) | (apply a_fieldAddr; exact a_fieldAddrs) | (apply a_load; exact a_loads) | (apply a_len; exact a_lens) | (apply a_unOp; exact a_unOps) | (apply a_bneq; exact a_bneqs) | (apply a_blss; exact a_blsss) | (apply a_badd; exact a_badds) | (apply a_pick; exact a_picks) | (apply a_indexAddr; exact a_indexAddrs) | (apply a_makeFunc; exact a_makeFuncs) | (apply c_alloc; exact c_allocs; exact rfl; intro g) | (apply c_store1; exact c_store1s; rintro ⟨⟩))
    exact Post.nextP (k + 1) (by omega) inc (fun w h => h.tail) (by omega)
  · have hd : decide ((k : Int) < (s.length : Int)) = false := by simpa using hlt
    repeat' (first | refine TC.seq ?_ | refine TC.region ?_ | refine TR.nil ?_ | refine Post.then_normal ?_ | refine TC.block ?_ | refine TC.skip ?_ | refine TC.exit ?_ | (apply TC.cond_f; exact rfl) | (apply TC.cond_bf; exact rfl; assumption) | refine Post.then_exit ?_ | refine Post.block_here ?_ | (apply a_sk; exact a_sks) | (apply a_gt; exact a_gss; (first | exact rfl | assumption)) | (apply a_gf; exact a_gss; (first | exact rfl | assumption)) | (apply a_move; exact a_moves) | (apply a_len; exact a_lens) | (apply a_beql; exact a_beqls) | (apply a_bneq; exact a_bneqs) | (apply a_blss; exact a_blsss) | (apply a_bgtr; exact a_bgtrs) | (apply a_pick; exact a_picks))
    clear hd hlt hk
    refine TC.loopP (X := Nat) (fun k => k ≤ co.length) (fun k => [(147, .int .i64 (k : Int)), (146, .int .i64 (co.length : Int)), (145, .slice A2 co.length c2), (10, .int .i64 0), (9, .slice A2 co.length c2), (8, .int .i64 8), (6, .slice A1 s.length c1), (5, .int .i64 most), (4, .bool false), (2, .pointer (some ⟨gp, 0, none⟩)), (1, .int .u8 (by_ : Int))]) (fun _ => St m2 (some (gp, Obj.cells #[.slice BA p.bounds.length bc, .slice RA p.rules.length rc] 25 (0, 0)) :: L)) (fun k => co.length - k) 0 (by omega) inc (fun w h => h) ?_
    intro k hk
    by_cases hlt : k < co.length
    · obtain ⟨r, hr⟩ : ∃ r, co[k]? = some r := ⟨_, List.getElem?_eq_getElem hlt⟩
      obtain ⟨g3, o3, blk3, T3, fr3, hAe, hm3, hc3⟩ := hS2.get1 (k := k) (v := .int .i64 (r : Int)) (by simp [ints, zs, hr])
      have hd : decide ((k : Int) < (co.length : Int)) = true := by simpa using hlt
      obtain ⟨hrl, hrp⟩ := core_lt C hr
      have hr0 : decide ((r : Int) < 0) = false := by simp
      have hr1 : decide ((r : Int) ≥ (p.rules.length : Int)) = false := by simp; omega
      by_cases hk0 : 0 < k
      · obtain ⟨r', hr'⟩ : ∃ r', co[k - 1]? = some r' := ⟨_, List.getElem?_eq_getElem (by omega)⟩
        obtain ⟨g4, o4, blk4, T4, fr4, hAe4, hm4, hc4⟩ := hS2.get1 (k := k - 1) (v := .int .i64 (r' : Int)) (by simp [ints, zs, hr'])
        rw [hAe] at hAe4
        cases hAe4
        rw [hm3] at hm4
        cases hm4
        have hk1 : decide ((k : Int) > 0) = true := by simp; omega
        have hlp := hrp r' hk0 hr'
        have hrr : decide ((r : Int) ≤ (r' : Int)) = false := by simp; omega
        have hkk : (k : Int) - 1 = ((k - 1 : Nat) : Int) := by omega
        repeat' (first | rw [hkk] | refine TC.seq ?_ | refine TC.region ?_ | refine TR.nil ?_ | refine Post.then_normal ?_ | refine TC.block ?_ | refine TC.skip ?_ | (apply TC.cond_bt; exact rfl; assumption) | (apply TC.cond_bf; exact rfl; assumption) | refine Post.block_normal ?_ | (apply a_gt; exact a_gss; (first | exact rfl | assumption)) | (apply a_gf; exact a_gss; (first | exact rfl | assumption)) | (apply a_move; exact a_moves) | (apply a_assign; exact a_assigns) | (apply a_fieldAddr; exact a_fieldAddrs) | (apply a_load; exact a_loads) | (apply a_len; exact a_lens) | (apply a_blss; exact a_blsss) | (apply a_bleq; exact a_bleqs) | (apply a_bgtr; exact a_bgtrs) | (apply a_bgeq; exact a_bgeqs) | (apply a_badd; exact a_badds) | (apply a_bsub; exact a_bsubs) | (apply a_pick; exact a_picks) | (apply a_indexAddr; exact a_indexAddrs))
        exact Post.nextP (k + 1) (by omega) inc (fun w h => h) (by omega)
      · have hk1 : decide ((k : Int) > 0) = false := by simp; omega
        repeat' (first | refine TC.seq ?_ | refine TC.region ?_ | refine TR.nil ?_ | refine Post.then_normal ?_ | refine TC.block ?_ | refine TC.skip ?_ | (apply TC.cond_f; exact rfl) | (apply TC.cond_bt; exact rfl; assumption) | refine Post.block_normal ?_ | (apply a_sk; exact a_sks) | (apply a_gf; exact a_gss; (first | exact rfl | assumption)) | (apply a_move; exact a_moves) | (apply a_assign; exact a_assigns) | (apply a_fieldAddr; exact a_fieldAddrs) | (apply a_load; exact a_loads) | (apply a_len; exact a_lens) | (apply a_blss; exact a_blsss) | (apply a_bgtr; exact a_bgtrs) | (apply a_bgeq; exact a_bgeqs) | (apply a_badd; exact a_badds) | (apply a_pick; exact a_picks) | (apply a_indexAddr; exact a_indexAddrs))
        exact Post.nextP (k + 1) (by omega) inc (fun w h => h) (by omega)
    · have hd : decide ((k : Int) < (co.length : Int)) = false := by simpa using hlt
      repeat' (first | refine TC.seq ?_ | refine TC.region ?_ | refine TR.nil ?_ | refine Post.then_normal ?_ | refine TC.block ?_ | refine TC.exit ?_ | (apply TC.cond_bf; exact rfl; assumption) | refine Post.then_exit ?_ | refine Post.block_here ?_ | (apply a_move; exact a_moves) | (apply a_blss; exact a_blsss))
      clear hd hlt hk
      have hpc2 := hpc0.mono hle
      have hdr : ∀ (m' : Mem) (hm : m2.Le m') (gb T : Nat) (a b c : BV) (w : World) (L : Own), St m' (some (gb, .cells #[u64v a, u64v b, u64v c] T (0, 0)) :: L) w → Calls Tryz.prog 33 #[.slice BA p.bounds.length bc, .slice (some ⟨gb, 0, none⟩) 3 3] w fun x w' => ∃ y : UsX m' p.bounds.length, x = .returned (.slice y.1.2.1.1 p.bounds.length y.1.2.1.2) ∧ St y.1.1 L w' := fun m' hm gb T a b c w L hs => by
        obtain ⟨k1, k2⟩ := lend hs
        have hrw : OwnRow (.slice (some ⟨gb, 0, none⟩) 3 3) T 1 3 (u64s [a, b, c]).flatten (some (gb, .cells #[u64v a, u64v b, u64v c] T (0, 0))) := OwnRow.lit (cs := #[u64v a, u64v b, u64v c]) rfl (by decide)
        obtain ⟨A9, c9, q1, _, hSb⟩ := OwnRow.lent (m := m') hrw (u64s_len _) rfl (by omega)
        injection q1 with q1 q2 q3
        subst q1
        refine (drawn_c BA (some ⟨gb, 0, none⟩) bc 3 p.bounds [a, b, c] (by omega) _ ((hBA2.mono hm).mono k1) hSb L w k2).mono fun x w' ⟨y, h1, h2⟩ => ?_
        obtain ⟨y, q1, q2, q3⟩ := y
        exact ⟨⟨y, k1.trans q1, q2, q3⟩, h1, h2⟩
      have hmd : ∀ (m' : Mem) (hm : m2.Le m') (A : Option Addr) (c : Nat) (l : List BV) (hl : l.length = p.bounds.length) (hS : Sl m' 1 A (u64s l)) (w : World) (L : Own), St m' L w → Calls Tryz.prog 34 #[.agg #[.slice BA p.bounds.length bc, .slice RA p.rules.length rc], .slice A p.bounds.length c] w fun x w' => ∃ y : UsX m' p.bounds.length, x = .returned (.slice y.1.2.1.1 p.bounds.length y.1.2.1.2) ∧ St y.1.1 L w' := fun m' hm A c l hl hS w L hs => by
        have := mended_c p _ hp A c l hl m' (hpc2.mono hm) hS L w hs
        rw [hl] at this
        exact this
      have hbw : ∀ (m' : Mem) (hm : m2.Le m') (A : Option Addr) (c : Nat) (l : List BV) (hl : l.length = p.bounds.length) (hS : Sl m' 1 A (u64s l)) (b : Bool) (hb : betweenB p.bounds l = b) (w : World) (L : Own), St m' L w → Calls Tryz.prog 26 #[.slice BA p.bounds.length bc, .slice A p.bounds.length c] w fun x w' => x = .returned (.bool b) ∧ St m' L w' := fun m' hm A c l hl hS b hb w L hs => by
        have := between_c BA A bc c p.bounds l hl m' (hBA2.mono hm) hS L w hs
        rw [hl, hb] at this
        exact this
      have hch := fun (m' : Mem) (hm : m2.Le m') (w : World) (L : Own) (hs : St m' L w) => chosen_c p _ A2 c2 co (-1) (fun k hk => by
        obtain ⟨i, hi⟩ := List.getElem?_of_mem hk
        exact (core_lt C hi).1) hcl.2 m' (hpc2.mono hm) (hS2.mono hm) L w hs
      rw [pkA_none] at hch
      have hps : OkP (selP p co) := hp.sel (fun k hk => by
        obtain ⟨i, hi⟩ := List.getElem?_of_mem hk
        exact (core_lt C hi).1) hcl.2
      have hn4 : ∀ (m' : Mem) (A B : Option Addr) (c rc' : Nat) (l : List BV) (hl : l.length = p.bounds.length) (hS : Sl m' 1 A (u64s l)) (hR : RlS m' B (selP p co).rules) (b : Bool) (hb : (selP p co).rules.any (fun r => !heldB r l) = b) (gl gf Tl Tf : Nat) (w : World) (L : Own), St m' (some (gf, .cells #[.func (.func 35) #[] #[.pointer (some ⟨gl, 0, none⟩)]] Tf (0, 0)) :: some (gl, .cells #[.slice A p.bounds.length c] Tl (0, 0)) :: L) w →
          Calls Tryz.prog 27 #[.slice B (selP p co).rules.length rc', .func (.func 36) #[] #[.pointer (some ⟨gf, 0, none⟩)]] w fun z w' => z = .returned (.bool b) ∧ St m' (some (gf, .cells #[.func (.func 35) #[] #[.pointer (some ⟨gl, 0, none⟩)]] Tf (0, 0)) :: some (gl, .cells #[.slice A p.bounds.length c] Tl (0, 0)) :: L) w' := fun m' A B c rc' l hl hS hR b hb gl gf Tl Tf w L hs => by
        rw [← hl] at hs ⊢
        have := containsRl_c 36 #[.pointer (some ⟨gf, 0, none⟩)] (fun r => !heldB r l) B rc' (selP p co).rules m' _ w hs hR (fun r B c hr hB w hs => neg2_loose4 hps hl hS (List.Mem.tail _ (List.Mem.head _)) (List.Mem.head _) r B c hr hB w hs)
        rw [hb] at this
        exact this
      have hn5 : ∀ (m' : Mem) (hm : m2.Le m') (A : Option Addr) (c : Nat) (l : List BV) (hl : l.length = p.bounds.length) (hS : Sl m' 1 A (u64s l)) (b : Bool) (hb : p.rules.any (fun r => !heldB r l) = b) (gl gf Tl Tf : Nat) (w : World) (L : Own), St m' (some (gf, .cells #[.func (.func 35) #[] #[.pointer (some ⟨gl, 0, none⟩)]] Tf (0, 0)) :: some (gl, .cells #[.slice A p.bounds.length c] Tl (0, 0)) :: L) w →
          Calls Tryz.prog 27 #[.slice RA p.rules.length rc, .func (.func 37) #[] #[.pointer (some ⟨gf, 0, none⟩)]] w fun z w' => z = .returned (.bool b) ∧ St m' (some (gf, .cells #[.func (.func 35) #[] #[.pointer (some ⟨gl, 0, none⟩)]] Tf (0, 0)) :: some (gl, .cells #[.slice A p.bounds.length c] Tl (0, 0)) :: L) w' := fun m' hm A c l hl hS b hb gl gf Tl Tf w L hs => by
        rw [← hl] at hs ⊢
        have := containsRl_c 37 #[.pointer (some ⟨gf, 0, none⟩)] (fun r => !heldB r l) RA rc p.rules m' _ w hs (hRA2.mono hm) (fun r B c hr hB w hs => neg2_loose5 hp hl hS (List.Mem.tail _ (List.Mem.head _)) (List.Mem.head _) r B c hr hB w hs)
        rw [hb] at this
        exact this
      have hn6 : ∀ (m' : Mem) (hm : m2.Le m') (A : Option Addr) (c : Nat) (l : List BV) (hl : l.length = p.bounds.length) (hS : Sl m' 1 A (u64s l)) (b : Bool) (hb : s.any (fun y => decide (y = l)) = b) (gl gf Tl : Nat) (o : Obj) (w : World) (L : Own), St m' (some (gf, o) :: some (gl, .cells #[.slice A p.bounds.length c] Tl (0, 0)) :: L) w →
          Calls Tryz.prog 30 #[.slice A1 s.length c1, .func (.func 38) #[] #[.pointer (some ⟨gl, 0, none⟩)]] w fun z w' => z = .returned (.bool b) ∧ St m' (some (gf, o) :: some (gl, .cells #[.slice A p.bounds.length c] Tl (0, 0)) :: L) w' := fun m' hm A c l hl hS b hb gl gf Tl o w L hs => by
        rw [← hl] at hs ⊢
        have := containsL_c 38 #[.pointer (some ⟨gl, 0, none⟩)] (fun y => decide (y = l)) A1 c1 s m' _ w hs (hS1'.mono hm) (fun y _ B cb hB w hs => eq_loose6 hS (List.Mem.tail _ (List.Mem.head _)) y B cb hB w hs)
        rw [hb] at this
        exact this
      refine TC.loopP (X := BV) (fun j => j.toNat ≤ 4) (fun j => [(175, .int .u64 (j.toNat : Int)), (10, .int .i64 0), (9, .slice A2 co.length c2), (8, .int .i64 8), (6, .slice A1 s.length c1), (5, .int .i64 most), (4, .bool false), (2, .pointer (some ⟨gp, 0, none⟩)), (1, .int .u8 (by_ : Int))]) (fun _ w => ∃ m', m2.Le m' ∧ St m' (some (gp, Obj.cells #[.slice BA p.bounds.length bc, .slice RA p.rules.length rc] 25 (0, 0)) :: L) w) (fun j => 4 - j.toNat) 0#64 (by decide) inc (fun w h => ⟨m2, Mem.Le.refl _, h⟩) ?_
      intro j hj
      refine TC.of_exists (X := { y : Mem // m2.Le y }) (S' := fun y => St y.1 (some (gp, Obj.cells #[.slice BA p.bounds.length bc, .slice RA p.rules.length rc] 25 (0, 0)) :: L)) (fun w h => let ⟨m', h1, h2⟩ := h; ⟨⟨m', h1⟩, h2⟩) ?_
      rintro ⟨m3, hle3⟩
      simp only
      by_cases hlt : j.toNat < 4
      · have hd : decide ((j.toNat : Int) < 4) = true := by simp; omega
        repeat' (first | (apply TR.ch1 (o := ⟨_, .buildSlice _ _ _, _, _, _, _⟩); exact rfl; exact rfl; exact rfl; exact wd; exact EvC.buildN (n := 3) (sz := 1) (cells := #[u64v (j * 21845#64), u64v ((BitVec.ofNat 64 by_ * 257#64) <<< ((j.toNat : Int)).toNat), u64v (BitVec.ofNat 64 18446744073709551615)]) rfl (by decide) (by decide) (by kernel_rfl); intro g) | (apply a_call; exact EvC.callX rfl rfl (fun w hs => hdr m3 hle3 _ _ _ _ (BitVec.ofNat 64 18446744073709551615) w _ hs); exact rfl; exact wd; rintro ⟨⟨m4, ⟨A4, c4⟩, l⟩, hle4, hl4, hS4⟩; simp only at hle4 hl4 hS4 ⊢) | (apply a_call; exact EvC.callX rfl rfl (fun w hs => hmd _ (hle3.trans hle4) _ _ _ hl4 hS4 w _ hs); exact rfl; exact wd; rintro ⟨⟨m5, ⟨A4, c4⟩, l⟩, hle5, hl4, hS4⟩; simp only at hle5 hl4 hS4 ⊢; have hle4 := hle4.trans hle5) | refine TC.seq ?_ | refine TC.region ?_ | refine TR.nil ?_ | refine Post.then_normal ?_ | refine TC.block ?_ | refine TC.skip ?_ | (apply TC.cond_bt; exact rfl; assumption) | (apply TC.cond; exact rfl; all_goals (intro h)) | (apply TR.st1; exact rfl; exact rfl; exact rfl; (first | exact Wd.plain rfl | exact Wd.on rfl rfl rfl); (first | exact EvS.conv8 rfl hby | exact EvS.remI (b := 2) rfl rfl (by decide))) | (apply a_move; exact a_moves) | (apply a_assign; exact a_assigns) | (apply a_fieldAddr; exact a_fieldAddrs) | (apply a_load; exact a_loads) | (apply a_beql; exact a_beqls) | (apply a_bmul; exact a_bmuls) | (apply a_blss; exact a_blsss) | (apply a_bshl; exact a_bshls) | (apply c_alloc; exact c_allocs; exact rfl; intro g) | (apply c_store1; exact c_store1s; rintro ⟨⟩))
        all_goals
          have hle9 := hle3.trans hle4
          have hj1 : (j + 1#64).toNat = j.toNat + 1 := by rw [BitVec.toNat_add]; show (j.toNat + 1) % 2 ^ 64 = _; omega
          cases hb : betweenB p.bounds l with
          | false =>
            repeat' (first | (apply a_call; exact EvC.callV rfl rfl (fun w hs => hbw _ hle9 _ _ _ hl4 hS4 _ hb w _ hs); exact rfl; exact wd; rintro ⟨⟩) | refine TC.region ?_ | refine TR.nil ?_ | refine Post.then_normal ?_ | refine TC.exit ?_ | (apply TC.cond_t; exact rfl) | refine Post.then_exit ?_ | refine Post.block_here ?_ | (apply a_move; exact a_moves) | (apply a_unOp; exact a_unOps) | (apply a_badd; exact a_badds))
            exact Post.nextP (j + 1#64) (by omega) inc (fun w h => ⟨_, hle9, h.tail⟩) (by omega)
          | true =>
            have hno : (0 : Int) = 0 → (selP p co).rules.any (fun r => !heldB r l) = true := fun hf => core_no hp C hf hl4 hb
            cases hal : p.rules.any (fun r => !heldB r l) with
            | true =>
              repeat' (first | (apply a_call; exact EvC.callV rfl rfl (fun w hs => hbw _ hle9 _ _ _ hl4 hS4 _ hb w _ hs); exact rfl; exact wd; rintro ⟨⟩) | (apply a_call; exact EvC.callX rfl rfl (fun w hs => hch _ hle9 w _ hs); exact rfl; exact wd; rintro ⟨⟨m6, cs6⟩, hle6, hP6⟩; simp only at hle6 hP6 ⊢; obtain ⟨BA6, bc6, RA6, rc6, rfl, hBA6, hRA6⟩ := hP6; have hle9 := hle9.trans hle6; have hS4 := hS4.mono hle6) | (apply a_call; exact EvC.callV rfl rfl (fun w hs => hn4 _ _ _ _ _ _ hl4 hS4 hRA6 _ (hno rfl) _ _ _ _ w _ hs); exact rfl; exact wd; rintro ⟨⟩) | (apply a_call; exact EvC.callV rfl rfl (fun w hs => hn5 _ hle9 _ _ _ hl4 hS4 _ hal _ _ _ _ w _ hs); exact rfl; exact wd; rintro ⟨⟩) | refine TC.seq ?_ | refine TC.region ?_ | refine TR.nil ?_ | refine Post.then_normal ?_ | refine TC.skip ?_ | (apply TC.cond_f; exact rfl) | refine Post.block_normal ?_ | (apply a_sk; exact a_sks) | (apply a_gt; exact a_gss; (first | exact rfl | assumption)) | (apply a_gf; exact a_gss; (first | exact rfl | assumption)) | (apply TR.st1 (o := ⟨_, _, _, _, _, _⟩); exact rfl; exact rfl; exact rfl; (first | exact Wd.plain rfl | exact Wd.on rfl rfl rfl); exact EvS.fieldR rfl) | (apply a_move; exact a_moves) | (apply a_assign; exact a_assigns) | (apply a_fieldAddr; exact a_fieldAddrs) | (apply a_load; exact a_loads) | (apply a_unOp; exact a_unOps) | (apply a_beql; exact a_beqls) | (apply a_badd; exact a_badds) | (apply a_pick; exact a_picks) | (apply a_makeFunc; exact a_makeFuncs) | (apply c_alloc; exact c_allocs; exact rfl; intro g) | (apply c_store1; exact c_store1s; rintro ⟨⟩))
              exact Post.nextP (j + 1#64) (by omega) inc (fun w h => ⟨_, hle9, h.tail.tail⟩) (by omega)
            | false =>
              have hsl := (sols_bt hp).2 ⟨hl4, hb, hal⟩
              by_cases hsm : (s.length : Int) < most
              · have hsd : decide ((s.length : Int) < most) = true := decide_eq_true hsm
                have hin : (8 : Int) = 0 → s.any (fun y => decide (y = l)) = true := fun he => by
                  rw [List.any_eq_true]
                  exact ⟨l, R.full he hsm l hsl, decide_eq_true rfl⟩
                repeat' (first | (apply a_call; exact EvC.callV rfl rfl (fun w hs => hbw _ hle9 _ _ _ hl4 hS4 _ hb w _ hs); exact rfl; exact wd; rintro ⟨⟩) | (apply a_call; exact EvC.callX rfl rfl (fun w hs => hch _ hle9 w _ hs); exact rfl; exact wd; rintro ⟨⟨m6, cs6⟩, hle6, hP6⟩; simp only at hle6 hP6 ⊢; obtain ⟨BA6, bc6, RA6, rc6, rfl, hBA6, hRA6⟩ := hP6; have hle9 := hle9.trans hle6; have hS4 := hS4.mono hle6) | (apply a_call; exact EvC.callV rfl rfl (fun w hs => hn4 _ _ _ _ _ _ hl4 hS4 hRA6 _ (hno rfl) _ _ _ _ w _ hs); exact rfl; exact wd; rintro ⟨⟩) | (apply a_call; exact EvC.callV rfl rfl (fun w hs => hn5 _ hle9 _ _ _ hl4 hS4 _ hal _ _ _ _ w _ hs); exact rfl; exact wd; rintro ⟨⟩) | refine TC.seq ?_ | refine TC.region ?_ | refine TR.nil ?_ | refine Post.then_normal ?_ | refine TC.skip ?_ | (apply TC.cond_f; exact rfl) | refine Post.block_normal ?_ | (apply a_sk; exact a_sks) | (apply a_gt; exact a_gss; (first | exact rfl | assumption)) | (apply a_gf; exact a_gss; (first | exact rfl | assumption)) | (apply TR.st1 (o := ⟨_, _, _, _, _, _⟩); exact rfl; exact rfl; exact rfl; (first | exact Wd.plain rfl | exact Wd.on rfl rfl rfl); exact EvS.fieldR rfl) | (apply a_move; exact a_moves) | (apply a_assign; exact a_assigns) | (apply a_fieldAddr; exact a_fieldAddrs) | (apply a_load; exact a_loads) | (apply a_unOp; exact a_unOps) | (apply a_beql; exact a_beqls) | (apply a_badd; exact a_badds) | (apply a_pick; exact a_picks) | (apply a_makeFunc; exact a_makeFuncs) | (apply c_alloc; exact c_allocs; exact rfl; intro g) | (apply c_store1; exact c_store1s; rintro ⟨⟩))
                exact Post.nextP (j + 1#64) (by omega) inc (fun w h => ⟨_, hle9, h.tail.tail⟩) (by omega)
              · have hsd : decide ((s.length : Int) < most) = false := decide_eq_false hsm
                repeat' (first | (apply a_call; exact EvC.callV rfl rfl (fun w hs => hbw _ hle9 _ _ _ hl4 hS4 _ hb w _ hs); exact rfl; exact wd; rintro ⟨⟩) | (apply a_call; exact EvC.callX rfl rfl (fun w hs => hch _ hle9 w _ hs); exact rfl; exact wd; rintro ⟨⟨m6, cs6⟩, hle6, hP6⟩; simp only at hle6 hP6 ⊢; obtain ⟨BA6, bc6, RA6, rc6, rfl, hBA6, hRA6⟩ := hP6; have hle9 := hle9.trans hle6; have hS4 := hS4.mono hle6) | (apply a_call; exact EvC.callV rfl rfl (fun w hs => hn4 _ _ _ _ _ _ hl4 hS4 hRA6 _ (hno rfl) _ _ _ _ w _ hs); exact rfl; exact wd; rintro ⟨⟩) | (apply a_call; exact EvC.callV rfl rfl (fun w hs => hn5 _ hle9 _ _ _ hl4 hS4 _ hal _ _ _ _ w _ hs); exact rfl; exact wd; rintro ⟨⟩) | refine TC.seq ?_ | refine TC.region ?_ | refine TR.nil ?_ | refine Post.then_normal ?_ | refine TC.skip ?_ | (apply TC.cond_f; exact rfl) | refine Post.block_normal ?_ | (apply a_sk; exact a_sks) | (apply a_gt; exact a_gss; (first | exact rfl | assumption)) | (apply a_gf; exact a_gss; (first | exact rfl | assumption)) | (apply TR.st1 (o := ⟨_, _, _, _, _, _⟩); exact rfl; exact rfl; exact rfl; (first | exact Wd.plain rfl | exact Wd.on rfl rfl rfl); exact EvS.fieldR rfl) | (apply a_move; exact a_moves) | (apply a_assign; exact a_assigns) | (apply a_fieldAddr; exact a_fieldAddrs) | (apply a_load; exact a_loads) | (apply a_unOp; exact a_unOps) | (apply a_beql; exact a_beqls) | (apply a_badd; exact a_badds) | (apply a_pick; exact a_picks) | (apply a_makeFunc; exact a_makeFuncs) | (apply c_alloc; exact c_allocs; exact rfl; intro g) | (apply c_store1; exact c_store1s; rintro ⟨⟩))
                exact Post.nextP (j + 1#64) (by omega) inc (fun w h => ⟨_, hle9, h.tail.tail⟩) (by omega)
      · have hd : decide ((j.toNat : Int) < 4) = false := by simp; omega
        repeat' (first | refine TC.seq ?_ | refine TC.region ?_ | refine TR.nil ?_ | refine Post.then_normal ?_ | refine TC.ret ?_ | refine TC.exit ?_ | (apply TC.cond_bf; exact rfl; assumption) | refine Post.then_exit ?_ | refine Post.block_here ?_ | (apply a_assign; exact a_assigns) | (apply a_blss; exact a_blsss))
        refine Post.body_ret _ (ResL.one rfl (ResV.tmp rfl)) ?_
        exact fun w h => ⟨rfl, (h.weaken (hle.trans hle3)).tail⟩
end Go.Proofs.YtgpgjpcebajofaaGreatDoor
