/- the laying of slices.SortFunc[[][]uint64,[]uint64] (printed by the kit's lay-plain.mjs, node) -/
import Derived.Shelf.SlGeneric
import Derived.Shelf.SlLaysF
import Derived.Test.YtgpgjpcebajofaaGreatDoorZT
import Derived.Test.YtgpgjpcebajofaaGreatDoorZK
import Derived.Shelf.SlSortCmp.NoneTotal
import Derived.Test.YtgpgjpcebajofaaGreatDoorZH
set_option linter.unusedVariables false
set_option linter.unusedSimpArgs false
set_option linter.all false
namespace Go.Proofs
open Go.Shelf
def Tryz.sortL_ren : Go.Shelf.Ren := ⟨fun | 6 => 11 | 15 => 47 | 14 => 46 | 28 => 83 | 29 => 84 | 20 => 75 | 21 => 76 | 22 => 77 | 23 => 78 | 24 => 79 | 25 => 80 | 26 => 81 | 27 => 82 | 46 => 99 | 47 => 100 | 48 => 101 | 49 => 102 | 50 => 103 | 57 => 115 | n => n, fun | 22 => 30 | 24 => 36 | 25 => 38 | 3 => 3 | 39 => 79 | 0 => 0 | 53 => 116 | 55 => 39 | 4 => 4 | 46 => 109 | 45 => 108 | 50 => 113 | 5 => 5 | 9 => 9 | 66 => 136 | 70 => 140 | 76 => 148 | 77 => 149 | n => n, fun | n => n⟩
theorem Tryz.sortL : Go.Proofs.SlLaysF.n6 Tryz.prog Tryz.sortL_ren := {
  mixed := by kernel_rfl
  f6 := ⟨Tryz.f11.name, by decide, Tryz.func11.trans (congrArg some (by kernel_rfl))⟩
  f14 := ⟨Tryz.f46.name, by decide, Tryz.func46.trans (congrArg some (by kernel_rfl))⟩
  f15 := Tryz.func47.trans (congrArg some (by kernel_rfl))
  f20 := ⟨Tryz.f75.name, by decide, Tryz.func75.trans (congrArg some (by kernel_rfl))⟩
  f21 := ⟨Tryz.f76.name, by decide, Tryz.func76.trans (congrArg some (by kernel_rfl))⟩
  f22 := ⟨Tryz.f77.name, by decide, Tryz.func77.trans (congrArg some (by kernel_rfl))⟩
  f23 := ⟨Tryz.f78.name, by decide, Tryz.func78.trans (congrArg some (by kernel_rfl))⟩
  f24 := ⟨Tryz.f79.name, by decide, Tryz.func79.trans (congrArg some (by kernel_rfl))⟩
  f25 := ⟨Tryz.f80.name, by decide, Tryz.func80.trans (congrArg some (by kernel_rfl))⟩
  f26 := ⟨Tryz.f81.name, by decide, Tryz.func81.trans (congrArg some (by kernel_rfl))⟩
  f27 := ⟨Tryz.f82.name, by decide, Tryz.func82.trans (congrArg some (by kernel_rfl))⟩
  f28 := Tryz.func83.trans (congrArg some (by kernel_rfl))
  f29 := Tryz.func84.trans (congrArg some (by kernel_rfl))
  f46 := ⟨Tryz.f99.name, by decide, Tryz.func99.trans (congrArg some (by kernel_rfl))⟩
  f47 := Tryz.func100.trans (congrArg some (by kernel_rfl))
  f48 := Tryz.func101.trans (congrArg some (by kernel_rfl))
  f49 := ⟨Tryz.f102.name, by decide, Tryz.func102.trans (congrArg some (by kernel_rfl))⟩
  f50 := ⟨Tryz.f103.name, by decide, Tryz.func103.trans (congrArg some (by kernel_rfl))⟩
  f57 := ⟨Tryz.f115.name, by decide, Tryz.func115.trans (congrArg some (by kernel_rfl))⟩
  t0 := Tryz.underlying0
  a0 := Tryz.isAgg0
  z0 := Tryz.sizeOf0
  v0 := Tryz.zeroValue0
  t3 := Tryz.underlying3
  a3 := Tryz.isAgg3
  z3 := Tryz.sizeOf3
  v3 := Tryz.zeroValue3
  t4 := Tryz.underlying4
  a4 := Tryz.isAgg4
  z4 := Tryz.sizeOf4
  v4 := Tryz.zeroValue4
  t5 := Tryz.underlying5
  a5 := Tryz.isAgg5
  z5 := Tryz.sizeOf5
  v5 := Tryz.zeroValue5
  t9 := Tryz.underlying9
  a9 := Tryz.isAgg9
  z9 := Tryz.sizeOf9
  v9 := Tryz.zeroValue9
  t22 := Tryz.underlying30
  a22 := Tryz.isAgg30
  z22 := Tryz.sizeOf30
  v22 := Tryz.zeroValue30
  a24 := Tryz.isAgg36
  z24 := Tryz.sizeOf36
  t25 := Tryz.underlying38
  a25 := Tryz.isAgg38
  z25 := Tryz.sizeOf38
  v25 := Tryz.zeroValue38
  t39 := Tryz.underlying79
  a39 := Tryz.isAgg79
  z39 := Tryz.sizeOf79
  v39 := Tryz.zeroValue79
  t45 := Tryz.underlying108
  a45 := Tryz.isAgg108
  z45 := Tryz.sizeOf108
  v45 := Tryz.zeroValue108
  t46 := Tryz.underlying109
  a46 := Tryz.isAgg109
  z46 := Tryz.sizeOf109
  v46 := Tryz.zeroValue109
  t50 := Tryz.underlying113
  a50 := Tryz.isAgg113
  z50 := Tryz.sizeOf113
  v50 := Tryz.zeroValue113
  t53 := Tryz.underlying116
  a53 := Tryz.isAgg116
  z53 := Tryz.sizeOf116
  v53 := Tryz.zeroValue116
  t55 := Tryz.underlying39
  a55 := Tryz.isAgg39
  z55 := Tryz.sizeOf39
  v55 := Tryz.zeroValue39
  t66 := Tryz.underlying136
  a66 := Tryz.isAgg136
  z66 := Tryz.sizeOf136
  v66 := Tryz.zeroValue136
  t70 := Tryz.underlying140
  a70 := Tryz.isAgg140
  z70 := Tryz.sizeOf140
  v70 := Tryz.zeroValue140
  t76 := Tryz.underlying148
  a76 := Tryz.isAgg148
  z76 := Tryz.sizeOf148
  v76 := Tryz.zeroValue148
  t77 := Tryz.underlying149
  a77 := Tryz.isAgg149
  z77 := Tryz.sizeOf149
  v77 := Tryz.zeroValue149 }
end Go.Proofs
set_option maxHeartbeats 4000000
set_option linter.unusedVariables false
set_option linter.unusedSimpArgs false
set_option maxRecDepth 100000
namespace Go.Proofs.YtgpgjpcebajofaaGreatDoor
open Go Go.XC Go.RowKit Go.SetsP
attribute [local irreducible] Post TC TR D WL EvS EvC Wd ResL Code.wpIn Exit.then Exit.inBlock Exit.noGoto LoopK LoopP bodyPostM Reads Calls
open Go.Shelf Go.Sort Go.Lib

/-! ### slices.SortFunc of rows of sets -/
abbrev AS (m : Mem) := { x : Value × List BV // SolC m x.2 [x.1] }
instance (m : Mem) : Inhabited (AS m) := ⟨⟨(.slice none 0 0, []), none, 0, rfl, Sl.nil⟩⟩
def cfA {m : Mem} (x y : AS m) : Int := lexC x.1.2 y.1.2
def encA {m : Mem} (x : AS m) : Value := x.1.1
theorem swoA {m : Mem} : SWO (ltOf (cfA (m := m))) where
  irrefl x := by
    have : lexC x.1.2 x.1.2 = 0 := lexC_zero.2 rfl
    unfold ltOf cfA; rw [this]; rfl
  trans x y z h1 h2 := by
    unfold ltOf cfA at *
    simp only [decide_eq_true_eq] at *
    have h3 := lexC_trans x.1.2 y.1.2 z.1.2 (by omega) (by omega)
    have h4 : lexC x.1.2 z.1.2 ≠ 0 := fun h => by
      rw [lexC_zero] at h
      rw [← h] at h2
      have := lexC_anti x.1.2 y.1.2
      omega
    omega
  ntrans x y z h1 h2 := by
    unfold ltOf cfA at *
    simp only [decide_eq_false_iff_not] at *
    have a1 := lexC_anti x.1.2 y.1.2
    have a2 := lexC_anti y.1.2 z.1.2
    have a3 := lexC_anti x.1.2 z.1.2
    have h3 := lexC_trans z.1.2 y.1.2 x.1.2 (by omega) (by omega)
    omega
theorem putCells_row {m : Mem} (d : Array (AS m)) (xs junk : List Value) (h : xs.length = d.size) : putCells encA 0 d (xs ++ junk).toArray = (d.toList.map encA ++ junk).toArray := by
  apply Array.ext_getElem?
  intro k
  unfold putCells
  rw [Array.getElem?_mapIdx]
  simp only [List.getElem?_toArray, Nat.zero_le, true_and, Nat.zero_add, Nat.sub_zero]
  by_cases hk : k < d.size
  · rw [List.getElem?_append_left (by omega), List.getElem?_append_left (by simpa using hk), List.getElem?_eq_getElem (by omega), Option.map_some, if_pos hk, List.getElem?_map, Array.getElem?_toList, Array.getElem?_eq_getElem hk, getElem!_pos d k hk]
    rfl
  · rw [List.getElem?_append_right (by omega), List.getElem?_append_right (by simp; omega), h]
    simp only [List.length_map, Array.length_toList]
    cases junk[k - d.size]? with
    | none => rfl
    | some v => simp only [Option.map_some, if_neg hk]
theorem St.sortW {m : Mem} {g T n : Nat} {L : Own} {w : World} {d : Array (AS m)} {xs junk : List Value} {os : Array Obj} (h : St m (some (g, .cells (xs ++ junk).toArray T (0, 0)) :: L) w) (hl : xs.length = d.size) :
    St m (some (g, .cells (d.toList.map encA ++ junk).toArray T (0, 0)) :: L) (sortWorld encA w g 0 n d os) := by
  have hg := h.get List.mem_cons_self
  have hlt := heap_lt hg
  have e : (sortWorld encA w g 0 n d os).heap = w.heap.modify g (onCells (putCells encA 0 d)) ++ os := rfl
  refine h.upd Upd.head rfl rfl rfl ?_ ?_ ?_
  · rw [e]; simp
  · rw [e, Array.getElem?_append_left (by simpa using hlt), Array.getElem?_modify, if_pos rfl, hg, ← putCells_row d xs junk hl]; rfl
  · intro k hk hne
    rw [e, Array.getElem?_append_left (by simpa using hk), Array.getElem?_modify, if_neg (Ne.symm hne)]
theorem rowA {m : Mem} : ∀ {o : List (List BV)} {css : List (List Value)}, css.length = o.length → (∀ (k : Nat) (l : List BV) (cs : List Value), o[k]? = some l → css[k]? = some cs → SolC m l cs) → ∃ d : List (AS m), d.map encA = css.flatten ∧ d.map (fun x => x.1.2) = o := by
  intro o
  induction o with
  | nil =>
    intro css h _
    have : css = [] := List.eq_nil_of_length_eq_zero h
    subst this
    exact ⟨[], rfl, rfl⟩
  | cons l o ih =>
    intro css h h3
    cases css with
    | nil => cases h
    | cons cs css =>
      obtain ⟨d, h1, h2⟩ := ih (css := css) (by simpa using h) (fun k l' cs' a b => h3 (k + 1) l' cs' (by simpa using a) (by simpa using b))
      obtain ⟨W, c, rfl, hS⟩ := h3 0 l cs rfl rfl
      exact ⟨⟨(.slice W l.length c, l), W, c, rfl, hS⟩ :: d, by simp [h1, encA], by simp [h2]⟩
theorem flat_one {α β : Type} (f : α → β) (l : List α) : (l.map fun x => [f x]).flatten = l.map f := by
  induction l with
  | nil => rfl
  | cons x l ih => simp [ih]
theorem sort_c (v : Value) (e : Option (Nat × Obj)) (o : List (List BV)) (m : Mem) (L : Own) (w : World) (hs : St m (e :: L) w) (hrow : SRow m v o e) (ho : o.length ≤ 100000) :
    Calls Tryz.prog 11 #[v, .func (.func 12) #[] #[]] w fun x w' => x = .returned (.tuple #[]) ∧ ∃ o' e', o'.Perm o ∧ Sd o' ∧ SRow m v o' e' ∧ St m (e' :: L) w' := by
  obtain ⟨css, h1, h2, h3⟩ := hrow
  rcases h1 with ⟨rfl, hn, hx, rfl⟩ | ⟨g, cap, junk, rfl, hn, hc, hxl, hjl, rfl⟩
  · refine (AnyF.slices_SortFunc_none (P := Tryz.prog) (ρ := Tryz.sortL_ren) { Tryz.sortL with } none 0 (.func (.func 12) #[] #[]) w).mono ?_
    rintro x w' ⟨rfl, rfl⟩
    have ho0 : o = [] := List.eq_nil_of_length_eq_zero hn
    subst ho0
    exact ⟨rfl, [], none, List.Perm.refl _, List.Pairwise.nil, ⟨css, .inl ⟨rfl, rfl, hx, rfl⟩, h2, h3⟩, hs⟩
  · obtain ⟨d, hd1, hd2⟩ := rowA h2 h3
    have hdl : d.length = o.length := by rw [← hd2, List.length_map]
    have hxd : css.flatten.length = d.toArray.size := by rw [hxl, List.size_toArray]; omega
    have hg := hs.get List.mem_cons_self
    have hlt := heap_lt hg
    have hH : Holds encA w g 0 d.toArray := fun j hj => by
      rw [Nat.zero_add]
      constructor
      · rw [cell_of hg, List.getElem?_toArray, List.getElem?_append_left (by omega), ← hd1, List.getElem?_map]
        have : j < d.length := by simpa using hj
        rw [List.getElem?_eq_getElem this, getElem!_pos d.toArray j hj]; rfl
      · simp [World.frozen?, hg]
    have hcmp : CmpLays1 Tryz.prog 12 #[] encA cfA g 0 d.toArray.size w := fun n os dk hdk x y => by
      obtain ⟨⟨xv, xl⟩, W1, c1, hx1, hS1⟩ := x
      obtain ⟨⟨yv, yl⟩, W2, c2, hy1, hS2⟩ := y
      simp only [List.cons.injEq, and_true] at hx1 hy1
      subst hx1 hy1
      have hst := St.sortW (n := n) (os := os) hs (d := dk) (hxd.trans hdk.symm)
      refine (compare_c W1 W2 c1 c2 xl yl m hS1 hS2 _ hst.blk _ rfl).mono ?_
      rintro z w' ⟨rfl, rfl⟩
      exact ⟨rfl, 0, #[], (grow_empty _).symm⟩
    have eg : ∀ args w, (callFunc 12 args).run Tryz.prog w = .ok (.enter 12 args) w := enters_of Tryz.func12 (by kernel_rfl) rfl
    have hcon := Any.slices_SortFunc Tryz.sortL encA (fun x => by obtain ⟨⟨xv, xl⟩, W, c, hx, _⟩ := x; simp only [List.cons.injEq, and_true] at hx; subst hx; rfl) cfA swoA 12 #[] g 0 cap d.toArray w eg hcmp hH hlt (by rw [List.size_toArray]; omega)
    have hsz : d.toArray.size = o.length := by rw [List.size_toArray]; exact hdl
    rw [hsz] at hcon
    refine hcon.mono ?_
    rintro x w' ⟨rfl, d', n, os, ⟨hp1, _, hp2⟩, hso, rfl⟩
    have hd' : d'.size = o.length := hp1.trans hsz
    have hdl' : d'.toList.length = o.length := hd'
    have hpl : d'.toList.Perm d := by
      have e1 : d'.extract 0 o.length = d' := by rw [← hd']; exact Array.extract_size
      have e2 : d.toArray.extract 0 o.length = d.toArray := by rw [← hsz]; exact Array.extract_size
      rw [e1, e2] at hp2
      exact hp2
    refine ⟨rfl, d'.toList.map (fun x => x.1.2), some (g, .cells (d'.toList.map encA ++ junk).toArray 36 (0, 0)), ?_, ?_, ⟨d'.toList.map fun x => [encA x], ?_, by simp, ?_⟩, St.sortW hs (hxd.trans hp1.symm)⟩
    · rw [← hd2]; exact hpl.map _
    · unfold Sd
      rw [List.pairwise_map, List.pairwise_iff_getElem]
      intro i j hi hj hij
      have := hso i j (Nat.zero_le _) hij (by simpa [hd'] using hj)
      unfold ltOf cfA at this
      simp only [decide_eq_false_iff_not] at this
      rw [getElem!_pos d' i (by simpa using hi), getElem!_pos d' j (by simpa using hj)] at this
      have h4 := lexC_anti d'[i].1.2 d'[j].1.2
      simp only [Array.getElem_toList]
      omega
    · rw [flat_one, List.length_map, Array.length_toList (xs := d'), hd']
      exact .inr ⟨g, cap, junk, rfl, hn, hc, by rw [List.length_map, Array.length_toList (xs := d'), hd']; omega, by rw [List.length_append] at hjl ⊢; rw [List.length_map, Array.length_toList (xs := d'), hd']; omega, rfl⟩
    · intro k l cs hl hcs
      rw [List.getElem?_map] at hl hcs
      cases hk : d'.toList[k]? with
      | none => rw [hk] at hl; cases hl
      | some x =>
        rw [hk] at hl hcs
        simp only [Option.map_some, Option.some.injEq] at hl hcs
        subst hl hcs
        exact x.2
end Go.Proofs.YtgpgjpcebajofaaGreatDoor
set_option maxHeartbeats 4000000
set_option linter.unusedVariables false
set_option linter.unusedSimpArgs false
set_option maxRecDepth 100000
namespace Go.Proofs.YtgpgjpcebajofaaGreatDoor
open Go Go.XC Go.RowKit Go.SetsP
attribute [local irreducible] Post TC TR D WL EvS EvC Wd ResL Code.wpIn Exit.then Exit.inBlock Exit.noGoto LoopK LoopP bodyPostM Reads Calls

attribute [local irreducible] partsB ens waysP foundP waysO
theorem found_c (p : Pb) (pcs : Array Value) (hp : OkP p) (most : Int) (h1 : 1 ≤ most) (hmost : most ≤ 100) (m : Mem) (hpc : PbC m p pcs) (L : Own) (w : World) (hs : St m L w) :
    Calls Tryz.prog 8 #[.agg pcs, .int .i64 most] w fun x w' => ∃ y : { y : Mem × Option Addr × Nat // m.Le y.1 ∧ SolS y.1 y.2.1 (foundP p most) ∧ (foundP p most).length ≤ y.2.2 },
      x = .returned (.slice y.1.2.1 (foundP p most).length y.1.2.2) ∧ St y.1.1 L w' := by
  have hle := (waysO_spec hp h1).le
  have hle2 := (foundP_spec hp h1).le
  have hfp : ∀ o', o'.Perm (waysO p most) → Sd o' → o' = foundP p most := fun o' a b => by unfold foundP; exact sortL_of a b
  have hwo : (waysP (yF p most) p.bounds [] []).2 = waysO p most := by unfold waysO; rfl
  have hpc0 := hpc
  obtain ⟨BA, bc, RA, rc, rfl, hBA, hRA⟩ := hpc
  obtain ⟨b, hb⟩ : ∃ b, b = (waysP (yF p most) p.bounds [] []).1 := ⟨_, rfl⟩
  have hwy : ∀ (go gm gp Tp Tm : Nat) (w : World), St m (some (go, .cells #[.slice none 0 0] 30 (0, 0)) :: some (gm, .cells #[.int .i64 most] Tm (0, 0)) :: some (gp, .cells #[.slice BA p.bounds.length bc, .slice RA p.rules.length rc] Tp (0, 0)) :: L) w →
      Calls Tryz.prog 39 #[.slice BA p.bounds.length bc, .slice none 0 0, .func (.func 40) #[] #[.pointer (some ⟨gp, 0, none⟩), .pointer (some ⟨go, 0, none⟩), .pointer (some ⟨gm, 0, none⟩)]] w fun x w' =>
        ∃ y : { y : Mem × Value × Option (Nat × Obj) // m.Le y.1 ∧ SRow y.1 y.2.1 (waysO p most) y.2.2 }, x = .returned (.bool b) ∧ St y.1.1 (y.1.2.2 :: some (go, .cells #[y.1.2.1] 30 (0, 0)) :: some (gm, .cells #[.int .i64 most] Tm (0, 0)) :: some (gp, .cells #[.slice BA p.bounds.length bc, .slice RA p.rules.length rc] Tp (0, 0)) :: L) w' := fun go gm gp Tp Tm w hs => by
    have hOS : OS m go (some (gm, .cells #[.int .i64 most] Tm (0, 0)) :: some (gp, .cells #[.slice BA p.bounds.length bc, .slice RA p.rules.length rc] Tp (0, 0)) :: L) [] w :=
      ⟨m, .slice none 0 0, none, Mem.Le.refl _, ⟨[], OwnRow.nil, rfl, fun k l cs h => by simp at h⟩, hs.addNone⟩
    have := ways_c p _ hp most hmost go gp gm Tp Tm BA bc p.bounds [] [] none 0 m (some (gm, .cells #[.int .i64 most] Tm (0, 0)) :: some (gp, .cells #[.slice BA p.bounds.length bc, .slice RA p.rules.length rc] Tp (0, 0)) :: L) w rfl (Nat.zero_le _) hBA hpc0 Sl.nil (Nat.le_refl _) (fun _ => rfl) (by simp; omega) (List.mem_cons_of_mem _ List.mem_cons_self) List.mem_cons_self hOS
    refine this.mono fun x w' ⟨z1, z2⟩ => ?_
    rw [hwo] at z2
    obtain ⟨m', v, e, q1, q2, q3⟩ := z2
    exact ⟨⟨(m', v, e), q1, q2⟩, by rw [hb]; exact z1, q3⟩
  have hso : ∀ (m1 : Mem) (v1 : Value) (e1 : Option (Nat × Obj)) (L1 : Own) (w : World), SRow m1 v1 (waysO p most) e1 → St m1 (e1 :: L1) w →
      Calls Tryz.prog 11 #[v1, .func (.func 12) #[] #[]] w fun x w' => ∃ y : { e' : Option (Nat × Obj) // SRow m1 v1 (foundP p most) e' }, x = .returned (.tuple #[]) ∧ St m1 (y.1 :: L1) w' := fun m1 v1 e1 L1 w hr hs => by
    refine (sort_c v1 e1 _ m1 L1 w hs hr (by omega)).mono fun x w' ⟨z1, o', e', q1, q2, q3, q4⟩ => ?_
    rw [hfp o' q1 q2] at q3
    exact ⟨⟨e', q3⟩, z1, q4⟩
  refine calls_of_TC (args := [_, _]) Tryz.func8 rfl Tryz.ntmps8 (Nat.le_of_ble_eq_true rfl) hs ?_
  repeat' (first | (apply a_call; exact EvC.callX rfl rfl (fun w hs => hwy _ _ _ _ _ w hs); exact rfl; exact wd; rintro ⟨⟨m1, v1, e1⟩, hle1, hrow1⟩; simp only at hle1 hrow1 ⊢; have hr0 := hrow1; obtain ⟨css, hr1, _, _⟩ := hr0; obtain ⟨vA, vc, rfl, _⟩ := ownRow_slice hr1) | (apply a_call; exact EvC.callX rfl rfl (fun w hs => hso _ _ _ _ w hrow1 hs); exact rfl; exact wd; rintro ⟨e2, hrow2⟩; simp only at hrow2 ⊢) | refine TC.seq ?_ | refine TC.region ?_ | refine TR.nil ?_ | refine Post.then_normal ?_ | refine TC.ret ?_ | (apply a_assign; exact a_assigns) | (apply a_fieldAddr; exact a_fieldAddrs) | (apply a_load; exact a_loads) | (apply a_makeFunc; exact a_makeFuncs) | (apply c_boxA; exact c_boxAs; exact rfl; intro g) | (apply c_box1; exact c_box1s; exact rfl; intro g) | (apply c_alloc; exact c_allocs; exact rfl; intro g))
  refine Post.body_ret _ (ResL.one rfl (ResV.tmp rfl)) ?_
  intro w h
  obtain ⟨k1, k2⟩ := lend h
  obtain ⟨A, c, q1, q2, q3⟩ := hrow2.lentC k1 (by omega)
  exact ⟨⟨(memO m1 e2, A, c), hle1.trans k1, q2, q3⟩, by rw [q1], k2.tail.tail.tail⟩
end Go.Proofs.YtgpgjpcebajofaaGreatDoor
set_option maxHeartbeats 4000000
set_option linter.unusedVariables false
set_option linter.unusedSimpArgs false
set_option maxRecDepth 100000
namespace Go.Proofs.YtgpgjpcebajofaaGreatDoor
open Go Go.XC Go.RowKit Go.SetsP
attribute [local irreducible] Post TC TR D WL EvS EvC Wd ResL Code.wpIn Exit.then Exit.inBlock Exit.noGoto LoopK LoopP bodyPostM Reads Calls

/-! ### The law on what is found with many open elements -/
theorem bet_bits {x : Bd} {s : BV} : Bet x s ↔ ((x.lo &&& ~~~s) == 0#64) = true ∧ ((s &&& ~~~x.can) == 0#64) = true := by
  rw [beq_iff_eq, beq_iff_eq]
  constructor
  · intro h
    refine ⟨bv_ext fun k hk => ?_, bv_ext fun k hk => ?_⟩
    · have h1 := h k hk
      unfold has at *
      rw [BitVec.getLsbD_and, BitVec.getLsbD_not]
      cases ha : s.getLsbD k <;> cases hb : x.lo.getLsbD k <;> simp_all
    · have h1 := h k hk
      unfold has at *
      rw [BitVec.getLsbD_and, BitVec.getLsbD_not]
      cases ha : s.getLsbD k <;> cases hb : x.can.getLsbD k <;> simp_all
  · rintro ⟨h1, h2⟩ k hk
    have q1 : has (x.lo &&& ~~~s) k = false := by rw [h1]; simp [has]
    have q2 : has (s &&& ~~~x.can) k = false := by rw [h2]; simp [has]
    unfold has at *
    rw [BitVec.getLsbD_and, BitVec.getLsbD_not] at q1 q2
    cases ha : s.getLsbD k <;> cases hb : x.can.getLsbD k <;> cases hd : x.lo.getLsbD k <;> simp_all
theorem between_iff {b : List Bd} {l : List BV} : betweenB b l = true ↔ ∀ (k : Nat) (x : Bd), b[k]? = some x → Bet x (l.getD k 0#64) := by
  unfold betweenB
  rw [List.all_eq_true]
  constructor
  · intro h k x hx
    have := h (x, k) (List.mk_mem_zipIdx_iff_getElem?.2 hx)
    rw [Bool.and_eq_true] at this
    exact bet_bits.2 this
  · rintro h ⟨x, k⟩ hx
    rw [Bool.and_eq_true]
    exact bet_bits.1 (h k x (List.mk_mem_zipIdx_iff_getElem?.1 hx))
theorem sols_bt {p : Pb} (hp : OkP p) {x : List BV} : sols p x ↔ x.length = p.bounds.length ∧ betweenB p.bounds x = true ∧ p.rules.any (fun r => !heldB r x) = false := by
  rw [sols_iff hp, mem_allX hp.ok.bd (fun y hy => hp.cn y (List.mem_append_left _ hy)), between_iff, and_assoc]
  unfold okL
  rw [Bool.not_eq_true']
structure SolR (p : Pb) (most : Int) (s : List (List BV)) (n e : Int) : Prop where
  ce : e = 0 ∨ e = 8
  e8 : e = 8 → s = [] ∧ n = 0
  le : (s.length : Int) ≤ most
  n1 : e = 0 → 1 ≤ n ∧ n ≤ 200
  sound : ∀ x, x ∈ s → sols p x
  nodup : s.Nodup
  full : e = 0 → (s.length : Int) < most → ∀ x, sols p x → x ∈ s
  few : openN p.bounds ≤ 6 → e = 0
theorem solve_spec {p : Pb} (hck : checkB p = true) {most : Int} (h1 : 1 ≤ most) (h2 : most ≤ 100) : SolR p most (solveP p most).1 (solveP p most).2.1 (solveP p most).2.2 := by
  have hp := OkP.of hck
  have F := found_of hp h1
  have e : solveP p most = if (searchP p most).op then ([], 0, 8) else ((searchP p most).sols, ((searchP p most).nodes : Int), 0) := by
    unfold solveP
    rw [hck, if_pos (by simp; omega)]
  rw [e]
  cases ho : (searchP p most).op with
  | true =>
    refine ⟨.inr rfl, fun _ => ⟨rfl, rfl⟩, by simp; omega, fun h => (by cases h), fun x hx => (by cases hx), List.nodup_nil, fun h => (by cases h), fun h => ?_⟩
    have := F.few h
    rw [ho] at this
    cases this
  | false =>
    have hn := F.n1 ho
    have hn2 := F.n200
    exact ⟨.inl rfl, fun h => (by cases h), F.le ho, fun _ => ⟨by simp only [Bool.false_eq_true, if_false]; omega, by simp only [Bool.false_eq_true, if_false]; omega⟩, F.sound, F.nodup, fun _ => F.full ho, fun _ => rfl⟩
theorem sols_all {p : Pb} {x : List BV} : sols p x ↔ sols (selP p (List.range p.rules.length)) x := by
  unfold sols isSol AllH selP
  have : (List.range p.rules.length).map (fun k => p.rules.getD k default) = p.rules := by
    apply List.ext_getElem?
    intro k
    rw [List.getElem?_map]
    by_cases hk : k < p.rules.length
    · rw [List.getElem?_range hk, Option.map_some, List.getD_eq_getElem?_getD, List.getElem?_eq_getElem hk]; rfl
    · rw [List.getElem?_eq_none (by omega : p.rules.length ≤ k), List.getElem?_eq_none (by simp; omega)]; rfl
  rw [this]
/-- No solution, no core: what goes together. -/
theorem core_f0 {p : Pb} {most : Int} {s : List (List BV)} {n e f : Int} {c : List Nat} (R : SolR p most s n e) (C : CoreR p c f) (hf : f = 0) : s = [] := by
  cases hs : s with
  | nil => rfl
  | cons x t =>
    have := R.sound x (by rw [hs]; exact List.mem_cons_self)
    exact absurd ⟨x, sols_all.1 this⟩ (C.un0 hf)
theorem core_f5 {p : Pb} {most : Int} {s : List (List BV)} {n e f : Int} {c : List Nat} (h1 : 1 ≤ most) (R : SolR p most s n e) (C : CoreR p c f) (hf : f = 5) (he : e = 0) : s ≠ [] := by
  rintro rfl
  obtain ⟨x, hx⟩ := C.five hf
  have := R.full he (by simp; omega) x (sols_all.2 hx)
  cases this
theorem core_lt {p : Pb} {f : Int} {c : List Nat} (C : CoreR p c f) {i r : Nat} (hi : c[i]? = some r) : r < p.rules.length ∧ ∀ r', 0 < i → c[i - 1]? = some r' → r' < r := by
  have hsub : c.Sublist (List.range p.rules.length) := by
    by_cases hf : f = 0
    · exact C.sub hf
    · rw [C.e hf]; exact List.nil_sublist _
  have hpw : c.Pairwise (· < ·) := (List.pairwise_lt_range).sublist hsub
  refine ⟨List.mem_range.1 (hsub.mem (List.mem_of_getElem? hi)), fun r' h0 hr' => ?_⟩
  obtain ⟨q1, q2⟩ := List.getElem?_eq_some_iff.1 hi
  obtain ⟨q3, q4⟩ := List.getElem?_eq_some_iff.1 hr'
  have := (List.pairwise_iff_getElem.1 hpw) (i - 1) i q3 q1 (by omega)
  rw [q2, q4] at this
  exact this
theorem core_len {p : Pb} {f : Int} {c : List Nat} (hp : OkP p) (C : CoreR p c f) : c.length ≤ p.rules.length ∧ c.length ≤ 12 := by
  have h12 := hp.ok.r12
  have hsub : c.Sublist (List.range p.rules.length) := by
    by_cases hf : f = 0
    · exact C.sub hf
    · rw [C.e hf]; exact List.nil_sublist _
  have := hsub.length_le
  rw [List.length_range] at this
  omega
theorem core_no {p : Pb} {f : Int} {c : List Nat} (hp : OkP p) (C : CoreR p c f) (hf : f = 0) {l : List BV} (hl : l.length = p.bounds.length) (hb : betweenB p.bounds l = true) : (selP p c).rules.any (fun r => !heldB r l) = true := by
  have hps : OkP (selP p c) := hp.sel (fun k hk => by
    obtain ⟨i, hi⟩ := List.getElem?_of_mem hk
    exact (core_lt C hi).1) (core_len hp C).2
  cases hq : (selP p c).rules.any (fun r => !heldB r l) with
  | true => rfl
  | false => exact absurd ⟨l, (sols_bt hps).2 ⟨hl, hb, hq⟩⟩ (C.un hf)
end Go.Proofs.YtgpgjpcebajofaaGreatDoor
set_option maxHeartbeats 4000000
set_option linter.unusedVariables false
set_option linter.unusedSimpArgs false
set_option maxRecDepth 100000
namespace Go.Proofs.YtgpgjpcebajofaaGreatDoor
open Go Go.XC Go.RowKit Go.SetsP
attribute [local irreducible] Post TC TR D WL EvS EvC Wd ResL Code.wpIn Exit.then Exit.inBlock Exit.noGoto LoopK LoopP bodyPostM Reads Calls

attribute [local irreducible] partsB ens waysP foundP waysO
theorem EvS.conv8 {P : Program} {N : Nat} {E : Env} {Sb : World → Prop} {d : Option Tmp} {ty s t : TypeId} {pos : String} {aft : Array Edge} {gd : Option (Nat × Bool)} {x : Operand} {a : Nat} [hs : IntT P s .u8] [hd : IntT P t .u64] (hx : evE E x = some (.int .u8 (a : Int))) (h : a < 256) : EvS P N ⟨d, .convert s t x, ty, pos, aft, gd⟩ E Sb (.int .u64 ((BitVec.ofNat 64 a).toNat : Int)) := by
  have e : IntKind.u64.wrap (a : Int) = ((BitVec.ofNat 64 a).toNat : Int) := by
    rw [BitVec.toNat_ofNat, Nat.mod_eq_of_lt (by omega)]
    simp [IntKind.wrap, IntKind.bits, IntKind.signed]; omega
  rw [← e]; exact EvS.convI hx
theorem EvS.fieldR {N : Nat} {E : Env} {Sb : World → Prop} {d : Option Tmp} {ty : TypeId} {pos : String} {aft : Array Edge} {gd : Option (Nat × Bool)} {x : Operand} {A B : Value} (hx : evE E x = some (.agg #[A, B])) : EvS Tryz.prog N ⟨d, .field 25 x 1, ty, pos, aft, gd⟩ E Sb B := by
  unfold EvS
  intro a w ha _
  simp [execOp, ha.eval hx, Instr.field, part, asAgg, Sem.run_bind, run_underlying Tryz.underlying25, Tryz.isAgg23]
end Go.Proofs.YtgpgjpcebajofaaGreatDoor
