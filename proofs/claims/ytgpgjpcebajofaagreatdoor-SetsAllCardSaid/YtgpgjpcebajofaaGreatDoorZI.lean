import Derived.Test.YtgpgjpcebajofaaGreatDoorZG
set_option linter.unusedVariables false
set_option linter.unusedSimpArgs false
set_option linter.all false
set_option maxHeartbeats 4000000
set_option linter.unusedVariables false
set_option linter.unusedSimpArgs false
set_option maxRecDepth 100000
namespace Go.Proofs.YtgpgjpcebajofaaGreatDoor
open Go Go.XC Go.RowKit Go.SetsP
attribute [local irreducible] Post TC TR D WL EvS EvC Wd ResL Code.wpIn Exit.then Exit.inBlock Exit.noGoto LoopK LoopP bodyPostM Reads Calls

/-! ### When a rule holds for sets; what the propagation says of them -/
def getL (l : List BV) (v : Int) : BV := l.getD v.toNat 0#64
def heldB (r : Rl) (l : List BV) : Bool :=
  if r.kind = 6 then decide (r.low ≤ (pop (getL l (r.vars.getD 0 0)) : Int)) && decide ((pop (getL l (r.vars.getD 0 0)) : Int) ≤ r.high)
  else (List.range 12).all fun e => asksB r.kind (has (getL l (r.vars.getD 0 0)) e) (has (getL l (r.vars.getD 1 0)) e) (has (getL l (r.vars.getD 2 0)) e)
def Bet (x : Bd) (s : BV) : Prop := ∀ e, e < 64 → (has x.lo e = true → has s e = true) ∧ (has s e = true → has x.can e = true)
def inB (b : List Bd) (l : List BV) : Prop := ∀ v : Int, 0 ≤ v ∧ v < 8 → Bet (nth b v) (getL l v)
theorem clash_of {x : Bd} (h : ∀ k, k < 64 → has x.lo k = true → has x.can k = true) : clashB x = false := by
  have : x.lo &&& ~~~x.can = 0#64 := by
    apply BitVec.eq_of_getLsbD_eq
    intro i hi
    rw [BitVec.getLsbD_and, BitVec.getLsbD_not, BitVec.getLsbD_zero]
    have := h i hi
    unfold has at this
    cases h1 : x.lo.getLsbD i with
    | false => rfl
    | true => simp [this h1, hi]
  simp [clashB, this]
theorem Bet.clash {x : Bd} {s : BV} (h : Bet x s) : clashB x = false := clash_of fun k hk hl => (h k hk).2 ((h k hk).1 hl)
theorem pop_mono {a c : BV} (h : ∀ k, k < 64 → has a k = true → has c k = true) : pop a ≤ pop c := by
  unfold pop
  exact List.countP_mono_left fun k hk => h k (by have := List.mem_range.1 hk; omega)
theorem bv_ext {a c : BV} (h : ∀ k, k < 64 → has a k = has c k) : a = c := BitVec.eq_of_getLsbD_eq fun i hi => h i hi
def mkM : List Bool → Nat
  | [] => 0
  | x :: l => x.toNat + 2 * mkM l
theorem mkM_lt : ∀ l : List Bool, mkM l < 2 ^ l.length
  | [] => by simp [mkM]
  | x :: l => by
    have := mkM_lt l
    have hx : x.toNat ≤ 1 := Bool.toNat_le x
    simp only [mkM, List.length_cons, Nat.pow_succ]; omega
theorem mkM_bit : ∀ (l : List Bool) (i : Nat), (mkM l).testBit i = l.getD i false
  | [], i => by simp [mkM]
  | x :: l, 0 => by
    simp only [mkM, Nat.testBit_zero, List.getD_cons_zero]
    cases x <;> simp <;> omega
  | x :: l, i + 1 => by
    have h : (x.toNat + 2 * mkM l) / 2 = mkM l := by
      have hx : x.toNat ≤ 1 := Bool.toNat_le x
      omega
    simp only [mkM, Nat.testBit_succ, h, List.getD_cons_succ]
    exact mkM_bit l i
theorem asksB_c {k : Int} (h : k = 1 ∨ k = 2) (a b c c' : Bool) : asksB k a b c = asksB k a b c' := by
  rcases h with rfl | rfl <;> rfl
theorem len_two {α : Type} {l : List α} (h : l.length = 2) : ∃ a b, l = [a, b] := by
  match l, h with
  | [a, b], _ => exact ⟨a, b, rfl⟩
theorem len_three {α : Type} {l : List α} (h : l.length = 3) : ∃ a b c, l = [a, b, c] := by
  match l, h with
  | [a, b, c], _ => exact ⟨a, b, c, rfl⟩
theorem okR_cases {r : Rl} (h : okR r) : (r.kind = 6 ∧ ∃ v, r.vars = [v]) ∨ ((r.kind = 1 ∨ r.kind = 2) ∧ ∃ v u, r.vars = [v, u]) ∨ ((r.kind = 3 ∨ r.kind = 4 ∨ r.kind = 5) ∧ ∃ v u t, r.vars = [v, u, t]) := by
  obtain ⟨_, h1, h2, h3⟩ := h
  have hk : r.kind = 1 ∨ r.kind = 2 ∨ r.kind = 3 ∨ r.kind = 4 ∨ r.kind = 5 ∨ r.kind = 6 := by omega
  rcases hk with e | e | e | e | e | e <;> rw [e] at h3 <;> simp [varsZ] at h3
  · exact .inr (.inl ⟨.inl e, len_two (by omega)⟩)
  · exact .inr (.inl ⟨.inr e, len_two (by omega)⟩)
  · exact .inr (.inr ⟨.inl e, len_three (by omega)⟩)
  · exact .inr (.inr ⟨.inr (.inl e), len_three (by omega)⟩)
  · exact .inr (.inr ⟨.inr (.inr e), len_three (by omega)⟩)
  · exact .inl ⟨e, List.length_eq_one_iff.1 (by omega)⟩
theorem elem_of {l : List Bd} {k : Int} {e : Nat} (ss : List BV) (he : e < 12) (hlen : ss.length = l.length) (hb : ∀ (i : Nat) (x : Bd) (s : BV), l[i]? = some x → ss[i]? = some s → Bet x s)
    (ha : asksB k (has (ss.getD 0 0#64) e) (has (ss.getD 1 0#64) e) (has (ss.getD 2 0#64) e) = true) : elemB l k e = true := by
  unfold elemB
  rw [List.any_eq_true]
  have hg : ∀ i, (ss.map fun s => has s e).getD i false = has (ss.getD i 0#64) e := fun i => by
    rw [List.getD_eq_getElem?_getD, List.getD_eq_getElem?_getD, List.getElem?_map]
    cases ss[i]? with
    | none => simp [has]
    | some s => rfl
  refine ⟨mkM (ss.map fun s => has s e), List.mem_range.2 (by have := mkM_lt (ss.map fun s => has s e); simpa [hlen] using this), ?_⟩
  unfold wayB
  rw [Bool.and_eq_true]
  refine ⟨(zipIdx_all _ _ _).2 fun i x hx => ?_, by rw [mkM_bit, mkM_bit, mkM_bit, hg, hg, hg]; exact ha⟩
  have hi : i < ss.length := by rw [hlen]; exact (List.getElem?_eq_some_iff.1 hx).1
  have hbt := hb i x ss[i] hx (List.getElem?_eq_getElem hi)
  unfold okAt
  rw [mkM_bit, hg, List.getD_eq_getElem?_getD, List.getElem?_eq_getElem hi, Option.getD_some]
  have h1 := hbt e (by omega)
  cases hh : has ss[i] e with
  | true => rw [if_pos rfl]; exact h1.2 hh
  | false =>
    rw [if_neg (by simp)]
    cases hl : has x.lo e with
    | false => rfl
    | true => rw [h1.1 hl] at hh; cases hh
theorem elem_fix {l : List Bd} {k : Int} {e : Nat} (ss : List BV) (hlen : ss.length = l.length) (hb : ∀ (i : Nat) (x : Bd) (s : BV), l[i]? = some x → ss[i]? = some s → x.lo = s ∧ x.can = s)
    (ha : elemB l k e = true) : ∃ m : Nat, (∀ i, i < ss.length → m.testBit i = has (ss.getD i 0#64) e) ∧ asksB k (m.testBit 0) (m.testBit 1) (m.testBit 2) = true := by
  unfold elemB at ha
  rw [List.any_eq_true] at ha
  obtain ⟨m, _, hm⟩ := ha
  unfold wayB at hm
  rw [Bool.and_eq_true] at hm
  refine ⟨m, fun i hi => ?_, hm.2⟩
  have hx : l[i]? = some (l[i]'(by omega)) := List.getElem?_eq_getElem _
  have h1 := (zipIdx_all _ _ _).1 hm.1 i _ hx
  obtain ⟨h2, h3⟩ := hb i _ ss[i] hx (List.getElem?_eq_getElem hi)
  rw [List.getD_eq_getElem?_getD, List.getElem?_eq_getElem hi, Option.getD_some]
  unfold okAt at h1
  rw [h2, h3] at h1
  cases hb' : m.testBit i with
  | true => rw [hb', if_pos rfl] at h1; exact h1.symm
  | false => rw [hb', if_neg (by simp)] at h1; simpa using h1
theorem any_clash {b : List Bd} {r : Rl} (h : ∀ v, v ∈ r.vars → clashB (nth b v) = false) : (ofB b r).any clashB = false := by
  rw [List.any_eq_false]
  intro x hx
  obtain ⟨v, hv, rfl⟩ := List.mem_map.1 hx
  simp [h v hv]
/-- Sets between bounds for which a rule holds: it is possible. -/
theorem poss_of {b : List Bd} {r : Rl} {l : List BV} (hr : okR r) (hl : inB b l) (hh : heldB r l = true) : possB b r = true := by
  unfold possB
  rw [any_clash fun v hv => (hl v (hr.1 v hv)).clash]
  simp only [Bool.false_eq_true, if_false]
  have hv := hr.1
  unfold heldB at hh
  rcases okR_cases hr with ⟨hk, v, e⟩ | ⟨hk, v, u, e⟩ | ⟨hk, v, u, t, e⟩
  · rw [if_pos hk] at hh
    rw [e] at hh hv
    have hb := hl v (hv v (by simp))
    rw [if_pos hk, show ofB b r = [nth b v] by rw [ofB, e]; rfl]
    simp only [List.getD_cons_zero, Bool.and_eq_true, decide_eq_true_eq, List.headD_cons] at hh ⊢
    have h1 := pop_mono (fun k hk => (hb k hk).1)
    have h2 := pop_mono (fun k hk => (hb k hk).2)
    exact ⟨decide_eq_true (by omega), decide_eq_true (by omega)⟩
  · have hk' : ¬ r.kind = 6 := by omega
    rw [if_neg hk'] at hh
    rw [if_neg hk']
    rw [e] at hh hv
    rw [List.all_eq_true] at hh ⊢
    intro x hx
    have hx' := List.mem_range.1 hx
    rw [show ofB b r = [nth b v, nth b u] by rw [ofB, e]; rfl]
    refine elem_of [getL l v, getL l u] hx' rfl ?_ ?_
    · intro i y s hy hs
      match i, hy, hs with
      | 0, hy, hs => simp at hy hs; subst hy hs; exact hl v (hv v (by simp))
      | 1, hy, hs => simp at hy hs; subst hy hs; exact hl u (hv u (by simp))
      | n + 2, hy, hs => simp at hy
    · rw [asksB_c hk _ _ _ (has (getL l ([v, u].getD 2 0)) x)]
      exact hh x hx
  · have hk' : ¬ r.kind = 6 := by omega
    rw [if_neg hk'] at hh
    rw [if_neg hk']
    rw [e] at hh hv
    rw [List.all_eq_true] at hh ⊢
    intro x hx
    have hx' := List.mem_range.1 hx
    rw [show ofB b r = [nth b v, nth b u, nth b t] by rw [ofB, e]; rfl]
    refine elem_of [getL l v, getL l u, getL l t] hx' rfl ?_ (hh x hx)
    intro i y s hy hs
    match i, hy, hs with
    | 0, hy, hs => simp at hy hs; subst hy hs; exact hl v (hv v (by simp))
    | 1, hy, hs => simp at hy hs; subst hy hs; exact hl u (hv u (by simp))
    | 2, hy, hs => simp at hy hs; subst hy hs; exact hl t (hv t (by simp))
    | n + 3, hy, hs => simp at hy
/-- Bounds that leave one set for each variable of a rule that is possible: it holds for these. -/
theorem held_of {b : List Bd} {r : Rl} {l : List BV} (hr : okR r) (hl : ∀ v, v ∈ r.vars → (nth b v).lo = getL l v ∧ (nth b v).can = getL l v) (hp : possB b r = true) : heldB r l = true := by
  unfold possB at hp
  rw [any_clash fun v hv => clash_of fun k _ h => by rw [(hl v hv).1] at h; rw [(hl v hv).2]; exact h] at hp
  simp only [Bool.false_eq_true, if_false] at hp
  unfold heldB
  rcases okR_cases hr with ⟨hk, v, e⟩ | ⟨hk, v, u, e⟩ | ⟨hk, v, u, t, e⟩
  · rw [if_pos hk, show ofB b r = [nth b v] by rw [ofB, e]; rfl] at hp
    rw [if_pos hk, e]
    rw [e] at hl
    have h1 := hl v (by simp)
    simp only [List.headD_cons, h1.1, h1.2, Bool.and_eq_true, decide_eq_true_eq, List.getD_cons_zero] at hp ⊢
    omega
  · have hk' : ¬ r.kind = 6 := by omega
    rw [if_neg hk', show ofB b r = [nth b v, nth b u] by rw [ofB, e]; rfl] at hp
    rw [if_neg hk', e]
    rw [e] at hl
    rw [List.all_eq_true] at hp ⊢
    intro x hx
    obtain ⟨m, hm, ha⟩ := elem_fix [getL l v, getL l u] rfl (fun i y s hy hs => by
      match i, hy, hs with
      | 0, hy, hs => simp at hy hs; subst hy hs; exact hl v (by simp)
      | 1, hy, hs => simp at hy hs; subst hy hs; exact hl u (by simp)
      | n + 2, hy, hs => simp at hy) (hp x hx)
    rw [hm 0 (by simp), hm 1 (by simp), asksB_c hk _ _ _ (has (getL l ([v, u].getD 2 0)) x)] at ha
    exact ha
  · have hk' : ¬ r.kind = 6 := by omega
    rw [if_neg hk', show ofB b r = [nth b v, nth b u, nth b t] by rw [ofB, e]; rfl] at hp
    rw [if_neg hk', e]
    rw [e] at hl
    rw [List.all_eq_true] at hp ⊢
    intro x hx
    obtain ⟨m, hm, ha⟩ := elem_fix [getL l v, getL l u, getL l t] rfl (fun i y s hy hs => by
      match i, hy, hs with
      | 0, hy, hs => simp at hy hs; subst hy hs; exact hl v (by simp)
      | 1, hy, hs => simp at hy hs; subst hy hs; exact hl u (by simp)
      | 2, hy, hs => simp at hy hs; subst hy hs; exact hl t (by simp)
      | n + 3, hy, hs => simp at hy) (hp x hx)
    rw [hm 0 (by simp), hm 1 (by simp), hm 2 (by simp)] at ha
    exact ha
end Go.Proofs.YtgpgjpcebajofaaGreatDoor
set_option maxHeartbeats 4000000
set_option linter.unusedVariables false
set_option linter.unusedSimpArgs false
set_option maxRecDepth 100000
namespace Go.Proofs.YtgpgjpcebajofaaGreatDoor
open Go Go.XC Go.RowKit Go.SetsP
attribute [local irreducible] Post TC TR D WL EvS EvC Wd ResL Code.wpIn Exit.then Exit.inBlock Exit.noGoto LoopK LoopP bodyPostM Reads Calls

/-! ### The propagation keeps all solutions, and makes bounds narrower -/
def AllH (p : Pb) (l : List BV) : Prop := ∀ r, r ∈ p.rules → heldB r l = true
theorem nth_with_ne {b : List Bd} (hb : b.length = 8) {v u : Int} (hv : 0 ≤ v ∧ v < 8) (hu : 0 ≤ u ∧ u < 8) (hne : u ≠ v) (e : Nat) (i : Bool) : nth (withB b v e i) u = nth b u := by
  unfold withB
  conv => lhs; unfold nth
  conv => rhs; unfold nth
  rw [List.getD_eq_getElem?_getD, List.getElem?_set_ne (by omega), ← List.getD_eq_getElem?_getD]
theorem bet_set {x : Bd} {s : BV} {e : Nat} (he : e < 64) (i : Bool) : Bet (setB x e i) s ↔ Bet x s ∧ has s e = i := by
  constructor
  · intro h
    refine ⟨fun k hk => ?_, ?_⟩
    · have := h k hk
      cases i with
      | true =>
        rw [has_setB_lo x e k he hk] at this
        exact ⟨fun h1 => this.1 (by rw [h1]; rfl), this.2⟩
      | false =>
        rw [has_setB_can x e k he hk] at this
        exact ⟨this.1, fun h1 => by have := this.2 h1; rw [Bool.and_eq_true] at this; exact this.1⟩
    · have := h e he
      cases i with
      | true => exact this.1 (by rw [has_setB_lo x e e he he]; simp)
      | false =>
        cases hh : has s e with
        | false => rfl
        | true => have := this.2 hh; rw [has_setB_can x e e he he] at this; simp at this
  · rintro ⟨h, hi⟩ k hk
    have h1 := h k hk
    cases i with
    | true =>
      rw [has_setB_lo x e k he hk]
      refine ⟨fun h2 => ?_, h1.2⟩
      rw [Bool.or_eq_true] at h2
      rcases h2 with h2 | h2
      · exact h1.1 h2
      · have : k = e := by simpa using h2
        rw [this]; exact hi
    | false =>
      rw [has_setB_can x e k he hk]
      refine ⟨h1.1, fun h2 => ?_⟩
      rw [h1.2 h2]
      have : k ≠ e := by rintro rfl; rw [hi] at h2; cases h2
      simp [this]
theorem in_with {b : List Bd} (hb : b.length = 8) {v : Int} (hv : 0 ≤ v ∧ v < 8) {e : Nat} (he : e < 64) (i : Bool) (l : List BV) : inB (withB b v e i) l ↔ inB b l ∧ has (getL l v) e = i := by
  constructor
  · intro h
    have h1 := h v hv
    rw [nth_with hb hv, bet_set he] at h1
    refine ⟨fun u hu => ?_, h1.2⟩
    by_cases hne : u = v
    · subst hne; exact h1.1
    · have := h u hu
      rwa [nth_with_ne hb hv hu hne] at this
  · rintro ⟨h, hi⟩ u hu
    by_cases hne : u = v
    · subst hne; rw [nth_with hb hv, bet_set he]; exact ⟨h u hu, hi⟩
    · rw [nth_with_ne hb hv hu hne]; exact h u hu
theorem fol_in {b : List Bd} {r : Rl} {l : List BV} (hb : b.length = 8) (hr : okR r) {v : Int} (hv : 0 ≤ v ∧ v < 8) {e : Nat} (he : e < 64) {i : Bool} (hin : inB b l) (hh : heldB r l = true) (hf : folB b r v e i = true) : has (getL l v) e = i := by
  cases hq : has (getL l v) e with
  | _ =>
    cases i with
    | _ =>
      first
      | rfl
      | (exfalso
         have := poss_of (b := withB b v e _) hr ((in_with hb hv he _ l).2 ⟨hin, hq⟩) hh
         unfold folB at hf
         simp only [Bool.not_true, Bool.not_false] at hf
         rw [this] at hf
         simp at hf)
/-- What holds for each step of a rule holds for the rule. -/
theorem rule_rel {p : Pb} {re : Bool} {n : Nat} (hp : okP p) (Q : List Bd → List Bd → Prop) (h0 : ∀ b, Q b b) (ht : ∀ a b c, Q a b → Q b c → Q a c)
    (hst : ∀ (s : Ps) (v : Int) (e : Nat), Iv s → v ∈ (p.rules.getD n default).vars → e < 12 → has (openB (nth s.b v)) e = true → Q s.b (stepE p re n v s e).b) (s : Ps) (hs : Iv s) : Q s.b (ruleS p re n s).b := by
  have hf : ∀ (v : Int), v ∈ (p.rules.getD n default).vars → ∀ (l : List Nat) (s : Ps), Iv s → l.Nodup → (∀ e, e ∈ l → e < 12 ∧ has (openB (nth s.b v)) e = true) → Q s.b (l.foldl (stepE p re n v) s).b := by
    intro v hv
    have hv8 := rule_vars hp n v hv
    intro l
    induction l with
    | nil => intro s _ _ _; exact h0 _
    | cons a l ih =>
      intro s h hn hl
      have hn' := List.nodup_cons.1 hn
      have ha := hl a List.mem_cons_self
      refine ht _ _ _ (hst s v a h hv ha.1 ha.2) (ih _ (h.stepE hv8 ha.1 ha.2) hn'.2 fun e he => ?_)
      have := hl e (List.mem_cons_of_mem _ he)
      refine ⟨this.1, ?_⟩
      rw [stepE_nth h.b.1 hv8 (by omega) (by omega) (fun (hx : e = a) => hn'.1 (hx ▸ he))]
      exact this.2
  have hg : ∀ (l : List Int) (s : Ps), Iv s → (∀ v, v ∈ l → v ∈ (p.rules.getD n default).vars) → Q s.b (l.foldl (stepV p re n) s).b := by
    intro l
    induction l with
    | nil => intro s _ _; exact h0 _
    | cons a l ih =>
      intro s h hl
      have ha := hl a List.mem_cons_self
      have ha8 := rule_vars hp n a ha
      exact ht _ _ _ (hf a ha _ s h (elems_nodup _) fun e he => elems_lt (small_openB (nth_ok h.b ha8).2) he) (ih _ (h.stepV ha8) fun v hv => hl v (List.mem_cons_of_mem _ hv))
  exact hg _ s hs fun v h => h
theorem rule_nar {p : Pb} {re : Bool} {n : Nat} (hp : okP p) {s : Ps} (hs : Iv s) (l : List BV) : inB (ruleS p re n s).b l → inB s.b l :=
  rule_rel (p := p) (re := re) (n := n) hp (fun b b' => inB b' l → inB b l) (fun _ h => h) (fun a b c h k q => h (k q)) (fun s v e h hv he ho hin => by
    unfold stepE at hin
    split at hin
    · exact hin
    · exact ((in_with h.b.1 (rule_vars hp n v hv) (by omega) _ l).1 hin).1) s hs
theorem okR_get {p : Pb} (hp : okP p) {n : Nat} (hn : n < p.rules.length) : okR (p.rules.getD n default) ∧ p.rules.getD n default ∈ p.rules := by
  rw [List.getD_eq_getElem?_getD, List.getElem?_eq_getElem hn]
  exact ⟨hp.rl _ (List.getElem_mem _), List.getElem_mem _⟩
theorem rule_keep {p : Pb} {re : Bool} {n : Nat} (hp : okP p) (hn : n < p.rules.length) {l : List BV} (hh : AllH p l) {s : Ps} (hs : Iv s) : inB s.b l → inB (ruleS p re n s).b l :=
  rule_rel (p := p) (re := re) (n := n) hp (fun b b' => inB b l → inB b' l) (fun _ h => h) (fun a b c h k q => k (h q)) (fun s v e h hv he ho hin => by
    obtain ⟨hr, hm⟩ := okR_get hp hn
    have hv8 := rule_vars hp n v hv
    unfold stepE
    split
    · exact hin
    · rename_i i hd
      refine (in_with h.b.1 hv8 (by omega) _ l).2 ⟨hin, ?_⟩
      unfold dirB at hd
      split at hd
      · rename_i hf
        cases hd
        exact fol_in h.b.1 hr hv8 (by omega) hin (hh _ hm) hf
      · split at hd
        · rename_i hf
          cases hd
          exact fol_in h.b.1 hr hv8 (by omega) hin (hh _ hm) hf
        · cases hd) s hs
theorem round_nar {p : Pb} {re : Bool} (hp : okP p) (l : List BV) : ∀ (ns : List Nat) (s : Ps), Iv s → inB (roundP p re ns s).1.b l → inB s.b l := by
  intro ns
  induction ns with
  | nil => intro s _ h; exact h
  | cons n ns ih =>
    intro s hs h
    unfold roundP at h
    split at h
    · exact rule_nar hp hs l (ih _ (hs.rule hp n) h)
    · exact h
theorem round_keep {p : Pb} {re : Bool} (hp : okP p) {l : List BV} (hh : AllH p l) : ∀ (ns : List Nat) (s : Ps), (∀ n, n ∈ ns → n < p.rules.length) → Iv s → inB s.b l → (roundP p re ns s).2 = none ∧ inB (roundP p re ns s).1.b l := by
  intro ns
  induction ns with
  | nil => intro s _ _ h; exact ⟨rfl, h⟩
  | cons n ns ih =>
    intro s hn hs h
    have hn1 := hn n List.mem_cons_self
    obtain ⟨hr, hm⟩ := okR_get hp hn1
    unfold roundP
    rw [if_pos (poss_of hr h (hh _ hm))]
    exact ih _ (fun k hk => hn k (List.mem_cons_of_mem _ hk)) (hs.rule hp n) (rule_keep hp hn1 hh hs h)
theorem less_irrefl {a b : List Bd} (h1 : Less a b) (h2 : Less b a) : b = a := by
  rcases h1 with h1 | h1
  · exact h1
  · rcases h2 with h2 | h2
    · exact h2.symm
    · omega
/-- A round that leaves the bounds: each rule is possible. -/
theorem round_fix {p : Pb} {re : Bool} (hp : okP p) : ∀ (ns : List Nat) (s : Ps), Iv s → (roundP p re ns s).2 = none → (roundP p re ns s).1.b = s.b → ∀ n, n ∈ ns → possB s.b (p.rules.getD n default) = true := by
  intro ns
  induction ns with
  | nil => intro s _ _ _ n h; cases h
  | cons n ns ih =>
    intro s hs h1 h2 k hk
    unfold roundP at h1 h2
    split at h1
    · rename_i hp1
      rw [if_pos hp1] at h2
      have hl1 := rule_less hp (re := re) hs n
      have hl2 := (round_ok hp (re := re) ns _ (hs.rule (re := re) hp n)).2
      rw [h2] at hl2
      have he := less_irrefl hl1 hl2
      rcases List.mem_cons.1 hk with rfl | hk
      · exact hp1
      · have := ih _ (hs.rule hp n) h1 (h2.trans he.symm) k hk
        rwa [he] at this
    · cases h1
theorem run_spec {p : Pb} {re : Bool} (hp : okP p) : ∀ (k : Nat) (s : Ps), openN s.b = k → Iv s → Iv (runF p re s).1 ∧ Less s.b (runF p re s).1.b ∧ (∀ l, inB (runF p re s).1.b l → inB s.b l) ∧
    ((runF p re s).2 < 0 → ∀ r, r ∈ p.rules → possB (runF p re s).1.b r = true) ∧ (∀ l, AllH p l → inB s.b l → (runF p re s).2 < 0 ∧ inB (runF p re s).1.b l) := by
  intro k
  induction k using Nat.strongRecOn with
  | _ k ih =>
    intro s hk hs
    have hok := round_ok hp (re := re) (List.range p.rules.length) s hs
    have hnar := fun l => round_nar (re := re) hp l (List.range p.rules.length) s hs
    have hkeep := fun l hh => round_keep (re := re) hp (l := l) hh (List.range p.rules.length) s (fun n h => List.mem_range.1 h) hs
    have hfix := round_fix (re := re) hp (List.range p.rules.length) s hs
    cases hq : roundP p re (List.range p.rules.length) s with
    | mk s' o =>
      rw [hq] at hok hnar hkeep hfix
      cases o with
      | some n =>
        rw [runF_bad hq]
        refine ⟨hok.1, hok.2, hnar, fun h => absurd h (by simp only; omega), fun l hh hin => ?_⟩
        have := (hkeep l hh hin).1
        cases this
      | none =>
        by_cases he : s'.b = s.b
        · rw [runF_same hq he]
          refine ⟨hok.1, hok.2, hnar, fun _ r hr => ?_, fun l hh hin => ⟨by simp, (hkeep l hh hin).2⟩⟩
          obtain ⟨n, hn, rfl⟩ := List.mem_iff_getElem.1 hr
          have := hfix rfl he n (List.mem_range.2 hn)
          rw [List.getD_eq_getElem?_getD, List.getElem?_eq_getElem hn] at this
          simp only
          rw [he]; exact this
        · obtain ⟨h1, h2, h3⟩ := runF_step hp hs hq he
          rw [h3]
          obtain ⟨g1, g2, g3, g4, g5⟩ := ih _ (by omega) s' rfl h1
          exact ⟨g1, hok.2.trans g2, fun l h => hnar l (g3 l h), g4, fun l hh hin => g5 l hh (hkeep l hh hin).2⟩
end Go.Proofs.YtgpgjpcebajofaaGreatDoor
set_option maxHeartbeats 4000000
set_option linter.unusedVariables false
set_option linter.unusedSimpArgs false
set_option maxRecDepth 100000
namespace Go.Proofs.YtgpgjpcebajofaaGreatDoor
open Go Go.XC Go.RowKit Go.SetsP
attribute [local irreducible] Post TC TR D WL EvS EvC Wd ResL Code.wpIn Exit.then Exit.inBlock Exit.noGoto LoopK LoopP bodyPostM Reads Calls

/-! ### What the search finds -/
/-- A solution's sets, one for each of the eight places. -/
def padL (l : List BV) : List BV := l ++ List.replicate (8 - l.length) 0#64
def isSol (p : Pb) (b : List Bd) (l : List BV) : Prop := l.length = p.bounds.length ∧ inB b (padL l) ∧ AllH p (padL l)
/-- The places behind the variables. -/
def Tail0 (n : Nat) (b : List Bd) : Prop := ∀ v : Int, (n : Int) ≤ v ∧ v < 8 → nth b v = ⟨0, 0⟩
theorem nth_take {b : List Bd} {n : Nat} {v : Int} (hv : 0 ≤ v ∧ v < n) : (b.take n).getD v.toNat ⟨0, 0⟩ = nth b v := by
  unfold nth
  rw [List.getD_eq_getElem?_getD, List.getD_eq_getElem?_getD, List.getElem?_take, if_pos (by omega)]
theorem getL_pad {l : List BV} {v : Int} (hv : 0 ≤ v) : getL (padL l) v = l.getD v.toNat 0#64 := by
  unfold getL padL
  rw [List.getD_eq_getElem?_getD, List.getD_eq_getElem?_getD]
  by_cases h : v.toNat < l.length
  · rw [List.getElem?_append_left h]
  · rw [List.getElem?_append_right (by omega), List.getElem?_eq_none (by omega : l.length ≤ v.toNat)]
    by_cases h2 : v.toNat - l.length < 8 - l.length
    · rw [List.getElem?_replicate, if_pos h2]; rfl
    · rw [List.getElem?_replicate, if_neg h2]
theorem bet_zero (s : BV) : Bet ⟨0, 0⟩ s ↔ s = 0#64 := by
  constructor
  · intro h
    refine bv_ext fun k hk => ?_
    cases hh : has s k with
    | false => simp [has]
    | true => have := (h k hk).2 hh; simp [has] at this
  · rintro rfl k hk
    simp [has]
theorem bet_fix {x : Bd} {s : BV} (h : x.lo = x.can) : Bet x s ↔ s = x.lo := by
  constructor
  · intro hb
    refine bv_ext fun k hk => ?_
    have h1 := hb k hk
    rw [← h] at h1
    cases ha : has s k <;> cases hc : has x.lo k
    · rfl
    · rw [h1.1 hc] at ha; cases ha
    · rw [h1.2 ha] at hc; cases hc
    · rfl
  · rintro rfl k hk
    rw [← h]
    exact ⟨fun h => h, fun h => h⟩
theorem rule_len {p : Pb} (hrl : ∀ r, r ∈ p.rules → ruleB r p.bounds.length = true) {r : Rl} (hr : r ∈ p.rules) : ∀ v, v ∈ r.vars → 0 ≤ v ∧ v < p.bounds.length := by
  intro v hv
  have h := hrl r hr
  unfold ruleB at h
  split at h
  · cases h
  · split at h
    · cases h
    · rename_i h2
      rw [Bool.not_eq_true, Bool.not_eq_false', List.all_eq_true] at h2
      obtain ⟨i, hi, rfl⟩ := List.mem_iff_getElem.1 hv
      have := h2 (r.vars[i], i) (List.mem_zipIdx_iff_getElem?.2 (by simp [hi]))
      unfold okV at this
      rw [Bool.and_eq_true, decide_eq_true_eq] at this
      omega
theorem tail_with {n : Nat} {b : List Bd} (hb : b.length = 8) (h : Tail0 n b) {v : Int} (hv : 0 ≤ v ∧ v < n) (hn : n ≤ 8) (e : Nat) (i : Bool) : Tail0 n (withB b v e i) := fun u hu => by
  rw [nth_with_ne hb (by omega) (by omega) (by omega)]; exact h u hu
theorem run_tail {p : Pb} {re : Bool} (hp : okP p) (hrl : ∀ r, r ∈ p.rules → ruleB r p.bounds.length = true) : ∀ (k : Nat) (s : Ps), openN s.b = k → Iv s → Tail0 p.bounds.length s.b → Tail0 p.bounds.length (runF p re s).1.b := by
  have hrule : ∀ n, n < p.rules.length → ∀ s, Iv s → Tail0 p.bounds.length s.b → Tail0 p.bounds.length (ruleS p re n s).b := fun n hn s hs =>
    rule_rel (p := p) (re := re) (n := n) hp (fun b b' => Tail0 p.bounds.length b → Tail0 p.bounds.length b') (fun _ h => h) (fun a b c h k q => k (h q)) (fun s v e h hv he ho ht => by
      unfold stepE
      split
      · exact ht
      · exact tail_with h.b.1 ht (rule_len hrl (okR_get hp hn).2 v hv) hp.b8 _ _) s hs
  have hround : ∀ (ns : List Nat) (s : Ps), (∀ n, n ∈ ns → n < p.rules.length) → Iv s → Tail0 p.bounds.length s.b → Tail0 p.bounds.length (roundP p re ns s).1.b := by
    intro ns
    induction ns with
    | nil => intro s _ _ h; exact h
    | cons n ns ih =>
      intro s hn hs h
      unfold roundP
      split
      · exact ih _ (fun k hk => hn k (List.mem_cons_of_mem _ hk)) (hs.rule hp n) (hrule n (hn n List.mem_cons_self) s hs h)
      · exact h
  intro k
  induction k using Nat.strongRecOn with
  | _ k ih =>
    intro s hk hs ht
    have h1 := hround (List.range p.rules.length) s (fun n h => List.mem_range.1 h) hs ht
    cases hq : roundP p re (List.range p.rules.length) s with
    | mk s' o =>
      rw [hq] at h1
      cases o with
      | some n => rw [runF_bad hq]; exact h1
      | none =>
        by_cases he : s'.b = s.b
        · rw [runF_same hq he]; exact h1
        · obtain ⟨g1, g2, g3⟩ := runF_step hp hs hq he
          rw [g3]
          exact ih _ (by omega) s' rfl g1 h1
theorem lo_can_of {l : List Bd} (h : l.findIdx? (fun x => x.lo != x.can) = none) : ∀ x, x ∈ l → x.lo = x.can := fun x hx => by
  have := List.findIdx?_eq_none_iff.1 h x hx
  simpa using this
/-- A leaf: the one solution there is. -/
theorem leaf_sol {p : Pb} (hp : okP p) (hrl : ∀ r, r ∈ p.rules → ruleB r p.bounds.length = true) {b : List Bd} (hb : okB b) (ht : Tail0 p.bounds.length b) (hpo : ∀ r, r ∈ p.rules → possB b r = true)
    (hn : (b.take p.bounds.length).findIdx? (fun x => x.lo != x.can) = none) : isSol p b ((b.take p.bounds.length).map Bd.lo) ∧ ∀ l, isSol p b l → l = (b.take p.bounds.length).map Bd.lo := by
  have h8 := hp.b8
  have hfx := lo_can_of hn
  have hlen : ((b.take p.bounds.length).map Bd.lo).length = p.bounds.length := by simp [hb.1]; omega
  have hg : ∀ v : Int, 0 ≤ v ∧ v < p.bounds.length → ((b.take p.bounds.length).map Bd.lo).getD v.toNat 0#64 = (nth b v).lo ∧ (nth b v).lo = (nth b v).can := fun v hv => by
    have h1 : (b.take p.bounds.length)[v.toNat]? = some (nth b v) := by rw [List.getElem?_take, if_pos (by omega), nth_get hb.1 (by omega)]
    refine ⟨?_, hfx _ (List.mem_of_getElem? h1)⟩
    rw [List.getD_eq_getElem?_getD, List.getElem?_map, h1]; rfl
  have hgp : ∀ v : Int, 0 ≤ v ∧ v < 8 → (nth b v).lo = (nth b v).can ∧ getL (padL ((b.take p.bounds.length).map Bd.lo)) v = (nth b v).lo := fun v hv => by
    rw [getL_pad hv.1]
    by_cases hvn : v < p.bounds.length
    · exact ⟨(hg v ⟨hv.1, hvn⟩).2, (hg v ⟨hv.1, hvn⟩).1⟩
    · rw [ht v ⟨by omega, hv.2⟩]
      refine ⟨rfl, ?_⟩
      rw [List.getD_eq_getElem?_getD, List.getElem?_eq_none (by omega)]; rfl
  refine ⟨⟨hlen, fun v hv => (bet_fix (hgp v hv).1).2 (hgp v hv).2, fun r hr => ?_⟩, fun l hl => ?_⟩
  · refine held_of (hp.rl r hr) (fun v hv => ?_) (hpo r hr)
    have hv8 := (hp.rl r hr).1 v hv
    exact ⟨(hgp v hv8).2.symm, ((hgp v hv8).1.symm.trans (hgp v hv8).2.symm)⟩
  · refine List.ext_getElem (hl.1.trans hlen.symm) fun i h1 h2 => ?_
    have hi : i < p.bounds.length := by omega
    have hb1 := hl.2.1 (i : Int) (by omega)
    have h3 := (bet_fix (hgp (i : Int) (by omega)).1).1 hb1
    rw [getL_pad (by omega)] at h3
    have h4 := (hg (i : Int) (by omega)).1
    rw [← h4] at h3
    rw [List.getD_eq_getElem?_getD, List.getD_eq_getElem?_getD, Int.toNat_natCast, List.getElem?_eq_getElem h1, List.getElem?_eq_getElem h2] at h3
    exact h3
end Go.Proofs.YtgpgjpcebajofaaGreatDoor
set_option maxHeartbeats 4000000
set_option linter.unusedVariables false
set_option linter.unusedSimpArgs false
set_option maxRecDepth 100000
namespace Go.Proofs.YtgpgjpcebajofaaGreatDoor
open Go Go.XC Go.RowKit Go.SetsP
attribute [local irreducible] Post TC TR D WL EvS EvC Wd ResL Code.wpIn Exit.then Exit.inBlock Exit.noGoto LoopK LoopP bodyPostM Reads Calls

structure NodeR (p : Pb) (most : Int) (b : List Bd) (o : Fo) (g : Bool) (o' : Fo) : Prop where
  new : ∃ new, o'.sols = o.sols ++ new ∧ (∀ x, x ∈ new → isSol p b x) ∧ new.Nodup ∧ (g = true → ∀ x, isSol p b x → x ∈ new)
  go : g = true → o'.op = false ∧ (o'.sols.length : Int) < most
  no : g = false → o'.op = true ∨ (o'.op = false ∧ (o'.sols.length : Int) = most)
  lo : o.nodes ≤ o'.nodes
  lt : o'.op = false → o.nodes + 1 ≤ o'.nodes
  hi : o'.nodes ≤ 200
  few : o.nodes + 2 ^ (openN b + 1) ≤ 201 → o'.op = false ∧ o'.nodes + 1 ≤ o.nodes + 2 ^ (openN b + 1)
theorem branch {p : Pb} (hp : okP p) {b : List Bd} (hb : okB b) (hc : Cn b) {v : Nat} (hf : (b.take p.bounds.length).findIdx? (fun x => x.lo != x.can) = some v) :
    v < p.bounds.length ∧ (b.take p.bounds.length).getD v default = nth b (v : Int) ∧ tz (openB (nth b (v : Int))) < 12 ∧ has (openB (nth b (v : Int))) (tz (openB (nth b (v : Int)))) = true := by
  have h8 := hp.b8
  obtain ⟨hlt, hne, _⟩ := List.findIdx?_eq_some_iff_getElem.1 hf
  have hvn : v < p.bounds.length := by simp at hlt; omega
  have h1 : (b.take p.bounds.length)[v]? = some (nth b (v : Int)) := by rw [List.getElem?_take, if_pos hvn, show v = ((v : Int)).toNat by omega, nth_get hb.1 (by omega)]; rfl
  have h2 : (b.take p.bounds.length)[v] = nth b (v : Int) := by rw [List.getElem?_eq_getElem hlt] at h1; exact Option.some.inj h1
  rw [h2] at hne
  have hm : nth b (v : Int) ∈ b := List.mem_of_getElem? (nth_get hb.1 (v := (v : Int)) (by omega))
  have h0 := cn_ne (fun k hk hl => hc _ hm k hk hl) (by simpa using hne)
  have hs := small_openB (hb.2 _ hm).2
  exact ⟨hvn, by rw [List.getD_eq_getElem?_getD, h1]; rfl, elems_lt hs (by rw [(elems_step hs h0).1]; exact List.mem_cons_self)⟩
theorem nar_sol {p : Pb} {b b' : List Bd} (h : ∀ l, inB b' l → inB b l) {x : List BV} (hx : isSol p b' x) : isSol p b x := ⟨hx.1, h _ hx.2.1, hx.2.2⟩
theorem node_spec {p : Pb} (hp : okP p) (hrl : ∀ r, r ∈ p.rules → ruleB r p.bounds.length = true) {most : Int} : ∀ (k : Nat) (b : List Bd) (o : Fo), 201 ≤ k + o.nodes → o.nodes ≤ 200 → o.op = false → (o.sols.length : Int) < most → okB b → Cn b → Tail0 p.bounds.length b →
    NodeR p most b o (nodeP p most k b o).1 (nodeP p most k b o).2 := by
  have h8 := hp.b8
  intro k
  induction k with
  | zero => intro b o h h'; omega
  | succ k ih =>
    intro b o hk hno hop hm hb hc ht
    have hIv : Iv ⟨b, []⟩ := ⟨hb, fun x h => (by cases h), by have := openN_le hb.1; show 0 + openN b ≤ 96; omega⟩
    have h2 : 1 ≤ 2 ^ openN b := Nat.one_le_two_pow
    unfold nodeP
    by_cases h200 : o.nodes = 200
    · rw [if_pos h200]
      exact ⟨⟨[], by simp, fun x h => (by cases h), List.nodup_nil, fun h => (by cases h)⟩, fun h => (by cases h), fun _ => .inl rfl, Nat.le_refl _, fun h => (by cases h), hno, fun h => by have := Nat.pow_succ 2 (openN b); omega⟩
    · rw [if_neg h200]
      obtain ⟨g1, g2, g3, g4, g5⟩ := run_spec (re := false) hp _ ⟨b, []⟩ rfl hIv
      have hcn := Cn.runP hp (re := false) 98 ⟨b, []⟩ hIv hc
      have htl := run_tail (re := false) hp hrl _ ⟨b, []⟩ rfl hIv ht
      change Cn (runF p false ⟨b, []⟩).1.b at hcn
      generalize runF p false ⟨b, []⟩ = R at g1 g2 g3 g4 g5 hcn htl ⊢
      have hle : openN R.1.b ≤ openN b := by
        rcases g2 with h | h
        · rw [h]; exact Nat.le_refl _
        · exact Nat.le_of_lt h
      simp only
      by_cases hR : R.2 ≥ 0
      · rw [if_pos hR]
        exact ⟨⟨[], by simp, fun x h => (by cases h), List.nodup_nil, fun _ x hx => absurd (g5 _ hx.2.2 hx.2.1).1 (by omega)⟩, fun _ => ⟨hop, hm⟩, fun h => (by cases h), by show o.nodes ≤ o.nodes + 1; omega, fun _ => Nat.le_refl _, by show o.nodes + 1 ≤ 200; omega,
          fun h => ⟨hop, by show o.nodes + 1 + 1 ≤ _; have := Nat.pow_succ 2 (openN b); omega⟩⟩
      · rw [if_neg hR]
        have hlt0 : R.2 < 0 := by omega
        cases hf : (R.1.b.take p.bounds.length).findIdx? (fun x => x.lo != x.can) with
        | none =>
          simp only
          obtain ⟨s1, s2⟩ := leaf_sol hp hrl g1.b htl (g4 hlt0) hf
          refine ⟨⟨[_], rfl, fun x hx => ?_, by simp, fun _ x hx => ?_⟩, fun h => ⟨hop, of_decide_eq_true h⟩, fun h => .inr ⟨hop, ?_⟩, by show o.nodes ≤ o.nodes + 1; omega, fun _ => Nat.le_refl _, by show o.nodes + 1 ≤ 200; omega,
            fun h => ⟨hop, by show o.nodes + 1 + 1 ≤ _; have := Nat.pow_succ 2 (openN b); omega⟩⟩
          · rw [List.mem_singleton.1 hx]; exact nar_sol g3 s1
          · rw [s2 x ⟨hx.1, (g5 _ hx.2.2 hx.2.1).2, hx.2.2⟩]; exact List.mem_cons_self
          · have h3 := of_decide_eq_false h
            simp only [List.length_append, List.length_cons, List.length_nil] at h3 ⊢
            omega
        | some v =>
          obtain ⟨hvn, hgd, he12, heo⟩ := branch hp g1.b hcn hf
          simp only
          rw [hgd]
          generalize tz (openB (nth R.1.b (v : Int))) = e at he12 heo ⊢
          have hv8 : 0 ≤ (v : Int) ∧ (v : Int) < 8 := by omega
          have hvp : 0 ≤ (v : Int) ∧ (v : Int) < p.bounds.length := by omega
          have hoe := fun i => openN_with g1.b.1 hv8 he12 i heo
          have hin := fun i l => in_with g1.b.1 hv8 (by omega : e < 64) i l
          have hpw : ∀ i, 2 ^ (openN (withB R.1.b (v : Int) e i) + 1) + 2 ^ (openN (withB R.1.b (v : Int) e i) + 1) ≤ 2 ^ (openN b + 1) := fun i => by
            have h3 := hoe i
            have h4 : 2 ^ (openN (withB R.1.b (v : Int) e i) + 1) ≤ 2 ^ openN b := Nat.pow_le_pow_right (by omega) (by omega)
            have := Nat.pow_succ 2 (openN b)
            omega
          have A := ih (withB R.1.b (v : Int) e true) ⟨o.sols, o.nodes + 1, o.op⟩ (by simp only; omega) (by simp only; omega) hop hm (okB_with g1.b hv8 he12 true) (hcn.with g1.b.1 hv8 (by omega) true heo) (tail_with g1.b.1 htl hvp h8 e true)
          generalize nodeP p most k (withB R.1.b (v : Int) e true) ⟨o.sols, o.nodes + 1, o.op⟩ = a at A ⊢
          obtain ⟨new1, n1, n2, n3, n4⟩ := A.new
          have A1 := A.lo
          have A2 := A.hi
          have A3 := A.few
          simp only at n1 A1 A3
          have hpt := hpw true
          have hpf := hpw false
          have hsub : ∀ i x, isSol p (withB R.1.b (v : Int) e i) x → isSol p b x := fun i x => nar_sol fun l hl => g3 l ((hin i l).1 hl).1
          cases hg : a.1 with
          | false =>
            rw [if_neg (by simp)]
            rw [hg] at A
            refine ⟨⟨new1, n1, fun x hx => hsub true x (n2 x hx), n3, fun h => (by cases h)⟩, fun h => (by cases h), fun _ => A.no rfl, by show o.nodes ≤ a.2.nodes; omega, fun _ => by show o.nodes + 1 ≤ a.2.nodes; omega, A2, fun h => ?_⟩
            have := A3 (by omega)
            exact ⟨this.1, by show a.2.nodes + 1 ≤ _; have := this.2; omega⟩
          | true =>
            rw [if_pos rfl]
            rw [hg] at A n4
            obtain ⟨k1, k2⟩ := A.go rfl
            have B := ih (withB R.1.b (v : Int) e false) a.2 (by omega) A2 k1 k2 (okB_with g1.b hv8 he12 false) (hcn.with g1.b.1 hv8 (by omega) false heo) (tail_with g1.b.1 htl hvp h8 e false)
            generalize nodeP p most k (withB R.1.b (v : Int) e false) a.2 = c at B ⊢
            obtain ⟨new2, q1, q2, q3, q4⟩ := B.new
            have B1 := B.lo
            have B3 := B.few
            refine ⟨⟨new1 ++ new2, by rw [q1, n1, List.append_assoc], fun x hx => ?_, List.nodup_append.2 ⟨n3, q3, fun x hx y hy he => ?_⟩, fun h x hx => ?_⟩, B.go, B.no, by omega, fun _ => by omega, B.hi, fun h => ?_⟩
            · rcases List.mem_append.1 hx with hx | hx
              · exact hsub true x (n2 x hx)
              · exact hsub false x (q2 x hx)
            · subst he
              have h3 := ((hin true _).1 (n2 x hx).2.1).2
              have h4 := ((hin false _).1 (q2 x hy).2.1).2
              rw [h3] at h4; cases h4
            · have h3 := (g5 _ hx.2.2 hx.2.1).2
              cases hh : has (getL (padL x) (v : Int)) e with
              | true => exact List.mem_append_left _ (n4 rfl x ⟨hx.1, (hin true _).2 ⟨h3, hh⟩, hx.2.2⟩)
              | false => exact List.mem_append_right _ (q4 h x ⟨hx.1, (hin false _).2 ⟨h3, hh⟩, hx.2.2⟩)
            · have h3 := A3 (by omega)
              have h5 := B3 (by omega)
              exact ⟨h5.1, by have := h3.2; have := h5.2; omega⟩
/-- With fewer solutions asked for: the same, or the first ones. -/
theorem node_pre {p : Pb} {k1 k2 : Int} (hk : k1 ≤ k2) : ∀ (k : Nat) (b : List Bd) (o : Fo), (o.sols.length : Int) < k1 →
    nodeP p k1 k b o = nodeP p k2 k b o ∨ ((nodeP p k1 k b o).1 = false ∧ (nodeP p k1 k b o).2.op = o.op ∧ ((nodeP p k1 k b o).2.sols.length : Int) = k1 ∧ (nodeP p k1 k b o).2.sols <+: (nodeP p k2 k b o).2.sols ∧ (nodeP p k1 k b o).2.nodes ≤ (nodeP p k2 k b o).2.nodes) := by
  have grow : ∀ (k : Nat) (b : List Bd) (o : Fo), o.sols <+: (nodeP p k2 k b o).2.sols ∧ o.nodes ≤ (nodeP p k2 k b o).2.nodes := by
    intro k
    induction k with
    | zero => intro b o; exact ⟨List.prefix_refl _, Nat.le_refl _⟩
    | succ k ih =>
      intro b o
      unfold nodeP
      by_cases h200 : o.nodes = 200
      · rw [if_pos h200]; exact ⟨List.prefix_refl _, Nat.le_refl _⟩
      rw [if_neg h200]
      generalize runF p false ⟨b, []⟩ = R
      simp only
      by_cases hR : R.2 ≥ 0
      · rw [if_pos hR]; exact ⟨List.prefix_refl _, Nat.le_succ _⟩
      rw [if_neg hR]
      cases (R.1.b.take p.bounds.length).findIdx? (fun x => x.lo != x.can) with
      | none => exact ⟨List.prefix_append _ _, Nat.le_succ _⟩
      | some v =>
        simp only
        generalize tz (openB ((R.1.b.take p.bounds.length).getD v default)) = e
        have h1 := ih (withB R.1.b (v : Int) e true) ⟨o.sols, o.nodes + 1, o.op⟩
        generalize nodeP p k2 k (withB R.1.b (v : Int) e true) ⟨o.sols, o.nodes + 1, o.op⟩ = a at h1 ⊢
        simp only at h1
        by_cases hg : a.1 = true
        · rw [if_pos hg]
          have h2 := ih (withB R.1.b (v : Int) e false) a.2
          exact ⟨h1.1.trans h2.1, by have := h1.2; have := h2.2; omega⟩
        · rw [if_neg hg]
          exact ⟨h1.1, by have := h1.2; show o.nodes ≤ a.2.nodes; omega⟩
  have golt : ∀ (k : Nat) (b : List Bd) (o : Fo), (o.sols.length : Int) < k1 → (nodeP p k1 k b o).1 = true → ((nodeP p k1 k b o).2.sols.length : Int) < k1 ∧ (nodeP p k1 k b o).2.op = o.op := by
    intro k
    induction k with
    | zero => intro b o _ h; cases h
    | succ k ih =>
      intro b o hm
      unfold nodeP
      by_cases h200 : o.nodes = 200
      · rw [if_pos h200]; intro h; cases h
      rw [if_neg h200]
      generalize runF p false ⟨b, []⟩ = R
      simp only
      by_cases hR : R.2 ≥ 0
      · rw [if_pos hR]; exact fun _ => ⟨hm, rfl⟩
      rw [if_neg hR]
      cases (R.1.b.take p.bounds.length).findIdx? (fun x => x.lo != x.can) with
      | none => exact fun h => ⟨of_decide_eq_true h, rfl⟩
      | some v =>
        simp only
        generalize tz (openB ((R.1.b.take p.bounds.length).getD v default)) = e
        have h1 := ih (withB R.1.b (v : Int) e true) ⟨o.sols, o.nodes + 1, o.op⟩ hm
        generalize nodeP p k1 k (withB R.1.b (v : Int) e true) ⟨o.sols, o.nodes + 1, o.op⟩ = a at h1 ⊢
        by_cases hg : a.1 = true
        · rw [if_pos hg]
          obtain ⟨g1, g2⟩ := h1 hg
          intro h
          have h2 := ih (withB R.1.b (v : Int) e false) a.2 g1 h
          exact ⟨h2.1, h2.2.trans g2⟩
        · rw [if_neg hg]; intro h; cases h
  intro k
  induction k with
  | zero => intro b o _; exact .inl rfl
  | succ k ih =>
    intro b o hm
    unfold nodeP
    by_cases h200 : o.nodes = 200
    · rw [if_pos h200, if_pos h200]; exact .inl rfl
    rw [if_neg h200, if_neg h200]
    generalize runF p false ⟨b, []⟩ = R
    simp only
    by_cases hR : R.2 ≥ 0
    · rw [if_pos hR, if_pos hR]; exact .inl rfl
    rw [if_neg hR, if_neg hR]
    cases (R.1.b.take p.bounds.length).findIdx? (fun x => x.lo != x.can) with
    | none =>
      simp only
      by_cases h1 : ((o.sols ++ [(R.1.b.take p.bounds.length).map Bd.lo]).length : Int) < k1
      · have h2 : ((o.sols ++ [(R.1.b.take p.bounds.length).map Bd.lo]).length : Int) < k2 := by omega
        left; rw [decide_eq_true h1, decide_eq_true h2]
      · right
        refine ⟨decide_eq_false h1, trivial, ?_, List.prefix_refl _, Nat.le_refl _⟩
        simp only [List.length_append, List.length_cons, List.length_nil] at h1 ⊢
        omega
    | some v =>
      simp only
      generalize tz (openB ((R.1.b.take p.bounds.length).getD v default)) = e
      have h1 := ih (withB R.1.b (v : Int) e true) ⟨o.sols, o.nodes + 1, o.op⟩ hm
      have g1 := golt k (withB R.1.b (v : Int) e true) ⟨o.sols, o.nodes + 1, o.op⟩ hm
      generalize nodeP p k1 k (withB R.1.b (v : Int) e true) ⟨o.sols, o.nodes + 1, o.op⟩ = a at h1 g1 ⊢
      generalize nodeP p k2 k (withB R.1.b (v : Int) e true) ⟨o.sols, o.nodes + 1, o.op⟩ = c at h1 ⊢
      rcases h1 with rfl | ⟨q1, q2, q3, q4, q5⟩
      · by_cases hg : a.1 = true
        · rw [if_pos hg, if_pos hg]
          obtain ⟨g2, g3⟩ := g1 hg
          rcases ih (withB R.1.b (v : Int) e false) a.2 g2 with h | ⟨q1, q2, q3, q4, q5⟩
          · exact .inl h
          · exact .inr ⟨q1, q2.trans g3, q3, q4, q5⟩
        · rw [if_neg hg, if_neg hg]; exact .inl rfl
      · right
        rw [if_neg (by rw [q1]; simp)]
        by_cases hg : c.1 = true
        · rw [if_pos hg]
          have h2 := grow k (withB R.1.b (v : Int) e false) c.2
          exact ⟨rfl, q2, q3, q4.trans h2.1, Nat.le_trans q5 h2.2⟩
        · rw [if_neg hg]
          exact ⟨rfl, q2, q3, q4, q5⟩
end Go.Proofs.YtgpgjpcebajofaaGreatDoor
set_option maxHeartbeats 4000000
set_option linter.unusedVariables false
set_option linter.unusedSimpArgs false
set_option maxRecDepth 100000
namespace Go.Proofs.YtgpgjpcebajofaaGreatDoor
open Go Go.XC Go.RowKit Go.SetsP
attribute [local irreducible] Post TC TR D WL EvS EvC Wd ResL Code.wpIn Exit.then Exit.inBlock Exit.noGoto LoopK LoopP bodyPostM Reads Calls

/-! ### Solve, none, Core: what they come to -/
def sols (p : Pb) (x : List BV) : Prop := isSol p (pad8 p.bounds) x
theorem sum_append (l : List Bd) (n : Nat) : openN (l ++ List.replicate n ⟨0, 0⟩) = openN l := by
  unfold openN
  rw [List.map_append, List.sum_append]
  have : ∀ n, (List.map (fun x => pop (openB x)) (List.replicate n (⟨0, 0⟩ : Bd))).sum = 0 := by
    intro n
    induction n with
    | zero => rfl
    | succ n ih =>
      rw [List.replicate_succ, List.map_cons, List.sum_cons, ih]
      have : pop (openB (⟨0, 0⟩ : Bd)) = 0 := by decide
      rw [this]
  rw [this]; rfl
theorem openN_pad (l : List Bd) : openN (pad8 l) = openN l := sum_append l _
theorem tail_pad {l : List Bd} (h : l.length ≤ 8) : Tail0 l.length (pad8 l) := fun v hv => by
  unfold nth pad8
  rw [List.getD_eq_getElem?_getD, List.getElem?_append_right (by omega), List.getElem?_replicate, if_pos (by omega)]; rfl
structure OkP (p : Pb) : Prop where
  ok : okP p
  rl : ∀ r, r ∈ p.rules → ruleB r p.bounds.length = true
  cn : Cn (pad8 p.bounds)
theorem OkP.of {p : Pb} (h : checkB p = true) : OkP p := ⟨okP_of h, (checkB_ok h).2.2.2, Cn.pad h⟩
theorem search_spec {p : Pb} (hp : OkP p) {most : Int} (hm : 1 ≤ most) : NodeR p most (pad8 p.bounds) ⟨[], 0, false⟩ (nodeP p most 201 (pad8 p.bounds) ⟨[], 0, false⟩).1 (searchP p most) :=
  node_spec hp.ok hp.rl 201 _ _ (by simp) (by simp) rfl (by simp; omega) hp.ok.b hp.cn (tail_pad hp.ok.b8)
structure Found (p : Pb) (most : Int) (o : Fo) : Prop where
  sound : ∀ x, x ∈ o.sols → sols p x
  nodup : o.sols.Nodup
  full : o.op = false → (o.sols.length : Int) < most → ∀ x, sols p x → x ∈ o.sols
  le : o.op = false → (o.sols.length : Int) ≤ most
  n1 : o.op = false → 1 ≤ o.nodes
  n200 : o.nodes ≤ 200
  few : openN p.bounds ≤ 6 → o.op = false
theorem found_of {p : Pb} (hp : OkP p) {most : Int} (hm : 1 ≤ most) : Found p most (searchP p most) := by
  have R := search_spec hp hm
  generalize (nodeP p most 201 (pad8 p.bounds) ⟨[], 0, false⟩).1 = g at R
  generalize searchP p most = o at R ⊢
  obtain ⟨new, h1, h2, h3, h4⟩ := R.new
  simp only [List.nil_append] at h1
  refine ⟨by rw [h1]; exact h2, by rw [h1]; exact h3, fun ho hl => ?_, fun ho => ?_, fun ho => by have := R.lt ho; simp only at this; omega, R.hi, fun h => ?_⟩
  · cases g with
    | true => rw [h1]; exact h4 rfl
    | false =>
      rcases R.no rfl with h | ⟨_, h⟩
      · rw [ho] at h; cases h
      · omega
  · cases g with
    | true => have := (R.go rfl).2; omega
    | false =>
      rcases R.no rfl with h | ⟨_, h⟩
      · rw [ho] at h; cases h
      · omega
  · refine (R.few ?_).1
    rw [openN_pad]
    have : 2 ^ (openN p.bounds + 1) ≤ 2 ^ 7 := Nat.pow_le_pow_right (by omega) (by omega)
    simp only; omega
theorem search_pre {p : Pb} {k1 k2 : Int} (h1 : 1 ≤ k1) (hk : k1 ≤ k2) (hp : OkP p) (ho : (searchP p k2).op = false) : (searchP p k1).op = false ∧ (searchP p k1).nodes ≤ (searchP p k2).nodes ∧ (searchP p k1).sols = (searchP p k2).sols.take k1.toNat := by
  rcases node_pre (p := p) hk 201 (pad8 p.bounds) ⟨[], 0, false⟩ (by simp; omega) with h | ⟨q1, q2, q3, q4, q5⟩
  · have he : searchP p k1 = searchP p k2 := by unfold searchP; rw [h]
    rw [← he] at ho
    have hle := (found_of hp h1).le ho
    rw [← he]
    exact ⟨ho, Nat.le_refl _, (List.take_of_length_le (by omega)).symm⟩
  · refine ⟨q2, q5, ?_⟩
    obtain ⟨t, ht⟩ := q4
    have ht' : (searchP p k1).sols ++ t = (searchP p k2).sols := ht
    have q3' : ((searchP p k1).sols.length : Int) = k1 := q3
    rw [← ht', List.take_append_of_le_length (by omega), List.take_of_length_le (by omega)]
/-! ### Some of the rules -/
def Sat (p : Pb) (lw : List Nat) : Prop := ∃ x, sols (selP p lw) x
theorem sols_sel {p : Pb} {lw : List Nat} {x : List BV} : sols (selP p lw) x ↔ x.length = p.bounds.length ∧ inB (pad8 p.bounds) (padL x) ∧ ∀ k, k ∈ lw → heldB (p.rules.getD k default) (padL x) = true := by
  unfold sols isSol AllH selP
  simp only [List.mem_map, forall_exists_index, and_imp, forall_apply_eq_imp_iff₂]
theorem Sat.mono {p : Pb} {lw lw' : List Nat} (h : ∀ k, k ∈ lw' → k ∈ lw) (hs : Sat p lw) : Sat p lw' :=
  let ⟨x, hx⟩ := hs; ⟨x, sols_sel.2 ⟨(sols_sel.1 hx).1, (sols_sel.1 hx).2.1, fun k hk => (sols_sel.1 hx).2.2 k (h k hk)⟩⟩
theorem OkP.sel {p : Pb} (hp : OkP p) {lw : List Nat} (hl : ∀ k, k ∈ lw → k < p.rules.length) (hn : lw.length ≤ 12) : OkP (selP p lw) :=
  ⟨selP_ok hp.ok hl hn, fun r hr => by
    obtain ⟨k, hk, rfl⟩ := List.mem_map.1 hr
    rw [List.getD_eq_getElem?_getD, List.getElem?_eq_getElem (hl k hk)]
    exact hp.rl _ (List.getElem_mem _), hp.cn⟩
theorem none_spec {p : Pb} (hp : OkP p) {lw : List Nat} (hl : ∀ k, k ∈ lw → k < p.rules.length) (hn : lw.length ≤ 12) :
    ((noneP p lw).2 ≠ 0 ∧ (noneP p lw).2 = 8 ∧ 6 < openN p.bounds) ∨ ((noneP p lw).2 = 0 ∧ ((noneP p lw).1 = true ↔ ¬ Sat p lw)) := by
  have F := found_of (hp.sel hl hn) (most := 1) (by omega)
  unfold noneP
  generalize searchP (selP p lw) 1 = o at F
  simp only
  cases ho : o.op with
  | true =>
    left
    rw [if_pos rfl]
    refine ⟨by simp, rfl, Nat.lt_of_not_le fun h => ?_⟩
    rw [F.few h] at ho; cases ho
  | false =>
    right
    rw [if_neg (by simp)]
    refine ⟨rfl, ?_⟩
    simp only [beq_iff_eq]
    constructor
    · rintro h ⟨x, hx⟩
      have := F.full ho (by omega) x hx
      have h0 : o.sols = [] := List.eq_nil_of_length_eq_zero (by omega)
      rw [h0] at this
      cases this
    · intro h
      cases hs : o.sols with
      | nil => rfl
      | cons x t => exact absurd ⟨x, F.sound x (by rw [hs]; exact List.mem_cons_self)⟩ h
theorem range_erase (i : Nat) (K : List Nat) : (List.range i ++ i :: K).eraseIdx i = List.range i ++ K := by
  rw [List.eraseIdx_append_of_length_le (by simp)]
  simp
theorem coreL_spec {p : Pb} (hp : OkP p) : ∀ (i : Nat) (K : List Nat), (∀ k, k ∈ List.range i ++ K → k < p.rules.length) → (List.range i ++ K).length ≤ 12 → (List.range i ++ K).Nodup → ¬ Sat p (List.range i ++ K) →
    (∀ k, k ∈ K → Sat p ((List.range i ++ K).filter fun j => j != k)) →
    ((coreL p (List.range i).reverse (List.range i ++ K)).2 = 8 ∧ (coreL p (List.range i).reverse (List.range i ++ K)).1 = [] ∧ 6 < openN p.bounds) ∨
    ((coreL p (List.range i).reverse (List.range i ++ K)).2 = 0 ∧ ((coreL p (List.range i).reverse (List.range i ++ K)).1).Sublist (List.range i ++ K) ∧ ¬ Sat p (coreL p (List.range i).reverse (List.range i ++ K)).1 ∧
      ∀ k, k ∈ (coreL p (List.range i).reverse (List.range i ++ K)).1 → Sat p ((coreL p (List.range i).reverse (List.range i ++ K)).1.filter fun j => j != k)) := by
  intro i
  induction i with
  | zero =>
    intro K h1 h2 h3 h4 h5
    right
    exact ⟨rfl, List.Sublist.refl _, h4, fun k hk => h5 k (by simpa [coreL] using hk)⟩
  | succ i ih =>
    intro K h1 h2 h3 h4 h5
    have e1 : List.range (i + 1) ++ K = List.range i ++ i :: K := by rw [List.range_succ, List.append_assoc]; rfl
    have e2 : (List.range (i + 1)).reverse = i :: (List.range i).reverse := by rw [List.range_succ, List.reverse_append]; rfl
    rw [e1] at h1 h2 h3 h4 h5 ⊢
    rw [e2]
    have e3 := range_erase i K
    have hmem : ∀ k, k ∈ List.range i ++ K → k ∈ List.range i ++ i :: K := fun k hk => by
      rw [List.mem_append] at hk ⊢
      rcases hk with hk | hk
      · exact .inl hk
      · exact .inr (List.mem_cons_of_mem _ hk)
    have hlen : (List.range i ++ K).length ≤ 12 := by simp at h2 ⊢; omega
    have hsub : (List.range i ++ K).Sublist (List.range i ++ i :: K) := List.Sublist.append_left (List.sublist_cons_self _ _) _
    unfold coreL
    rw [e3]
    rcases none_spec hp (fun k hk => h1 k (hmem k hk)) hlen with ⟨n1, n2, n3⟩ | ⟨n1, n2⟩
    · rw [n2]
      left
      exact ⟨rfl, rfl, n3⟩
    · rw [n1]
      simp only [bne_self_eq_false, Bool.false_eq_true, if_false]
      cases hq : (noneP p (List.range i ++ K)).1 with
      | true =>
        simp only [if_true]
        have hns := n2.1 hq
        rcases ih K (fun k hk => h1 k (hmem k hk)) hlen (hsub.nodup h3) hns (fun k hk => (h5 k hk).mono fun j hj => by
          rw [List.mem_filter] at hj ⊢
          exact ⟨hmem j hj.1, hj.2⟩) with h | ⟨g1, g2, g3, g4⟩
        · exact .inl h
        · exact .inr ⟨g1, g2.trans hsub, g3, g4⟩
      | false =>
        simp only [Bool.false_eq_true, if_false]
        have hs : Sat p (List.range i ++ K) := Classical.byContradiction fun h => by rw [n2.2 h] at hq; cases hq
        refine ih (i :: K) h1 h2 h3 h4 fun k hk => ?_
        rcases List.mem_cons.1 hk with rfl | hk
        · refine hs.mono fun j hj => ?_
          rw [List.mem_filter, List.mem_append, List.mem_cons] at hj
          rw [List.mem_append]
          rcases hj.1 with h | h | h
          · exact .inl h
          · rw [h] at hj; simp at hj
          · exact .inr h
        · exact h5 k hk
theorem filter_all {α : Type} {p : α → Bool} {l : List α} (h : ∀ x, x ∈ l → p x = true) : l.filter p = l := List.filter_eq_self.2 h
structure CoreR (p : Pb) (c : List Nat) (f : Int) : Prop where
  cd : f = 0 ∨ f = 5 ∨ f = 8
  e : f ≠ 0 → c = []
  few : f = 8 → 6 < openN p.bounds
  five : f = 5 → Sat p (List.range p.rules.length)
  sub : f = 0 → c.Sublist (List.range p.rules.length)
  un : f = 0 → ¬ Sat p c
  min : f = 0 → ∀ k, k ∈ c → Sat p (c.filter fun j => j != k)
  un0 : f = 0 → ¬ Sat p (List.range p.rules.length)
theorem core_spec {p : Pb} (hck : checkB p = true) : CoreR p (coreP p).1 (coreP p).2 := by
  have hp := OkP.of hck
  have h12 := hp.ok.r12
  unfold coreP
  rw [hck, if_pos rfl]
  rcases none_spec hp (lw := List.range p.rules.length) (fun k hk => List.mem_range.1 hk) (by simpa using h12) with ⟨n1, n2, n3⟩ | ⟨n1, n2⟩
  · rw [n2]
    exact ⟨.inr (.inr rfl), fun _ => rfl, fun _ => n3, fun h => (by cases h), fun h => (by cases h), fun h => (by cases h), fun h => (by cases h), fun h => (by cases h)⟩
  · rw [n1]
    simp only [bne_self_eq_false, Bool.false_eq_true, if_false]
    cases hq : (noneP p (List.range p.rules.length)).1 with
    | false =>
      simp only [Bool.not_false, if_true]
      have hs : Sat p (List.range p.rules.length) := Classical.byContradiction fun h => by rw [n2.2 h] at hq; cases hq
      exact ⟨.inr (.inl rfl), fun _ => rfl, fun h => (by cases h), fun _ => hs, fun h => (by cases h), fun h => (by cases h), fun h => (by cases h), fun h => (by cases h)⟩
    | true =>
      simp only [Bool.not_true, Bool.false_eq_true, if_false]
      have hns := n2.1 hq
      have h := coreL_spec hp p.rules.length [] (fun k hk => by simpa using hk) (by simpa using h12) (by simpa using List.nodup_range) (by simpa using hns) (fun k hk => by cases hk)
      rw [List.append_nil] at h
      rcases h with ⟨h1, h2, h3⟩ | ⟨h1, h2, h3, h4⟩
      · exact ⟨.inr (.inr h1), fun _ => h2, fun _ => h3, fun h => (by rw [h1] at h; cases h), fun h => (by rw [h1] at h; cases h), fun h => (by rw [h1] at h; cases h), fun h => (by rw [h1] at h; cases h), fun h => (by rw [h1] at h; cases h)⟩
      · exact ⟨.inl h1, fun h => absurd h1 h, fun h => (by rw [h1] at h; cases h), fun h => (by rw [h1] at h; cases h), fun _ => h2, fun _ => h3, fun _ => h4, fun _ => hns⟩
end Go.Proofs.YtgpgjpcebajofaaGreatDoor
