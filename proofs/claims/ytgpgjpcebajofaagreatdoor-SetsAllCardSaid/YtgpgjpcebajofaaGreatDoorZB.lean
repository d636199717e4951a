/- Slices as lists, in memory that no longer changes. Nothing of a program. -/
import Derived.Test.YtgpgjpcebajofaaGreatDoorZA
import Init
import Derived.Laws.Tables
import Derived.RecoverIn
import Derived.Laws.StructEq
import Derived.Laws.AppendOwn
import Derived.Lib.SliceRun
set_option linter.unusedVariables false
set_option linter.unusedSimpArgs false
set_option linter.all false
set_option linter.unusedVariables false
namespace Go.XC
open Go Go.RowKit
variable {r : Option Nat} {P : Program} {N : Nat} {Df : List Deferred}

/-- Slots told by E' are told so by E. -/
def incl : Env → Env → Prop
  | [], _ => True
  | (k, v) :: R, E => lk E k = some v ∧ incl R E
theorem incl.lk {E' E : Env} (h : incl E' E) : ∀ s v, lk E' s = some v → lk E s = some v := by
  refine lookup_of_all ?_
  induction E' with
  | nil => intro x hx; cases hx
  | cons y R ih =>
    obtain ⟨k, u⟩ := y
    intro x hx
    rcases List.mem_cons.1 hx with rfl | hx
    · exact h.1
    · exact ih h.2 x hx

def CellsAt (cs : Array Value) (o : Nat) (vs : Array Value) : Prop := ∀ j u, vs[j]? = some u → cs[o + j]? = some u
section
variable {E : Env} {Sb : World → Prop} {d : Option Tmp} {ty t : TypeId} {pos : String} {aft : Array Edge} {gd : Option (Nat × Bool)} {x : Operand} {g o : Nat} {cs : Array Value} {T : TypeId} {fr : Nat × Nat}
theorem EvS.loadH {n : Nat} [AggT P t n] {vs : Array Value} (hx : evE E x = some (.pointer (some ⟨g, o, none⟩))) (hb : Reads Sb g (.cells cs T fr)) (hv : CellsAt cs o vs) (hn : vs.size = n) :
    EvS P N ⟨d, .load t x, ty, pos, aft, gd⟩ E Sb (.agg vs) := EvS.loadN vs hx hb hn hv
end

/-- css: the cells of each element; n elements of sz cells lie at A. -/
structure Sl (m : Mem) (sz : Nat) (A : Option Addr) (css : List (List Value)) : Prop where
  len : ∀ cs, cs ∈ css → cs.length = sz
  big : css.length ≤ 140737488355328
  at_ : css ≠ [] → ∃ g o blk T fr, A = some ⟨g, o, none⟩ ∧ m.blk g = some (.cells blk T fr) ∧ ∀ i cs, css[i]? = some cs → ∀ j u, cs[j]? = some u → blk[o + i * sz + j]? = some u
theorem Sl.mono {m m' : Mem} {sz : Nat} {A : Option Addr} {css : List (List Value)} (h : Sl m sz A css) (hm : m.Le m') : Sl m' sz A css :=
  ⟨h.len, h.big, fun hn => let ⟨g, o, blk, T, fr, h1, h2, h3⟩ := h.at_ hn; ⟨g, o, blk, T, fr, h1, hm.blk _ _ h2, h3⟩⟩
theorem Sl.nil {m : Mem} {sz : Nat} {A : Option Addr} : Sl m sz A [] := ⟨fun _ h => (by cases h), by simp, fun h => absurd rfl h⟩
theorem Sl.get {m : Mem} {sz : Nat} {A : Option Addr} {css : List (List Value)} (h : Sl m sz A css) {k : Nat} {cs : List Value} (hk : css[k]? = some cs) :
    ∃ g o blk T fr, A = some ⟨g, o, none⟩ ∧ m.blk g = some (.cells blk T fr) ∧ CellsAt blk (o + (k : Int).toNat * sz) cs.toArray := by
  obtain ⟨g, o, blk, T, fr, h1, h2, h3⟩ := h.at_ (by rintro rfl; simp at hk)
  exact ⟨g, o, blk, T, fr, h1, h2, fun j u hj => h3 k cs hk j u (by simpa using hj)⟩
/-- An element of one cell. -/
theorem Sl.get1 {m : Mem} {A : Option Addr} {css : List (List Value)} (h : Sl m 1 A css) {k : Nat} {v : Value} (hk : css[k]? = some [v]) :
    ∃ g o blk T fr, A = some ⟨g, o, none⟩ ∧ m.blk g = some (.cells blk T fr) ∧ blk[o + (k : Int).toNat * 1]? = some v := by
  obtain ⟨g, o, blk, T, fr, h1, h2, h3⟩ := h.get hk
  exact ⟨g, o, blk, T, fr, h1, h2, by simpa using h3 0 v (by simp)⟩
theorem CellsAt.at {cs vs : Array Value} {o : Nat} (h : CellsAt cs o vs) {j : Nat} {u : Value} (hj : vs[j]? = some u) : cs[o + j]? = some u := h j u hj

/-- What an append of all of a slice reads. -/
theorem Sl.rdc {m : Mem} {sz : Nat} {A : Option Addr} {css : List (List Value)} (h : Sl m sz A css) {L : Own} : RdC (St m L) A css.flatten := by
  by_cases hn : css = []
  · subst hn; exact .inl rfl
  · obtain ⟨g, o, blk, T, fr, h1, h2, h3⟩ := h.at_ hn
    refine .inr ⟨g, o, blk, T, fr, h1, Reads.mem h2, ?_⟩
    have key : ∀ (l : List (List Value)) (b : Nat), (∀ cs, cs ∈ l → cs.length = sz) → (∀ i cs, l[i]? = some cs → ∀ j u, cs[j]? = some u → blk[b + i * sz + j]? = some u) → ∀ j u, l.flatten[j]? = some u → blk[b + j]? = some u := by
      intro l
      induction l with
      | nil => intro b _ _ j u hj; simp at hj
      | cons c l ih =>
        intro b hl hc j u hj
        have hcl := hl c List.mem_cons_self
        rw [List.flatten_cons] at hj
        by_cases hlt : j < c.length
        · rw [List.getElem?_append_left hlt] at hj
          simpa using hc 0 c rfl j u hj
        · rw [List.getElem?_append_right (by omega)] at hj
          have := ih (b + sz) (fun cs hcs => hl cs (List.mem_cons_of_mem _ hcs)) (fun i cs hi j u hj => by
            have := hc (i + 1) cs (by simpa using hi) j u hj
            rw [Nat.add_mul, Nat.one_mul] at this
            have e : b + sz + i * sz + j = b + (i * sz + sz) + j := by omega
            rw [e]; exact this) (j - c.length) u hj
          have e : b + sz + (j - c.length) = b + j := by omega
          rwa [e] at this
    exact key css o h.len h3
theorem flatten_length {css : List (List Value)} {sz : Nat} (h : ∀ cs, cs ∈ css → cs.length = sz) : css.flatten.length = css.length * sz := by
  induction css with
  | nil => simp
  | cons c l ih => rw [List.flatten_cons, List.length_append, h c List.mem_cons_self, ih fun x hx => h x (List.mem_cons_of_mem _ hx), List.length_cons, Nat.add_mul]; omega
/-- A row of the call's own, no longer written, as a slice of n elements. -/
theorem flatten_at {sz : Nat} : ∀ (css : List (List Value)) (i : Nat) (cs : List Value), (∀ c, c ∈ css → c.length = sz) → css[i]? = some cs → ∀ j u, cs[j]? = some u → css.flatten[i * sz + j]? = some u := by
  intro css
  induction css with
  | nil => intro i cs _ h; simp at h
  | cons c l ih =>
    intro i cs hl h j u hj
    have hc := hl c List.mem_cons_self
    rw [List.flatten_cons]
    cases i with
    | zero =>
      simp at h; subst h
      rw [Nat.zero_mul, Nat.zero_add, List.getElem?_append_left (List.getElem?_eq_some_iff.1 hj).1]; exact hj
    | succ i =>
      have := ih i cs (fun x hx => hl x (List.mem_cons_of_mem _ hx)) (by simpa using h) j u hj
      rw [List.getElem?_append_right (by rw [Nat.add_mul]; omega)]
      have e : (i + 1) * sz + j - c.length = i * sz + j := by rw [Nat.add_mul]; omega
      rw [e]; exact this
theorem OwnRow.freeze {m : Mem} {L L' : Own} {w : World} {v : Value} {T : TypeId} {sz n : Nat} {css : List (List Value)} {e : Option (Nat × Obj)} (h : OwnRow v T sz n css.flatten e) (hl : ∀ cs, cs ∈ css → cs.length = sz) (hn : css.length = n)
    (hbig : n ≤ 140737488355328) (hs : St m L w) (hr : Rep1 L e none L') : ∃ m' A c, m.Le m' ∧ v = .slice A n c ∧ Sl m' sz A css ∧ St m' L' w := by
  rcases h with ⟨rfl, h1, h2, rfl⟩ | ⟨g, cap, junk, rfl, h2, h3, h4, h5, rfl⟩
  · subst h1
    have hc : css = [] := List.eq_nil_of_length_eq_zero hn
    subst hc
    exact ⟨m, none, 0, Mem.Le.refl m, rfl, Sl.nil, hs.drop1 hr⟩
  · obtain ⟨hle, hs'⟩ := hs.freeze hr
    refine ⟨_, some ⟨g, 0, none⟩, cap, hle, rfl, ⟨hl, by omega, fun _ => ⟨g, 0, _, T, (0, 0), rfl, Mem.put_same _ _ _, fun i cs hi j u hj => ?_⟩⟩, hs'⟩
    have := flatten_at css i cs hl hi j u hj
    have hlt := (List.getElem?_eq_some_iff.1 this).1
    rw [Nat.zero_add]
    simp only [List.getElem?_toArray]
    rw [List.getElem?_append_left hlt]; exact this
/-- A block of the call's own, frozen, as a slice of its whole. -/
theorem freezeBlk {m : Mem} {L L' : Own} {w : World} {T : TypeId} {sz : Nat} {css : List (List Value)} {g : Nat} (hs : St m L w) (hr : Rep1 L (some (g, .cells css.flatten.toArray T (0, 0))) none L') (hl : ∀ cs, cs ∈ css → cs.length = sz)
    (hbig : css.length ≤ 140737488355328) : ∃ m', m.Le m' ∧ Sl m' sz (some ⟨g, 0, none⟩) css ∧ St m' L' w := by
  obtain ⟨hle, hs'⟩ := hs.freeze hr
  refine ⟨_, hle, ⟨hl, hbig, fun _ => ⟨g, 0, _, T, (0, 0), rfl, Mem.put_same _ _ _, fun i cs hi j u hj => ?_⟩⟩, hs'⟩
  have := flatten_at css i cs hl hi j u hj
  rw [Nat.zero_add]
  simpa using this

/-- Where the first element lies of which p holds, as Go tells it. -/
def idx {α : Type} (p : α → Bool) (l : List α) : Int := match l.findIdx? p with | some i => (i : Int) | none => -1
theorem idx_nonneg {α : Type} (p : α → Bool) (l : List α) : decide (idx p l ≥ 0) = l.any p := by
  unfold idx
  cases h : l.findIdx? p with
  | none =>
    have := List.findIdx?_eq_none_iff.1 h
    have : l.any p = false := by simpa using this
    rw [this]; rfl
  | some i =>
    have h2 := List.findIdx?_eq_some_iff_getElem.1 h
    obtain ⟨hi, hp, _⟩ := h2
    have : l.any p = true := List.any_eq_true.2 ⟨_, List.getElem_mem hi, hp⟩
    rw [this]; simp
theorem idx_found {α : Type} {p : α → Bool} {l : List α} {k : Nat} {x : α} (hk : l[k]? = some x) (hp : p x = true) (hno : ∀ j y, j < k → l[j]? = some y → p y = false) : idx p l = (k : Int) := by
  obtain ⟨hlt, rfl⟩ := List.getElem?_eq_some_iff.1 hk
  have : l.findIdx? p = some k := List.findIdx?_eq_some_iff_getElem.2 ⟨hlt, hp, fun j hj => by rw [hno j _ hj (List.getElem?_eq_getElem (by omega))]; simp⟩
  unfold idx; rw [this]
theorem idx_none {α : Type} {p : α → Bool} {l : List α} (hno : ∀ j y, j < l.length → l[j]? = some y → p y = false) : idx p l = -1 := by
  have : l.findIdx? p = none := List.findIdx?_eq_none_iff.2 fun x hx => by
    obtain ⟨j, hj, rfl⟩ := List.mem_iff_getElem.1 hx
    simpa using hno j _ hj (List.getElem?_eq_getElem hj)
  unfold idx; rw [this]
end Go.XC
/- A range over a function. Nothing of a program. -/
set_option linter.unusedVariables false
namespace Go.XC
open Go Go.RowKit
variable {r : Option Nat} {P : Program} {N : Nat} {Df : List Deferred}

/-- What a round does for whoever iterates: J: the caller's state when so many have come; Jx: the caller has said 'no more'. -/
def RoundOk (P : Program) (l : Nat) (Li : Own) (J Jx : List Value → Mem → Own → Prop) (pre : List Value) (x : Value) : Prop :=
  ∀ m Lc w, J pre m Lc → St m (Li ++ Lc) w → ∃ fn tmps assign body, (Instr.yield l #[x]).run P w = .ok (.round l fn tmps assign body) w ∧
    RoundIn (G none) 0 P l fn tmps assign body w (fun e w' => ∃ b, e = .returned (.bool b) ∧ ∃ m' Lc', m.Le m' ∧ St m' (Li ++ Lc') w' ∧ ((b = true ∧ J (pre ++ [x]) m' Lc') ∨ (b = false ∧ Jx (pre ++ [x]) m' Lc')))
/-- An iterator's contract: it gives the elements xs, in order, or stops where a round has said 'no more'. -/
def IterOk (P : Program) (f : FuncId) (cap : Array Value) (m0 : Mem) (Li0 : Own) (xs : List Value) : Prop :=
  ∀ (l : Nat) (J Jx : List Value → Mem → Own → Prop), (∀ Li pre x rest, xs = pre ++ x :: rest → RoundOk P l Li J Jx pre x) → ∀ m Lc w, m0.Le m → J [] m Lc → St m (Li0 ++ Lc) w →
    Calls P f (#[.func (.yield l) #[] #[]] ++ cap) w (fun e w' => (∃ v, e = .returned v) ∧ ∃ m' Li' Lc', m.Le m' ∧ St m' (Li' ++ Lc') w' ∧ (J xs m' Lc' ∨ ∃ pre, pre <+: xs ∧ Jx pre m' Lc'))

theorem EvC.yield {Li : Own} {J Jx : List Value → Mem → Own → Prop} {pre : List Value} {v : Value} {E : Env} {d : Option Tmp} {ty : TypeId} {pos : String} {aft : Array Edge} {gd : Option (Nat × Bool)} {fo x : Operand} {ats : Array TypeId} {l : Nat} {m : Mem} {Lc : Own}
    (hfo : evE E fo = some (.func (.yield l) #[] #[])) (hx : evE E x = some v) (hR : RoundOk P l Li J Jx pre v) (hJ : J pre m Lc) :
    EvC none P N ⟨d, .call { callee := .value fo, args := #[x], argTypes := ats }, ty, pos, aft, gd⟩ E (St m (Li ++ Lc))
      (fun u w => ∃ p : { p : Bool × Mem × Own // m.Le p.2.1 ∧ ((p.1 = true ∧ J (pre ++ [v]) p.2.1 p.2.2) ∨ (p.1 = false ∧ Jx (pre ++ [v]) p.2.1 p.2.2)) }, u = .bool p.1.1 ∧ St p.1.2.1 (Li ++ p.1.2.2) w) := fun a w ha hs => by
  obtain ⟨fn, tmps, assign, body, h1, h2⟩ := hR m Lc w hJ hs
  have hres : (execOp a.eval ⟨d, .call { callee := .value fo, args := #[x], argTypes := ats }, ty, pos, aft, gd⟩).run P w = .ok (.round l fn tmps assign body) w := by
    simp only [execOp, resolve, ha.eval hfo, Deferred.ofValue, Sem.run_bind, Sem.run_pure, Result.andThen_ok, invoke]
    have : (#[] ++ Array.map a.eval #[x] ++ #[] : Array Value) = #[v] := by simp [ha.eval hx]
    simpa [this, ha.eval hx] using h1
  rw [hres]
  show RoundIn _ _ _ _ _ _ _ _ _ _
  refine h2.mono ?_
  rintro e w' ⟨b, rfl, m', Lc', h3, h4, h5⟩
  exact ⟨_, rfl, ⟨(b, m', Lc'), h3, h5⟩, rfl, h4⟩

/-- What is asked at the end of a round's body. -/
def RQ (P : Program) (l gl gd : Nat) (rec : LoopState → Option Code → Loop) (Li : Own) (m0 : Mem) (J : Mem → Own → Prop) (Jx : Code → Mem → Own → Prop) : Exit → Act → World → Prop
  | .normal, _, w => ∃ m Lc, m0.Le m ∧ J m Lc ∧ St m (Lc ++ (some (gd, .deferred (some [])) :: some (gl, .loop (rec .busy none)) :: Li)) w
  | .ret, _, w => ∃ m Lc, m0.Le m ∧ Jx .ret m Lc ∧ St m (Lc ++ (some (gd, .deferred (some [])) :: some (gl, .loop (rec .busy none)) :: Li)) w
  | .exit id, _, w => ∃ m Lc, m0.Le m ∧ Jx (.exit id) m Lc ∧ St m (Lc ++ (some (gd, .deferred (some [])) :: some (gl, .loop (rec .busy none)) :: Li)) w
  | .goto t, _, w => ∃ m Lc, m0.Le m ∧ Jx (.goto t) m Lc ∧ St m (Lc ++ (some (gd, .deferred (some [])) :: some (gl, .loop (rec .busy none)) :: Li)) w
  | .panic _, _, _ => False
  | .outgrown, _, _ => False

theorem put_heap_same {w : World} {g : Nat} {o o' : Obj} (h : w.heap[g]? = some o) : ({ w with heap := w.heap.setIfInBounds g o' } : World).heap[g]? = some o' := by
  have := heap_lt h
  simp [this]
theorem put_heap_other {w : World} {g k : Nat} {o' : Obj} (h : k ≠ g) : ({ w with heap := w.heap.setIfInBounds g o' } : World).heap[k]? = w.heap[k]? := by
  simp [Array.getElem?_setIfInBounds_ne (Ne.symm h)]
theorem St.setObj {m : Mem} {L L' : Own} {w : World} {g : Nat} {o o' : Obj} (h : St m L w) (hu : Upd L g o o' L') : St m L' { w with heap := w.heap.setIfInBounds g o' } :=
  h.upd hu rfl rfl rfl (by simp) (put_heap_same (h.get hu.mem)) (fun k _ hne => put_heap_other hne)
theorem run_getLoop {w : World} {l : Nat} {rr : Loop} (h : w.heap[l]? = some (.loop rr)) : (Instr.getLoop l).run P w = .ok rr w := by
  simp [Instr.getLoop, getObj, Sem.run, h]
variable {E : Env} {S : World → Prop} {Q : Exit → Act → World → Prop}
def markD (gs : List Nat) : List Deferred := gs.map fun g => { target := .collected g, args := #[] }
def markL (gs : List Nat) : Own := gs.map fun g => some (g, .deferred (some []))
/-- Behind the assignment to the loop's variable. -/
def AsgK (P : Program) (N l gd : Nat) (rec : LoopState → Option Code → Loop) (Li : Own) (m0 : Mem) (body : Code) (J : Mem → Own → Prop) (Jx : Code → Mem → Own → Prop) : Act → World → Prop := fun a w =>
  ∃ m Lc E, m0.Le m ∧ Rep N E a ∧ a.defers = [] ∧ St m (Lc ++ (some (gd, .deferred (some [])) :: some (l, .loop (rec .ready none)) :: Li)) w ∧
    TC (some l) P N [] body E (St m (Lc ++ (some (gd, .deferred (some [])) :: some (l, .loop (rec .busy none)) :: Li))) (RQ P l l gd rec Li m0 J Jx)
theorem Post.asg {l gd : Nat} {rec : LoopState → Option Code → Loop} {Li : Own} {m0 m : Mem} {body : Code} {J : Mem → Own → Prop} {Jx : Code → Mem → Own → Prop} {Lc : Own} {QF : Exit → Act → World → Prop} (hm : m0.Le m)
    (h : TC (some l) P N [] body E (St m (Lc ++ (some (gd, .deferred (some [])) :: some (l, .loop (rec .busy none)) :: Li))) (RQ P l l gd rec Li m0 J Jx)) :
    Post N [] (Exit.then (AsgK P N l gd rec Li m0 body J Jx) QF) .normal E (St m (Lc ++ (some (gd, .deferred (some [])) :: some (l, .loop (rec .ready none)) :: Li))) := fun a w ha hd hs => ⟨m, Lc, E, hm, ha, hd, hs, h⟩
theorem Post.rq {l gl gd : Nat} {rec : LoopState → Option Code → Loop} {Li : Own} {m0 m : Mem} {J : Mem → Own → Prop} {Jx : Code → Mem → Own → Prop} {Df : List Deferred} (Lc : Own) (hm : m0.Le m) (hJ : J m Lc) :
    Post N Df (RQ P l gl gd rec Li m0 J Jx) .normal E (St m (Lc ++ (some (gd, .deferred (some [])) :: some (gl, .loop (rec .busy none)) :: Li))) := fun a w ha hd hs => ⟨m, Lc, hm, hJ, hs⟩
theorem Post.rq_ret {l gl gd : Nat} {rec : LoopState → Option Code → Loop} {Li : Own} {m0 m : Mem} {J : Mem → Own → Prop} {Jx : Code → Mem → Own → Prop} {Df : List Deferred} (Lc : Own) (hm : m0.Le m) (hJ : Jx .ret m Lc) :
    Post N Df (RQ P l gl gd rec Li m0 J Jx) .ret E (St m (Lc ++ (some (gd, .deferred (some [])) :: some (gl, .loop (rec .busy none)) :: Li))) := fun a w ha hd hs => ⟨m, Lc, hm, hJ, hs⟩
theorem Post.rq_exit {l gl gd id : Nat} {rec : LoopState → Option Code → Loop} {Li : Own} {m0 m : Mem} {J : Mem → Own → Prop} {Jx : Code → Mem → Own → Prop} {Df : List Deferred} (Lc : Own) (hm : m0.Le m) (hJ : Jx (.exit id) m Lc) :
    Post N Df (RQ P l gl gd rec Li m0 J Jx) (.exit id) E (St m (Lc ++ (some (gd, .deferred (some [])) :: some (gl, .loop (rec .busy none)) :: Li))) := fun a w ha hd hs => ⟨m, Lc, hm, hJ, hs⟩

theorem perm_frame (Li Lc : Own) (x y : Option (Nat × Obj)) : (Li ++ (Lc ++ [x, y])).Perm (Lc ++ (x :: y :: Li)) := by
  refine List.perm_append_comm.trans ?_
  rw [List.append_assoc]; exact List.Perm.refl _
theorem Upd.append_right {L L' : Own} {g : Nat} {o o' : Obj} (R : Own) (h : Upd L g o o' L') : Upd (R ++ L) g o o' (R ++ L') := by
  induction R with
  | nil => exact h
  | cons x R ih => exact Upd.tail ih

/-- A range over a function, in a function's own activation. -/
theorem TC.rangeFunc {g : Operand} {p : Tmp} {assign body : Code} {f : FuncId} {cap : Array Value} {m0 : Mem} {Li0 Lc0 : Own} {xs : List Value} [hf : EntersF P f] (hg : evE E g = some (.func (.func f) #[] cap)) (hpN : dOk N p = true)
    (hit : IterOk P f cap m0 Li0 xs) (J : List Value → Mem → Own → Prop) (Jx : Code → List Value → Mem → Own → Prop) (h0 : J [] m0 Lc0)
    (hbody : ∀ (l gd : Nat) (rec : LoopState → Option Code → Loop) (pre : List Value) (x : Value) (rest : List Value) (m : Mem) (Lc Li : Own), xs = pre ++ x :: rest → J pre m Lc →
      TC (some l) P N [] assign ((p, x) :: E) (St m (Lc ++ (some (gd, .deferred (some [])) :: some (l, .loop (rec .ready none)) :: Li)))
        (Exit.then (AsgK P N l gd rec Li m body (J (pre ++ [x])) (fun c => Jx c (pre ++ [x]))) (fun _ _ _ => False)))
    (hdone : ∀ gd m Lc, J xs m Lc → Post N ({ target := .collected gd, args := #[] } :: Df) Q .normal E (St m (some (gd, .deferred (some [])) :: Lc)))
    (hstop : ∀ gd c pre m Lc, pre <+: xs → Jx c pre m Lc → TC none P N ({ target := .collected gd, args := #[] } :: Df) c E (St m (some (gd, .deferred (some [])) :: Lc)) Q) :
    TC none P N Df (.rangeFunc g #[p] assign body) E (St m0 (Lc0 ++ Li0)) Q := by
  intro a w ha hd hs
  refine wpIn_rangeFunc (F := G none) ?_
  intro fn _
  obtain ⟨rec, hrec⟩ : ∃ rec : LoopState → Option Code → Loop, rec = fun st pe => { state := st, pending := pe, fn, tmps := a.tmps, params := #[p], assign, body, defers := w.heap.size } := ⟨_, rfl⟩
  obtain ⟨W1, hW1⟩ : ∃ W1, (w.alloc (.deferred (some []))).alloc (.loop (rec .ready none)) = W1 := ⟨_, rfl⟩
  have hs1 : St m0 (some (w.heap.size + 1, .loop (rec .ready none)) :: some (w.heap.size, .deferred (some [])) :: (Lc0 ++ Li0)) W1 := by
    rw [← hW1]
    have h1 := (hs.alloc (.deferred (some []))).alloc (.loop (rec .ready none))
    rw [World.size_alloc] at h1
    exact h1
  refine ⟨w.heap.size + 1, [{ target := .collected w.heap.size, args := #[] }], W1, { target := .fn (.func f) cap, args := #[.func (.yield (w.heap.size + 1)) #[] #[]] }, W1, f,
    #[.func (.yield (w.heap.size + 1)) #[] #[]] ++ cap, W1, ?_, ?_, ?_, ?_, fun h => by simp [G] at h, ?_⟩
  · rw [← hW1, hrec]; exact run_enterLoop_outer _ _ _ _ _
  · simp only [resolve, ha.eval hg]
    simp [go_sem, Deferred.ofValue]
  · exact fun _ _ => trivial
  · simp only [invoke]; exact hf.h _ _
  generalize hl : w.heap.size + 1 = l at *
  generalize hgd : w.heap.size = gd at *
  refine callsG.2 ?_
  refine (hit l (fun pre m Lc => ∃ Lc', J pre m Lc' ∧ Lc = Lc' ++ [some (gd, .deferred (some [])), some (l, .loop (rec .ready none))])
    (fun pre m Lc => ∃ c Lc', Jx c pre m Lc' ∧ Lc = Lc' ++ [some (gd, .deferred (some [])), some (l, .loop (rec .done (some c)))]) ?_ m0 _ W1 (Mem.Le.refl _) ⟨Lc0, h0, rfl⟩ ?_).mono ?_
  · -- one round
    rintro Li pre x rest hxs m Lc w2 ⟨Lc', hJ, rfl⟩ hs2
    have hs2' := hs2.perm (perm_frame Li Lc' _ _)
    have hlo : w2.heap[l]? = some (.loop (rec .ready none)) := hs2'.get (by simp)
    have hy := run_yield (P := P) (args := #[x]) hlo (by rw [hrec]; rfl)
    rw [hrec] at hy
    refine ⟨fn, _, assign, body, hy, roundIn_of_wpIn (F := G none) (n := 0) trivial ?_⟩
    have hR : Rep N ((p, x) :: E) { tmps := (#[p].zip #[x]).foldl (fun t (p, v) => t.setIfInBounds p v) a.tmps, defers := [] } := by
      have h1 := ha.put (d := some p) (by simp only [dstOk, decide_eq_true_eq]; exact Nat.le_of_ble_eq_true hpN) x
      exact ⟨by simpa [Act.put] using h1.size, fun s v hv => by simpa [Act.put] using h1.at_ s v hv⟩
    refine wpIn_mono (hbody l gd rec pre x rest m Lc' Li hxs hJ _ w2 hR rfl hs2') ?_
    rintro e a1 w3 hq
    cases e with
    | normal =>
      obtain ⟨m3, Lc3, E3, hm3, hr3, hd3, hs3, hT⟩ := hq
      have hlo3 : w3.heap[l]? = some (.loop (rec .ready none)) := hs3.get (by simp)
      refine ⟨_, run_beginRound hlo3 (by rw [hrec]), ?_⟩
      have hs4 : St m3 (Lc3 ++ (some (gd, .deferred (some [])) :: some (l, .loop (rec .busy none)) :: Li)) (w3.putObj l (.loop { rec .ready none with state := .busy })) := by
        have := hs3.setObj (Upd.append_right Lc3 (Upd.tail (Upd.head (o' := .loop (rec .busy none)))))
        rw [hrec] at this ⊢; exact this
      refine wpIn_mono (hT a1 _ hr3 hd3 hs4) ?_
      -- the round's end
      have fin : ∀ (jump : Option Code) (m5 : Mem) (Lc5 : Own) (w5 : World), St m5 (Lc5 ++ (some (gd, .deferred (some [])) :: some (l, .loop (rec .busy none)) :: Li)) w5 →
          ∃ w6, (Instr.endRound l jump).run P w5 = .ok (.bool jump.isNone) w6 ∧ St m5 (Li ++ (Lc5 ++ [some (gd, .deferred (some [])), some (l, .loop (rec (if jump.isNone then .ready else .done) jump))])) w6 := by
        intro jump m5 Lc5 w5 hs5
        have hlo5 : w5.heap[l]? = some (.loop (rec .busy none)) := hs5.get (by simp)
        have hr := run_endRound (P := P) jump hlo5
        refine ⟨_, hr, ?_⟩
        have := hs5.setObj (Upd.append_right Lc5 (Upd.tail (Upd.head (o' := .loop (rec (if jump.isNone then .ready else .done) jump)))))
        have := this.perm (perm_frame Li Lc5 _ _).symm
        rw [hrec] at this ⊢; exact this
      rintro e a6 w6 hq
      cases e with
      | normal =>
        obtain ⟨m6, Lc6, hm6, hJ6, hs6⟩ := hq
        obtain ⟨w7, hr7, hs7⟩ := fin none m6 Lc6 w6 hs6
        exact ⟨_, w7, hr7, true, rfl, m6, _, hm6, hs7, .inl ⟨rfl, Lc6, hJ6, rfl⟩⟩
      | ret =>
        obtain ⟨m6, Lc6, hm6, hJ6, hs6⟩ := hq
        obtain ⟨w7, hr7, hs7⟩ := fin (some .ret) m6 Lc6 w6 hs6
        exact ⟨_, w7, hr7, false, rfl, m6, _, hm6, hs7, .inr ⟨rfl, .ret, Lc6, hJ6, rfl⟩⟩
      | exit id =>
        obtain ⟨m6, Lc6, hm6, hJ6, hs6⟩ := hq
        obtain ⟨w7, hr7, hs7⟩ := fin (some (.exit id)) m6 Lc6 w6 hs6
        exact ⟨_, w7, hr7, false, rfl, m6, _, hm6, hs7, .inr ⟨rfl, .exit id, Lc6, hJ6, rfl⟩⟩
      | goto t =>
        obtain ⟨m6, Lc6, hm6, hJ6, hs6⟩ := hq
        obtain ⟨w7, hr7, hs7⟩ := fin (some (.goto t)) m6 Lc6 w6 hs6
        exact ⟨_, w7, hr7, false, rfl, m6, _, hm6, hs7, .inr ⟨rfl, .goto t, Lc6, hJ6, rfl⟩⟩
      | panic ch => exact hq.elim
      | outgrown => exact hq.elim
    | exit id => exact hq.elim
    | goto t => exact hq.elim
    | ret => exact hq.elim
    | panic ch => exact hq.elim
    | outgrown => exact hq.elim
  · -- at the start
    refine hs1.perm ?_
    have h1 : (some (l, Obj.loop (rec .ready none)) :: some (gd, .deferred (some [])) :: (Lc0 ++ Li0)).Perm (some (gd, .deferred (some [])) :: some (l, .loop (rec .ready none)) :: (Lc0 ++ Li0)) := List.Perm.swap _ _ _
    refine h1.trans ?_
    refine List.Perm.trans ?_ (perm_frame Li0 Lc0 (some (gd, .deferred (some []))) (some (l, .loop (rec .ready none)))).symm
    have h2 : ((some (gd, Obj.deferred (some [])) :: some (l, .loop (rec .ready none)) :: Lc0) ++ Li0).Perm ((Lc0 ++ [some (gd, .deferred (some [])), some (l, .loop (rec .ready none))]) ++ Li0) := List.Perm.append_right _ (show ([some (gd, Obj.deferred (some [])), some (l, .loop (rec .ready none))] ++ Lc0).Perm _ from List.perm_append_comm)
    simpa [List.append_assoc] using h2
  · -- behind the iterator
    rintro e w2 ⟨⟨v, rfl⟩, m', Li', Lc', hm', hs2, hJ | ⟨pre, hpre, hJ⟩⟩
    · obtain ⟨Lc, hJ, rfl⟩ := hJ
      have hs2' := hs2.perm (perm_frame Li' Lc _ _)
      have hlo : w2.heap[l]? = some (.loop (rec .ready none)) := hs2'.get (by simp)
      have hpend : (rec .ready none).pending = none := by rw [hrec]
      refine ⟨none, _, (run_endLoop (P := P) hlo (by rw [hrec]; simp)).trans (congrArg (fun p => Result.ok p _) hpend), ?_⟩
      refine hdone gd m' Lc hJ _ _ ⟨ha.size, ha.at_⟩ (by simp [hd]) ?_
      have h3 := hs2'.setObj (Upd.append_right Lc (Upd.tail (Upd.head (o' := .loop { rec .ready none with state := .exhausted }))))
      have h4 := h3.perm (List.perm_middle)
      exact h4.sublist (List.Sublist.cons_cons _ (List.sublist_append_left Lc _))
    · obtain ⟨c, Lc, hJ, rfl⟩ := hJ
      have hs2' := hs2.perm (perm_frame Li' Lc _ _)
      have hlo : w2.heap[l]? = some (.loop (rec .done (some c))) := hs2'.get (by simp)
      have hpend : (rec .done (some c)).pending = some c := by rw [hrec]
      refine ⟨some c, _, (run_endLoop (P := P) hlo (by rw [hrec]; simp)).trans (congrArg (fun p => Result.ok p _) hpend), ?_⟩
      refine hstop gd c pre m' Lc hpre hJ _ _ ⟨ha.size, ha.at_⟩ (by simp [hd]) ?_
      have h3 := hs2'.setObj (Upd.append_right Lc (Upd.tail (Upd.head (o' := .loop { rec .done (some c) with state := .exhausted }))))
      have h4 := h3.perm (List.perm_middle)
      exact h4.sublist (List.Sublist.cons_cons _ (List.sublist_append_left Lc _))

/-! ### The end of a function that holds such loops -/
theorem leaves_marks {fn : Func} {tmps : Array Value} {R : Ending → World → Prop} : ∀ (gs : List Nat) (m : Mem) (L : Own) (w : World), St m (markL gs ++ L) w → (∀ w', St m L w' → ∃ v, (results fn tmps).run P w' = .ok v w' ∧ R (.returned v) w') →
    LeavesInM (G none) 0 P fn tmps R (markD gs) .returning w := by
  intro gs
  induction gs with
  | nil => intro m L w hs h; obtain ⟨v, h1, h2⟩ := h w hs; exact ⟨v, h1, h2⟩
  | cons g gs ih =>
    intro m L w hs h
    have hg : w.heap[g]? = some (.deferred (some [])) := hs.get (by simp [markL])
    refine ⟨by simp, .inl ⟨g, _, rfl, run_takeDeferred hg, ih m L _ ?_ h⟩⟩
    have h1 := St.setObj (o' := .deferred none) hs (L' := some (g, .deferred none) :: (markL gs ++ L)) Upd.head
    exact h1.tail
/-- A return where loops over functions have left marks. -/
theorem Post.body_ret_m {fn : Func} {R : Ending → World → Prop} {gs : List Nat} {m : Mem} {L : Own} (v : Value) (hr : ResL (N := N) P fn E (St m L) v) (hR : ∀ w, St m L w → R (.returned v) w) :
    Post N (markD gs) (bodyPostM (G none) 0 P fn R) .ret E (St m (markL gs ++ L)) := fun a w ha hd hs => by
  show LeavesInM (G none) 0 P fn a.tmps R a.defers .returning w
  rw [hd]
  exact leaves_marks gs m L w hs fun w' hs' => ⟨v, hr a w' ha hs', hR w' hs'⟩
theorem Post.body_end_m {fn : Func} {R : Ending → World → Prop} {gs : List Nat} {m : Mem} {L : Own} (v : Value) (hr : ResL (N := N) P fn E (St m L) v) (hR : ∀ w, St m L w → R (.returned v) w) :
    Post N (markD gs) (bodyPostM (G none) 0 P fn R) .normal E (St m (markL gs ++ L)) := fun a w ha hd hs => by
  show LeavesInM (G none) 0 P fn a.tmps R a.defers .returning w
  rw [hd]
  exact leaves_marks gs m L w hs fun w' hs' => ⟨v, hr a w' ha hs', hR w' hs'⟩
end Go.XC
/- Further operations: bools, conversions, maps of whole numbers, slices of arrays, copy, literals. Nothing of a program. -/
set_option linter.unusedVariables false
namespace Go.XC
open Go Go.RowKit
variable {r : Option Nat} {P : Program} {N : Nat} {Df : List Deferred}
class BoolT (P : Program) (t : TypeId) : Prop where
  h : P.underlying t = some .bool
class IntT (P : Program) (t : TypeId) (k : outParam IntKind) : Prop where
  h : P.underlying t = some (.int k)
class MapT (P : Program) (t : TypeId) (k e : outParam TypeId) : Prop where
  h : P.underlying t = some (.map k e)
section
variable {E : Env} {Sb : World → Prop} {m : Mem} {L L' : Own} {d : Option Tmp} {ty t : TypeId} {pos : String} {aft : Array Edge} {gd : Option (Nat × Bool)} {x y z : Operand} {v u : Value} {g o n : Nat}
  {cs : Array Value} {T : TypeId} {fr : Nat × Nat}
theorem run_eqB [h : BoolT P t] (a b : Bool) (w : World) : (Go.binOp .eql t (.bool a) (.bool b)).run P w = .ok (.bool (a == b)) w := by
  have e : ∀ d, (Op.equalIn (d + 1) t (.bool a) (.bool b)).run P w = .ok (a == b) w := fun d => by simp [Op.equalIn, run_underlying h.h]
  have e2 : (Op.equal t (.bool a) (.bool b)).run P w = .ok (a == b) w := e 9999
  simp only [Go.binOp, Sem.run_bind, e2, Result.andThen_ok, Sem.run_pure]
theorem EvS.eqB [BoolT P t] {a b : Bool} {yT : TypeId} (hx : evE E x = some (.bool a)) (hy : evE E y = some (.bool b)) : EvS P N ⟨d, .binOp .eql t x y yT, ty, pos, aft, gd⟩ E Sb (.bool (a == b)) := EvS.binOp hx hy rfl (run_eqB a b)
theorem EvS.neB [h : BoolT P t] {a b : Bool} {yT : TypeId} (hx : evE E x = some (.bool a)) (hy : evE E y = some (.bool b)) : EvS P N ⟨d, .binOp .neq t x y yT, ty, pos, aft, gd⟩ E Sb (.bool (a != b)) := EvS.binOp hx hy rfl fun w => by
  have e : ∀ d, (Op.equalIn (d + 1) t (.bool a) (.bool b)).run P w = .ok (a == b) w := fun d => by simp [Op.equalIn, run_underlying h.h]
  have e2 : (Op.equal t (.bool a) (.bool b)).run P w = .ok (a == b) w := e 9999
  simp only [Go.binOp, Sem.run_bind, e2, Result.andThen_ok, Sem.run_pure]
  cases a <;> cases b <;> rfl
theorem EvS.convI {s : TypeId} {k kd : IntKind} {a : Int} [hs : IntT P s k] [hd : IntT P t kd] (hx : evE E x = some (.int k a)) : EvS P N ⟨d, .convert s t x, ty, pos, aft, gd⟩ E Sb (.int kd (kd.wrap a)) := fun aa w ha _ => by
  simp [execOp, ha.eval hx, Go.convert, run_underlying hs.h, run_underlying hd.h, Conv.intToInt]
theorem EvS.neg64 {p : BitVec 64} (hx : evE E x = some v) (hb : U64 v p) : EvS P N ⟨d, .unOp .neg t x, ty, pos, aft, gd⟩ E Sb (.int .u64 ((-p).toNat : Int)) := by
  have hb' : v = _ := hb
  subst hb'
  refine EvS.unOp_ hx fun w => ?_
  have h : IntKind.u64.wrap (0 - (p.toNat : Int)) = ((-p).toNat : Int) := by
    rw [wrap_u64, BitVec.toNat_neg]
    have := p.isLt
    omega
  simp only [Op.unary, Op.intArith, h]; rfl
theorem EvS.mul64 {p q : BitVec 64} {b c : Value} {yT : TypeId} (hx : evE E x = some b) (hy : evE E y = some c) (hb : U64 b p) (hc : U64 c q) : EvS P N ⟨d, .binOp .mul t x y yT, ty, pos, aft, gd⟩ E Sb (.int .u64 ((p * q).toNat : Int)) := by
  have hb' : b = _ := hb
  have hc' : c = _ := hc
  subst hb' hc'
  refine EvS.binOp hx hy rfl fun w => ?_
  have h : IntKind.u64.wrap ((p.toNat : Int) * (q.toNat : Int)) = ((p * q).toNat : Int) := by
    rw [wrap_u64, BitVec.toNat_mul]
    simp
  simp [Go.binOp, Op.intArith, h]
/-- Shifts and 'and' of int, not below 0. -/
theorem EvS.shrI {k : IntKind} {a : Nat} {i : Int} {yT : TypeId} (hx : evE E x = some (.int .i64 (a : Int))) (hy : evE E y = some (.int k i)) (hi : 0 ≤ i ∧ i ≤ 64) : EvS P N ⟨d, .binOp .shr t x y yT, ty, pos, aft, gd⟩ E Sb (.int .i64 ((a >>> i.toNat : Nat) : Int)) := by
  refine EvS.binOp hx hy rfl fun w => ?_
  have hni : ¬ i < 0 := by omega
  have h : Int.fdiv (a : Int) (2 ^ (min i.toNat IntKind.i64.bits)) = ((a >>> i.toNat : Nat) : Int) := by
    rw [show IntKind.i64.bits = 64 from rfl, Nat.min_eq_left (by omega), Nat.shiftRight_eq_div_pow]
    rw [Int.fdiv_eq_ediv_of_nonneg _ (Int.pow_nonneg (by decide))]
    simp
  simp [Go.binOp, Op.shift, hni, h]
theorem EvS.shlI {k : IntKind} {a : Nat} {i : Nat} {yT : TypeId} (hx : evE E x = some (.int .i64 (a : Int))) (hy : evE E y = some (.int k (i : Int))) (hi : i ≤ 62) (hs : a * 2 ^ i < 9223372036854775808) : EvS P N ⟨d, .binOp .shl t x y yT, ty, pos, aft, gd⟩ E Sb (.int .i64 ((a * 2 ^ i : Nat) : Int)) := by
  refine EvS.binOp hx hy rfl fun w => ?_
  have hni : ¬ ((i : Int)) < 0 := by omega
  have h : IntKind.i64.wrap ((a : Int) * 2 ^ (min (i : Int).toNat IntKind.i64.bits)) = ((a * 2 ^ i : Nat) : Int) := by
    rw [show IntKind.i64.bits = 64 from rfl, Int.toNat_natCast, Nat.min_eq_left (by omega)]
    have e : (a : Int) * 2 ^ i = ((a * 2 ^ i : Nat) : Int) := by simp
    rw [e]
    exact wrap_i64_id (by omega)
  simp only [Go.binOp, Op.shift, hni, if_false, h]; rfl
theorem EvS.andI {a b : Nat} {yT : TypeId} (hx : evE E x = some (.int .i64 (a : Int))) (hy : evE E y = some (.int .i64 (b : Int))) (ha : a < 9223372036854775808) (hb : b < 9223372036854775808) : EvS P N ⟨d, .binOp .and t x y yT, ty, pos, aft, gd⟩ E Sb (.int .i64 ((a &&& b : Nat) : Int)) := by
  refine EvS.binOp hx hy rfl fun w => ?_
  have hx : a &&& b < 2 ^ 63 := Nat.and_lt_two_pow _ (by omega)
  have ofi : ∀ c : Nat, c < 9223372036854775808 → (BitVec.ofInt 64 (c : Int)).toNat = c := fun c hc => by
    rw [BitVec.ofInt_natCast, BitVec.toNat_ofNat]; exact Nat.mod_eq_of_lt (by omega)
  have h : IntKind.i64.wrap ((BitVec.ofInt 64 (a : Int) &&& BitVec.ofInt 64 (b : Int)).toNat : Int) = ((a &&& b : Nat) : Int) := by
    rw [BitVec.toNat_and, ofi a ha, ofi b hb]
    exact wrap_i64_id (by omega)
  simp only [Go.binOp, Op.intBits, ne_eq, not_true_eq_false, if_false]
  show Result.ok (Value.int .i64 (IntKind.i64.wrap ((BitVec.ofInt 64 (a : Int) &&& BitVec.ofInt 64 (b : Int)).toNat : Int))) w = _
  rw [h]

/-! ### Maps of whole numbers that the call makes -/
theorem EvC.makeMap : EvC r P N ⟨d, .makeMap t none, ty, pos, aft, gd⟩ E (St m L) (fun u w => ∃ g : Nat, u = .map (some g) ∧ St m (some (g, .map #[] 0) :: L) w) := fun a w ha hs => by
  have h : (Instr.makeMap t none).run P w = .ok (.map (some w.heap.size)) (w.alloc (.map #[] 0)) := rfl
  simp only [execOp, Option.map_none, Sem.run_bind, h, Result.andThen_ok, Sem.run_pure, CRes]
  exact ⟨_, rfl, hs.alloc _⟩
theorem run_checkKey_int {kt : TypeId} {kk : IntKind} [h : IntT P kt kk] (b : Bool) (j : IntKind) (i : Int) (w : World) : (Instr.checkKey b 10000 kt (.int j i)).run P w = .ok () w := by
  have e : ∀ n, (Instr.checkKey b (n + 1) kt (.int j i)).run P w = .ok () w := fun n => by simp [Instr.checkKey, run_underlying h.h]
  exact e 9999
theorem EvC.insertI {kt et : TypeId} {kk : IntKind} {k : Int} {es : Array MapEntry} {c : Nat} [hm : MapT P t kt et] [hk : IntT P kt kk] (hx : evE E x = some (.map (some g))) (hy : evE E y = some (.int kk k)) (hz : evE E z = some v)
    (hno : Instr.findNow (.int kk) (.int kk k) es.toList 0 = some none) (hu : Upd L g (.map es c) (.map (es.push { key := .int kk k, val := v, born := c }) (c + 1)) L') :
    EvC r P N ⟨d, .insert t x y z, ty, pos, aft, gd⟩ E (St m L) (fun u w => ∃ _ : Unit, u = undef ∧ St m L' w) := fun a w ha hs => by
  have hg := hs.get hu.mem
  have h : (Instr.mapUpdate t (.map (some g)) (.int kk k) v).run P w = .ok () { w with heap := w.heap.setIfInBounds g (.map (es.push { key := .int kk k, val := v, born := c }) (c + 1)) } := by
    have hgo : (getObj g).run P w = .ok (.map es c) w := by simp [getObj, Sem.run, hg]
    have hso : (setObj g (.map (es.push { key := .int kk k, val := v, born := c }) (c + 1))).run P w = .ok () { w with heap := w.heap.setIfInBounds g (.map (es.push { key := .int kk k, val := v, born := c }) (c + 1)) } := by simp [setObj, Sem.run, hg]
    unfold Instr.mapUpdate
    simp only [Sem.run_bind, run_underlying hm.h, Result.andThen_ok, hgo, run_checkKey_int, Instr.findKey, run_underlying hk.h, hno, Sem.run_pure, hso]
  simp only [execOp, ha.eval hx, ha.eval hy, ha.eval hz, Sem.run_bind, h, Result.andThen_ok, Sem.run_pure]
  exact ⟨(), rfl, hs.setObj hu⟩
theorem EvS.lookupI {kt et : TypeId} {kk : IntKind} {k : Int} {es : Array MapEntry} {c i : Nat} [hm : MapT P t kt et] [hk : IntT P kt kk] (hx : evE E x = some (.map (some g))) (hy : evE E y = some (.int kk k)) (hb : Reads Sb g (.map es c))
    (hf : Instr.findNow (.int kk) (.int kk k) es.toList 0 = some (some (i, v))) : EvS P N ⟨d, .lookup t x y false, ty, pos, aft, gd⟩ E Sb v := fun a w ha hs => by
  have hgo : (getObj g).run P w = .ok (.map es c) w := by simp [getObj, Sem.run, hb w hs]
  have h : (Instr.lookup t (.map (some g)) (.int kk k) false).run P w = .ok v w := by
    unfold Instr.lookup
    simp only [Sem.run_bind, run_underlying hm.h, Result.andThen_ok, hgo, run_checkKey_int, Instr.findKey, run_underlying hk.h, hf, Sem.run_pure]
    rfl
  simp only [execOp, ha.eval hx, ha.eval hy, Sem.run_bind, h, Result.andThen_ok, Sem.run_pure]

/-! ### Slices of an array; copy -/
theorem EvS.sliceA {len sz : Nat} {e : TypeId} [h : ArrayT P t len e sz] (hx : evE E x = some (.pointer (some ⟨g, o, none⟩))) : EvS P N ⟨d, .slice t x none none none, ty, pos, aft, gd⟩ E Sb (.slice (some ⟨g, o, none⟩) len len) := fun a w ha _ => by
  simp only [execOp, ha.eval hx, Option.map_none, Instr.sliceAt, Instr.sureAddr, Instr.sliceBounds, Sem.run_bind, run_underlying h.h, Result.andThen_ok, Sem.run_pure, run_sizeOf_of h.s, Nat.sub_zero, Nat.zero_mul]
  split <;> rfl
theorem EvS.sliceAhi {len sz : Nat} {e : TypeId} {k : IntKind} {i : Nat} [h : ArrayT P t len e sz] (hx : evE E x = some (.pointer (some ⟨g, o, none⟩))) (hy : evE E y = some (.int k (i : Int))) (hi : i ≤ len) :
    EvS P N ⟨d, .slice t x none (some y) none, ty, pos, aft, gd⟩ E Sb (.slice (some ⟨g, o, none⟩) i len) := fun a w ha _ => by
  have hb : (0 : Int) ≤ (i : Int) ∧ (i : Int) ≤ (len : Int) := by omega
  simp only [execOp, ha.eval hx, ha.eval hy, Option.map_none, Option.map_some, Instr.sliceAt, Instr.sureAddr, Instr.sliceBounds, Instr.sliceBound, asIntOf, Sem.run_bind, run_underlying h.h, Result.andThen_ok, Sem.run_pure, run_sizeOf_of h.s,
    if_pos hb, Nat.sub_zero, Nat.zero_mul, Int.toNat_natCast]
  split <;> rfl
theorem St.splice {w : World} {vs : Array Value} (h : St m L w) (hu : Upd L g (.cells cs T (0, 0)) (.cells (spl cs o vs) T (0, 0)) L') (ho : o + vs.size ≤ cs.size) (h1 : ∀ v, v ∈ vs.toList → v.oneCell' = true) :
    ∃ w', (storeCells ⟨g, o, none⟩ vs.toList).run P w = .ok () w' ∧ St m L' w' := by
  have hr := run_storeCells_at (P := P) g o T vs.toList 0 cs w (h.get hu.mem) (by simp; omega) h1
  exact ⟨_, hr, h.setRow hu⟩
/-- copy into a block of the call's own, no longer than it. -/
theorem EvC.copy {e : TypeId} {sz n k c c' : Nat} {A : Option Addr} {news : List Value} {t2 : TypeId} [hT : SliceT P t e sz] (hx : evE E x = some (.slice (some ⟨g, o, none⟩) n c)) (hy : evE E y = some (.slice A k c')) (hkn : k ≤ n)
    (hA : RdC (St m L) A news) (hl : news.length = k * sz) (h1 : ∀ u, u ∈ news → u.oneCell' = true) (hsz : 0 < sz) (hu : Upd L g (.cells cs T (0, 0)) (.cells (spl cs o news.toArray) T (0, 0)) L') (ho : o + k * sz ≤ cs.size) :
    EvC r P N ⟨d, .call { callee := .builtin .copy, args := #[x, y], argTypes := #[t, t2] }, ty, pos, aft, gd⟩ E (St m L) (fun u w => ∃ _ : Unit, u = .int .i64 (k : Int) ∧ St m L' w) := fun a w ha hs => by
  obtain ⟨w', hw1, hw2⟩ := St.splice (P := P) hs hu (by simpa [hl] using ho) (by simpa using h1)
  simp only [List.toList_toArray] at hw1
  have hfirst : (Builtin.firstCells sz k (.slice A k c')).run P w = .ok news.toArray w := by
    rcases A with _ | ad
    · have hn : news = [] := by
        rcases hA with h | ⟨_, _, _, _, _, h, _⟩
        · exact h
        · cases h
      subst hn
      rfl
    · have hcells : ∀ j u, news[j]? = some u → w.cell? (ad.add j) = some u := by
        intro j u hu
        rcases hA with h | ⟨g, o, cs, T', fr, h, hb, hc⟩
        · subst h; simp at hu
        · injection h with h
          subst h
          rw [Addr.add_lit, cell_of (hb w hs)]
          exact hc j u hu
      have := run_loadCells_list (P := P) w ad news hcells
      rw [hl] at this
      exact this
  have h : (Builtin.copy_ #[t, t2] ty #[.slice (some ⟨g, o, none⟩) n c, .slice A k c']).run P w = .ok (.int .i64 (k : Int)) w' := by
    unfold Builtin.copy_
    have hmin : Nat.min k n = k := Nat.min_eq_left hkn
    simp [Sem.run_bind, run_underlying hT.h, Result.andThen_ok, Builtin.lenOf, run_sizeOf_of hT.s, hmin, hfirst, hw1, goInt]
  have hres : (execOp a.eval ⟨d, .call { callee := .builtin .copy, args := #[x, y], argTypes := #[t, t2] }, ty, pos, aft, gd⟩).run P w = .ok (.value (.int .i64 (k : Int))) w' := by
    simp only [execOp, resolve, invoke, builtin, Sem.run_bind, Sem.run_pure, Result.andThen_ok, List.map_toArray, List.map_cons, List.map_nil, ha.eval hx, ha.eval hy, h]
  rw [hres]
  exact ⟨(), rfl, hw2⟩
end
end Go.XC
/- Layer 16 in plain Lean: bounds, rules, and what the program asks of them. No program. -/
namespace Go.SetsP
abbrev BV := BitVec 64
structure Bd where
  lo : BV
  can : BV
  deriving DecidableEq, Inhabited
structure Rl where
  kind : Int
  vars : List Int
  low : Int
  high : Int
  deriving DecidableEq, Inhabited
structure Pb where
  bounds : List Bd
  rules : List Rl
def has (s : BV) (e : Nat) : Bool := s.getLsbD e
def bit (e : Nat) : BV := 1#64 <<< e
def small (s : BV) : Prop := s.toNat < 4096
def clashB (x : Bd) : Bool := (x.lo &&& ~~~x.can) != 0#64
def nth (b : List Bd) (v : Int) : Bd := b.getD v.toNat ⟨0, 0⟩
def ofB (b : List Bd) (r : Rl) : List Bd := r.vars.map (nth b)
def okAt (e mask : Nat) (x : Bd) (i : Nat) : Bool := if mask.testBit i then has x.can e else !has x.lo e
def allowedB (l : List Bd) (e mask : Nat) : Bool := l.zipIdx.all fun x => okAt e mask x.1 x.2
def asksB (k : Int) (a b c : Bool) : Bool :=
  if k = 1 then !a || b else if k = 2 then !a || !b else if k = 3 then c == (a || b) else if k = 4 then c == (a && b) else c == (a && !b)
def pop (s : BV) : Nat := (List.range 12).countP (has s)
def varsZ (k : Int) : Int := if k = 6 then 1 else if k = 1 ∨ k = 2 then 2 else if k = 3 ∨ k = 4 ∨ k = 5 then 3 else 0
def wayB (l : List Bd) (k : Int) (e mask : Nat) : Bool := allowedB l e mask && asksB k (mask.testBit 0) (mask.testBit 1) (mask.testBit 2)
def elemB (l : List Bd) (k : Int) (e : Nat) : Bool := (List.range (2 ^ l.length)).any (wayB l k e)
def possB (b : List Bd) (r : Rl) : Bool :=
  if (ofB b r).any clashB then false
  else if r.kind = 6 then decide ((pop ((ofB b r).headD ⟨0, 0⟩).lo : Int) ≤ r.high) && decide ((pop ((ofB b r).headD ⟨0, 0⟩).can : Int) ≥ r.low)
  else (List.range 12).all (elemB (ofB b r) r.kind)
def setB (x : Bd) (e : Nat) (i : Bool) : Bd := if i then ⟨x.lo ||| bit e, x.can⟩ else ⟨x.lo, x.can &&& ~~~bit e⟩
def withB (b : List Bd) (v : Int) (e : Nat) (i : Bool) : List Bd := b.set v.toNat (setB (nth b v) e i)
def folB (b : List Bd) (r : Rl) (v : Int) (e : Nat) (i : Bool) : Bool := !possB (withB b v e (!i)) r
/-- The elements of a set, in order. -/
def elems (s : BV) : List Nat := (List.range 64).filter (has s)
def okR (r : Rl) : Prop := (∀ v, v ∈ r.vars → 0 ≤ v ∧ v < 8) ∧ 1 ≤ r.kind ∧ r.kind ≤ 6 ∧ (r.vars.length : Int) = varsZ r.kind
def okB (b : List Bd) : Prop := b.length = 8 ∧ ∀ x, x ∈ b → small x.lo ∧ small x.can

theorem and_bit_eq (x : BV) (e : Nat) (he : e < 64) : ((x &&& bit e) == 0#64) = !has x e := by
  unfold bit has
  rw [Bool.eq_iff_iff]
  simp only [beq_iff_eq, Bool.not_eq_true']
  constructor
  · intro h
    have := congrArg (fun y => BitVec.getLsbD y e) h
    simpa [BitVec.getLsbD_and, BitVec.getLsbD_shiftLeft, he] using this
  · intro h
    apply BitVec.eq_of_getLsbD_eq
    intro i hi
    simp only [BitVec.getLsbD_and, BitVec.getLsbD_shiftLeft, BitVec.getLsbD_zero]
    by_cases e1 : i = e
    · subst e1; rw [h]; simp
    · have : (1#64).getLsbD (i - e) = false ∨ i < e := by
        by_cases h2 : i < e
        · exact .inr h2
        · left
          have : i - e ≠ 0 := by omega
          simp [BitVec.getLsbD_one, this]
      rcases this with h2 | h2 <;> simp [h2]
theorem and_bit_ne (x : BV) (e : Nat) (he : e < 64) : ((x &&& bit e) != 0#64) = has x e := by
  have := and_bit_eq x e he
  simp only [bne, this, Bool.not_not]
theorem zipIdx_all (e mask : Nat) (l : List Bd) : allowedB l e mask = true ↔ ∀ i x, l[i]? = some x → okAt e mask x i = true := by
  unfold allowedB
  rw [List.all_eq_true]
  constructor
  · intro h i x hx
    exact h (x, i) (List.mem_zipIdx_iff_getElem?.2 (by simpa using hx))
  · rintro h ⟨x, i⟩ hx
    exact h i x (by simpa using List.mem_zipIdx_iff_getElem?.1 hx)
theorem has_setB_lo (x : Bd) (e k : Nat) (he : e < 64) (hk : k < 64) : has (setB x e true).lo k = (has x.lo k || (k == e)) := by
  simp only [setB, if_true, has, bit, BitVec.getLsbD_or, BitVec.getLsbD_shiftLeft]
  by_cases h : k = e
  · subst h; simp [hk]
  · have : (k == e) = false := by simpa using h
    rw [this]
    by_cases h2 : k < e
    · simp [h2]
    · have : k - e ≠ 0 := by omega
      simp [BitVec.getLsbD_one, this]
theorem has_setB_can (x : Bd) (e k : Nat) (he : e < 64) (hk : k < 64) : has (setB x e false).can k = (has x.can k && !(k == e)) := by
  simp only [setB, Bool.false_eq_true, if_false, has, bit, BitVec.getLsbD_and, BitVec.getLsbD_not, BitVec.getLsbD_shiftLeft]
  by_cases h : k = e
  · subst h; simp [hk]
  · have : (k == e) = false := by simpa using h
    rw [this]
    by_cases h2 : k < e
    · simp [h2, hk]
    · have : k - e ≠ 0 := by omega
      simp [BitVec.getLsbD_one, this, hk]
end Go.SetsP
/- Layer 16: how bounds, rules and problems lie in memory. -/
set_option linter.unusedVariables false
namespace Go.XC
open Go Go.RowKit Go.SetsP
def u64v (x : BV) : Value := .int .u64 (x.toNat : Int)
def bdC (x : Bd) : List Value := [.int .u64 (x.lo.toNat : Int), .int .u64 (x.can.toNat : Int)]
def bdV (x : Bd) : Value := .agg #[.int .u64 (x.lo.toNat : Int), .int .u64 (x.can.toNat : Int)]
def bArr (b : List Bd) : Array Value := (b.flatMap bdC).toArray
def ints (l : List Int) : List (List Value) := l.map fun x => [.int .i64 x]
theorem ints_length (l : List Int) : (ints l).length = l.length := by simp [ints]
def bds (l : List Bd) : List (List Value) := l.map bdC
theorem bds_length (l : List Bd) : (bds l).length = l.length := by simp [bds]
theorem bds_len (l : List Bd) : ∀ cs, cs ∈ bds l → cs.length = 2 := by
  intro cs h
  obtain ⟨x, _, rfl⟩ := List.mem_map.1 h
  rfl
theorem ints_len (l : List Int) : ∀ cs, cs ∈ ints l → cs.length = 1 := by
  intro cs h
  obtain ⟨x, _, rfl⟩ := List.mem_map.1 h
  rfl
theorem bds_flatten (l : List Bd) : (bds l).flatten = l.flatMap bdC := by simp [bds, List.flatMap]
theorem ints_flatten (l : List Int) : (ints l).flatten = l.map (.int .i64) := by induction l <;> simp_all [ints]
theorem bdC_oneCell (l : List Bd) : ∀ v, v ∈ l.flatMap bdC → v.oneCell' = true := by
  intro v h
  obtain ⟨x, _, hx⟩ := List.mem_flatMap.1 h
  simp [bdC] at hx
  rcases hx with rfl | rfl <;> rfl
theorem bArr_size (b : List Bd) : (bArr b).size = b.length * 2 := by
  unfold bArr
  simp only [List.size_toArray]
  induction b with
  | nil => rfl
  | cons x l ih => rw [List.flatMap_cons, List.length_append, ih, List.length_cons]; simp [bdC]; omega
theorem bArr_at {b : List Bd} {k : Nat} {x : Bd} (h : b[k]? = some x) (o : Nat) (ho : o = k * 2) : CellsAt (bArr b) o #[.int .u64 (x.lo.toNat : Int), .int .u64 (x.can.toNat : Int)] := by
  subst ho
  intro j u hj
  have h1 := flatten_at (bds b) k (bdC x) (bds_len b) (by simp [bds, h]) j u (by simpa [bdC] using hj)
  rw [bds_flatten] at h1
  simpa [bArr] using h1
theorem bArr_lo {b : List Bd} {k : Nat} {x : Bd} (h : b[k]? = some x) : (bArr b)[k * 2]? = some (.int .u64 (x.lo.toNat : Int)) := by simpa using bArr_at h (k * 2) rfl 0 _ rfl
theorem bArr_can {b : List Bd} {k : Nat} {x : Bd} (h : b[k]? = some x) : (bArr b)[k * 2 + 1]? = some (.int .u64 (x.can.toNat : Int)) := bArr_at h (k * 2) rfl 1 _ rfl
theorem bArr_get (b : List Bd) : ∀ i, (bArr b)[i]? = (b[i / 2]?).map fun x => .int .u64 (((if i % 2 = 0 then x.lo else x.can).toNat : Nat) : Int) := by
  intro i
  cases h : b[i / 2]? with
  | none =>
    rw [Option.map_none, Array.getElem?_eq_none_iff, bArr_size]
    rw [List.getElem?_eq_none_iff] at h
    omega
  | some x =>
    rcases Nat.mod_two_eq_zero_or_one i with hi | hi
    · have := bArr_lo h
      have e : i / 2 * 2 = i := by omega
      rw [e] at this
      simp [this, hi]
    · have := bArr_can h
      have e : i / 2 * 2 + 1 = i := by omega
      rw [e] at this
      simp [this, hi]
theorem bArr_set_lo {b : List Bd} {k : Nat} {x : Bd} (h : b[k]? = some x) (s : BV) : (bArr b).setIfInBounds (k * 2) (.int .u64 (s.toNat : Int)) = bArr (b.set k ⟨s, x.can⟩) := by
  have hk : k < b.length := (List.getElem?_eq_some_iff.1 h).1
  apply Array.ext_getElem?
  intro i
  rw [bArr_get]
  by_cases e : i = k * 2
  · subst e
    have : k * 2 / 2 = k := by omega
    simp [this, bArr_size, hk, Nat.mul_mod_left]
  · rw [Array.getElem?_setIfInBounds_ne (Ne.symm e), bArr_get]
    by_cases e2 : i / 2 = k
    · have : i % 2 = 1 := by omega
      rw [e2, h, List.getElem?_set_self hk]
      simp [this]
    · rw [List.getElem?_set_ne (Ne.symm e2)]
theorem bArr_set_can {b : List Bd} {k : Nat} {x : Bd} (h : b[k]? = some x) (s : BV) : (bArr b).setIfInBounds (k * 2 + 1) (.int .u64 (s.toNat : Int)) = bArr (b.set k ⟨x.lo, s⟩) := by
  have hk : k < b.length := (List.getElem?_eq_some_iff.1 h).1
  apply Array.ext_getElem?
  intro i
  rw [bArr_get]
  by_cases e : i = k * 2 + 1
  · subst e
    have e1 : (k * 2 + 1) / 2 = k := by omega
    have e2 : (k * 2 + 1) % 2 = 1 := by omega
    have e3 : k * 2 + 1 < b.length * 2 := by omega
    simp [e1, e2, e3, bArr_size, hk]
  · rw [Array.getElem?_setIfInBounds_ne (Ne.symm e), bArr_get]
    by_cases e2 : i / 2 = k
    · have : i % 2 = 0 := by omega
      rw [e2, h, List.getElem?_set_self hk]
      simp [this]
    · rw [List.getElem?_set_ne (Ne.symm e2)]
theorem bArr_one (b : List Bd) : ∀ v, v ∈ (bArr b).toList → v.oneCell' = true := by simpa [bArr] using bdC_oneCell b

/-- A rule's cells. -/
def RlC (m : Mem) (r : Rl) (cs : List Value) : Prop := ∃ A c, cs = [.int .i64 r.kind, .slice A r.vars.length c, .int .i64 r.low, .int .i64 r.high] ∧ Sl m 1 A (ints r.vars) ∧ r.vars.length ≤ c
theorem RlC.mono {m m' : Mem} {r : Rl} {cs : List Value} (h : RlC m r cs) (hm : m.Le m') : RlC m' r cs := let ⟨A, c, h1, h2, h3⟩ := h; ⟨A, c, h1, h2.mono hm, h3⟩
/-- A slice of rules. -/
structure RlS (m : Mem) (A : Option Addr) (rs : List Rl) : Prop where
  mk' :: (ex : ∃ css, Sl m 4 A css ∧ css.length = rs.length ∧ ∀ (i : Nat) (r : Rl) (cs : List Value), rs[i]? = some r → css[i]? = some cs → RlC m r cs)
theorem RlS.mono {m m' : Mem} {A : Option Addr} {rs : List Rl} (h : RlS m A rs) (hm : m.Le m') : RlS m' A rs := by
  obtain ⟨css, h1, h2, h3⟩ := h.ex
  exact ⟨css, h1.mono hm, h2, fun i r cs a b => (h3 i r cs a b).mono hm⟩
theorem RlS.get {m : Mem} {A : Option Addr} {rs : List Rl} (h : RlS m A rs) {k : Nat} {r : Rl} (hk : rs[k]? = some r) :
    ∃ g o blk T fr B c, A = some ⟨g, o, none⟩ ∧ m.blk g = some (.cells blk T fr) ∧ CellsAt blk (o + (k : Int).toNat * 4) #[.int .i64 r.kind, .slice B r.vars.length c, .int .i64 r.low, .int .i64 r.high] ∧ Sl m 1 B (ints r.vars) ∧ r.vars.length ≤ c := by
  obtain ⟨css, h1, h2, h3⟩ := h.ex
  have hlt : k < rs.length := (List.getElem?_eq_some_iff.1 hk).1
  have hcs : css[k]? = some css[k] := List.getElem?_eq_getElem (by omega)
  obtain ⟨B, c, e, hB⟩ := h3 k r _ hk hcs
  obtain ⟨g, o, blk, T, fr, g1, g2, g3⟩ := h1.get hcs
  rw [e] at g3
  exact ⟨g, o, blk, T, fr, B, c, g1, g2, g3, hB⟩
theorem RlS.big {m : Mem} {A : Option Addr} {rs : List Rl} (h : RlS m A rs) : rs.length ≤ 140737488355328 := by
  obtain ⟨css, h1, h2, _⟩ := h.ex
  rw [← h2]; exact h1.big
/-- A problem's two cells. -/
def PbC (m : Mem) (p : Pb) (cs : Array Value) : Prop := ∃ A c B k, cs = #[.slice A p.bounds.length c, .slice B p.rules.length k] ∧ Sl m 2 A (bds p.bounds) ∧ RlS m B p.rules
theorem PbC.mono {m m' : Mem} {p : Pb} {cs : Array Value} (h : PbC m p cs) (hm : m.Le m') : PbC m' p cs := let ⟨A, c, B, k, h1, h2, h3⟩ := h; ⟨A, c, B, k, h1, h2.mono hm, h3.mono hm⟩
end Go.XC
/- Calls with a fixed answer; changes of the own blocks' order. -/
set_option linter.unusedVariables false
namespace Go.XC
open Go Go.RowKit
variable {r : Option Nat} {P : Program} {N : Nat} {Df : List Deferred}
section
variable {E : Env} {m : Mem} {L L' : Own} {d : Option Tmp} {ty : TypeId} {pos : String} {aft : Array Edge} {gd : Option (Nat × Bool)} {f : FuncId} {fo : Operand} {cap : Array Value} {args : Array Operand} {ats : Array TypeId} {vs : List Value} {v : Value}
/-- A function, no closure: a fixed answer, nothing changed. -/
theorem EvC.callV [hf : EntersF P f] (hfo : evE E fo = some (.func (.func f) #[] #[])) (hargs : evArgs E args.toList = some vs)
    (hc : ∀ w, St m L w → Calls P f vs.toArray w (fun e w' => e = .returned v ∧ St m L w')) :
    EvC r P N ⟨d, .call { callee := .value fo, args := args, argTypes := ats }, ty, pos, aft, gd⟩ E (St m L) (fun u w => ∃ _ : Unit, u = v ∧ St m L w) :=
  EvC.call (val := fun _ => v) (S := fun _ => St m L) (S' := fun _ => St m L) hfo hargs fun w hs => by
    have := hc w hs
    simp only [Array.empty_append, Array.append_empty]
    exact this.mono fun e w' h => ⟨(), h.1, h.2⟩
/-- The answer hangs on what the call makes. -/
theorem EvC.callX {X : Type} {val : X → Value} {S' : X → World → Prop} [hf : EntersF P f] (hfo : evE E fo = some (.func (.func f) #[] #[])) (hargs : evArgs E args.toList = some vs)
    (hc : ∀ w, St m L w → Calls P f vs.toArray w (fun e w' => ∃ x, e = .returned (val x) ∧ S' x w')) :
    EvC r P N ⟨d, .call { callee := .value fo, args := args, argTypes := ats }, ty, pos, aft, gd⟩ E (St m L) (fun u w => ∃ x, u = val x ∧ S' x w) :=
  EvC.call (S := S') hfo hargs fun w hs => by
    simp only [Array.empty_append, Array.append_empty]
    exact hc w hs
/-- A closure with captures. -/
theorem EvC.callC [hf : EntersF P f] (hfo : evE E fo = some (.func (.func f) #[] cap)) (hargs : evArgs E args.toList = some vs)
    (hc : ∀ w, St m L w → Calls P f (vs.toArray ++ cap) w (fun e w' => e = .returned v ∧ St m L w')) :
    EvC r P N ⟨d, .call { callee := .value fo, args := args, argTypes := ats }, ty, pos, aft, gd⟩ E (St m L) (fun u w => ∃ _ : Unit, u = v ∧ St m L w) :=
  EvC.call (val := fun _ => v) (S := fun _ => St m L) (S' := fun _ => St m L) hfo hargs fun w hs => by
    have := hc w hs
    simp only [Array.empty_append]
    exact this.mono fun e w' h => ⟨(), h.1, h.2⟩
end
section
variable {E : Env} {S S' : World → Prop} {Q : Exit → Act → World → Prop} {c : Code} {ops : Array Oper} {rest : List Oper} {e : Exit} {m : Mem} {L L' : Own}
theorem TC.turn (hS : ∀ w, S w → S' w) (h : TC r P N Df c E S' Q) : TC r P N Df c E S Q := fun a w ha hd hs => h a w ha hd (hS w hs)
theorem TR.turn (hS : ∀ w, S w → S' w) (h : TR r P N Df ops rest E S' Q) : TR r P N Df ops rest E S Q := fun a w ha hd hs => h a w ha hd (hS w hs)
theorem Post.turn (hS : ∀ w, S w → S' w) (h : Post N Df Q e E S') : Post N Df Q e E S := fun a w ha hd hs => h a w ha hd (hS w hs)
theorem TC.dropL {x : Option (Nat × Obj)} (h : TC r P N Df c E (St m L) Q) : TC r P N Df c E (St m (x :: L)) Q := TC.turn (fun _ h => h.tail) h
end
theorem wrap_i64 {a : Nat} (h : a < 9223372036854775808) : IntKind.i64.wrap (a : Int) = (a : Int) := wrap_i64_id (by omega)
section
variable {E : Env} {Sb : World → Prop} {d : Option Tmp} {ty t : TypeId} {pos : String} {aft : Array Edge} {gd : Option (Nat × Bool)} {x : Operand}
theorem EvS.convN {s : TypeId} {k : IntKind} {a : Nat} [hs : IntT P s k] [hd : IntT P t .i64] (hx : evE E x = some (.int k (a : Int))) (h : a < 9223372036854775808) : EvS P N ⟨d, .convert s t x, ty, pos, aft, gd⟩ E Sb (.int .i64 (a : Int)) := by
  have := EvS.convI (P := P) (N := N) (s := s) (t := t) (d := d) (ty := ty) (pos := pos) (aft := aft) (gd := gd) (Sb := Sb) (kd := .i64) hx
  rwa [wrap_i64 h] at this
end
section
variable {E : Env} {m : Mem} {L : Own} {d : Option Tmp} {ty t : TypeId} {pos : String} {aft : Array Edge} {gd : Option (Nat × Bool)} {x : Operand} {v : Value}
theorem EvC.buildA {e : TypeId} {sz : Nat} {zz : Value} {vs : Array Value} [hT : SliceT P t e sz] [hz : ZeroV P e zz] (hx : evE E x = some (.agg vs)) (hv : vs.size = sz) (hzz : zz.cells.size = sz) (hsz : 0 < sz) (hsm : sz ≤ 1000) :
    EvC r P N ⟨d, .buildSlice t 1 #[(0, x)], ty, pos, aft, gd⟩ E (St m L) (fun u w => ∃ g : Nat, u = .slice (some ⟨g, 0, none⟩) 1 1 ∧ St m (some (g, .cells vs e) :: L) w) := EvC.buildSlice1 hx hv hzz hsz hsm
theorem EvC.build1 {e : TypeId} {zz : Value} [hT : SliceT P t e 1] [hz : ZeroV P e zz] (hx : evE E x = some v) (hv : v.oneCell' = true) (hzz : zz.cells.size = 1) :
    EvC r P N ⟨d, .buildSlice t 1 #[(0, x)], ty, pos, aft, gd⟩ E (St m L) (fun u w => ∃ g : Nat, u = .slice (some ⟨g, 0, none⟩) 1 1 ∧ St m (some (g, .cells #[v] e) :: L) w) := by
  have h := EvC.buildSlice1 (r := r) (P := P) (N := N) (m := m) (L := L) (d := d) (ty := ty) (pos := pos) (aft := aft) (gd := gd) (t := t) hx (by rw [cells_one hv]; rfl) hzz (by omega) (by omega)
  rwa [cells_one hv] at h
end
theorem Wd.offU {E : Env} {ops : Array Oper} {o : Oper} {j : Nat} {t : Tmp} {want : Bool} (h : o.guard = some (j, want)) (ht : (ops[j]?).bind (·.dst) = some t) (hl : lk E t = some undef) : Wd N ops o E false := fun a ha => by
  simp only [Region.wanted, h, yielded, ht, Option.bind_some, ha.at_ t _ hl]
  rfl
theorem St.addNone {m : Mem} {L : Own} {w : World} (h : St m L w) : St m (none :: L) w := h.sub (fun x hx => by simpa using hx) (by simpa [keys] using h.nodup)
theorem St.weaken {m m' : Mem} {L : Own} {w : World} (h : St m' L w) (hm : m.Le m') : St m L w :=
  ⟨h.os.trans hm.os, h.tape.trans hm.tape, h.output.trans hm.output, by rw [← hm.size]; exact h.size, fun g o e => h.blk g o (hm.blk g o e), fun g o hx => ⟨(h.own g o hx).1, by
    cases e : m.blk g with
    | none => rfl
    | some u => have := hm.blk g u e; rw [(h.own g o hx).2] at this; cases this⟩, h.nodup⟩
/-- A row that grows. -/
structure Gr where
  k : Nat
  v : Value
  e : Option (Nat × Obj)
theorem EvC.callXS {r : Option Nat} {P : Program} {N : Nat} {E : Env} {S0 : World → Prop} {d : Option Tmp} {ty : TypeId} {pos : String} {aft : Array Edge} {gd : Option (Nat × Bool)} {f : FuncId} {fo : Operand} {args : Array Operand} {ats : Array TypeId} {vs : List Value} {X : Type} {val : X → Value} {S' : X → World → Prop}
    [hf : EntersF P f] (hfo : evE E fo = some (.func (.func f) #[] #[])) (hargs : evArgs E args.toList = some vs)
    (hc : ∀ w, S0 w → Calls P f vs.toArray w (fun e w' => ∃ x, e = .returned (val x) ∧ S' x w')) :
    EvC r P N ⟨d, .call { callee := .value fo, args := args, argTypes := ats }, ty, pos, aft, gd⟩ E S0 (fun u w => ∃ x, u = val x ∧ S' x w) :=
  EvC.call (S := S') hfo hargs fun w hs => by
    simp only [Array.empty_append, Array.append_empty]
    exact hc w hs
end Go.XC
/- Structs out of parts. Nothing of a program. -/
set_option linter.unusedVariables false
namespace Go.XC
open Go Go.RowKit
variable {r : Option Nat} {P : Program} {N : Nat} {Df : List Deferred}
section
variable {E : Env} {Sb : World → Prop} {d : Option Tmp} {ty t : TypeId} {pos : String} {aft : Array Edge} {gd : Option (Nat × Bool)}
def evVals (E : Env) : List (Nat × Operand) → Option (List Value)
  | [] => some []
  | p :: l => match evE E p.2, evVals E l with
    | some v, some vs => some (v :: vs)
    | _, _ => none
theorem evVals_map (l : List (Nat × Operand)) : ∀ vs, evVals E l = some vs → l.map (fun x => (x.1, evE E x.2)) = ((l.map Prod.fst).zip vs).map (fun x => (x.1, some x.2)) := by
  induction l with
  | nil => intro vs h; simp [evVals] at h; subst h; rfl
  | cons p l ih =>
    intro vs h
    unfold evVals at h
    split at h
    · rename_i v us h1 h2
      cases h
      simp [h1, ih us h2]
    · cases h
theorem EvS.buildC {parts : Array (Nat × Operand)} {vs : List Value} {cells : Array Value} (hv : evVals E parts.toList = some vs) (hb : P.built t ((parts.toList.map Prod.fst).zip vs) = some cells) :
    EvS P N ⟨d, .build t parts, ty, pos, aft, gd⟩ E Sb (.agg cells) :=
  EvS.build (us := ((parts.toList.map Prod.fst).zip vs).toArray) (by
    apply Array.ext'
    simpa using evVals_map parts.toList vs hv) fun w => run_build w t _ cells hb
/-- All fields, each of one cell. -/
theorem EvS.buildV {parts : Array (Nat × Operand)} {vs : List Value} (hv : evVals E parts.toList = some vs) (hb : P.built t ((parts.toList.map Prod.fst).zip vs) = some vs.toArray) :
    EvS P N ⟨d, .build t parts, ty, pos, aft, gd⟩ E Sb (.agg vs.toArray) := EvS.buildC hv hb
theorem EvS.sliceHi {sz n c k g o : Nat} {e : TypeId} {kk : IntKind} {A : Option Addr} {x y : Operand} [h : SliceT P t e sz] (hx : evE E x = some (.slice A n c)) (hy : evE E y = some (.int kk (k : Int))) (hA : A = some ⟨g, o, none⟩) (hk : k ≤ c) :
    EvS P N ⟨d, .slice t x none (some y) none, ty, pos, aft, gd⟩ E Sb (.slice A k c) := fun a w ha _ => by
  subst hA
  have hb : (0 : Int) ≤ (k : Int) ∧ (k : Int) ≤ (c : Int) := by omega
  simp only [execOp, ha.eval hx, ha.eval hy, Option.map_none, Option.map_some, Instr.sliceAt, Instr.slice, Instr.sliceBounds, Instr.sliceBound, asIntOf, Sem.run_bind, run_underlying h.h, Result.andThen_ok, Sem.run_pure, run_sizeOf_of h.s, if_pos hb, Nat.sub_zero, Nat.zero_mul, Int.toNat_natCast]
  split <;> simp [Addr.add_lit]
end
end Go.XC
/- nil slices, slices in place, interfaces; panics and deferred calls; loops whose defers grow. Nothing of a program. -/
set_option linter.unusedVariables false
namespace Go.XC
open Go Go.RowKit
variable {r : Option Nat} {P : Program} {N : Nat} {Df : List Deferred}
section
variable {E : Env} {Sb : World → Prop} {m : Mem} {L L' : Own} {d : Option Tmp} {ty t : TypeId} {pos : String} {aft : Array Edge} {gd : Option (Nat × Bool)} {x y z q : Operand} {g o n c : Nat} {A : Option Addr} {v : Value} {cs : Array Value}
theorem EvS.eqNilS {e sz yT : Nat} [h : SliceT P t e sz] (hx : evE E x = some (.slice A n c)) (hy : evE E y = some (.slice none 0 0)) : EvS P N ⟨d, .binOp .eql t x y yT, ty, pos, aft, gd⟩ E Sb (.bool A.isNone) := EvS.binOp hx hy rfl fun w => Lib.run_eql_slice_nil w t e A n c 0 0 h.h
theorem run_nil0 {ms} (dd : Nat) (h : P.underlying t = some (.interface ms)) (w : World) : (Op.equalIn (dd + 1) t .nilIface .nilIface).run P w = .ok true w := by simp [Op.equalIn, run_underlying h]
theorem run_nil1 {ms T} (dd : Nat) (h : P.underlying t = some (.interface ms)) (w : World) : (Op.equalIn (dd + 1) t (.iface T v) .nilIface).run P w = .ok false w := by simp [Op.equalIn, run_underlying h]
theorem run_neNil0 {ms} (h : P.underlying t = some (.interface ms)) (w : World) : (Go.binOp .neq t .nilIface .nilIface).run P w = .ok (.bool false) w := by
  simp only [Go.binOp, show Op.equal t .nilIface .nilIface = Op.equalIn (9999 + 1) t .nilIface .nilIface from rfl, Sem.run_bind, run_nil0 9999 h, Result.andThen_ok, Sem.run_pure]; rfl
theorem run_neNil1 {ms T} (h : P.underlying t = some (.interface ms)) (w : World) : (Go.binOp .neq t (.iface T v) .nilIface).run P w = .ok (.bool true) w := by
  simp only [Go.binOp, show Op.equal t (.iface T v) .nilIface = Op.equalIn (9999 + 1) t (.iface T v) .nilIface from rfl, Sem.run_bind, run_nil1 9999 h, Result.andThen_ok, Sem.run_pure]; rfl
theorem iface_of [h : IfaceT P t] : ∃ ms, P.underlying t = some (.interface ms) := by
  have hi := h.h
  cases hu : P.underlying t with
  | none => simp [hu] at hi
  | some u => cases u <;> simp_all
theorem EvS.neNilI0 {yT : Nat} [h : IfaceT P t] (hx : evE E x = some .nilIface) : EvS P N ⟨d, .binOp .neq t x (.const .nilIface) yT, ty, pos, aft, gd⟩ E Sb (.bool false) := fun a w ha _ => by
  obtain ⟨ms, hu⟩ := iface_of (P := P) (t := t)
  have hg : (eqGuard .neq t x (.const .nilIface) .nilIface .nilIface).run P w = .ok () w := by simp [eqGuard]
  simp only [execOp, ha.eval hx, ha.eval (x := .const .nilIface) (v := .nilIface) rfl, Sem.run_bind, hg, Result.andThen_ok, run_neNil0 hu, Sem.run_pure]
theorem EvS.neNilI1 {yT : Nat} {T : TypeId} [h : IfaceT P t] (hx : evE E x = some (.iface T v)) : EvS P N ⟨d, .binOp .neq t x (.const .nilIface) yT, ty, pos, aft, gd⟩ E Sb (.bool true) := by
  obtain ⟨ms, hu⟩ := iface_of (P := P) (t := t)
  exact EvS.binOp hx (by rfl) rfl fun w => run_neNil1 hu w
theorem run_assertOk {T xT : TypeId} [h : PlainT P T] (w : World) : (Instr.typeAssert (.iface T v) xT T true).run P w = .ok (.tuple #[v, .bool true]) w := by
  have hi := h.h
  cases hu : P.underlying T with
  | none => simp [hu] at hi
  | some u =>
    unfold Instr.typeAssert
    simp only [Sem.run_bind, run_underlying hu, Result.andThen_ok]
    cases u <;> first | (simp [hu] at hi; done) | (simp only [if_true, Sem.run_pure])
theorem EvS.assertOk {xT T : TypeId} [h : PlainT P T] (hx : evE E x = some (.iface T v)) : EvS P N ⟨d, .typeAssert x xT T true, ty, pos, aft, gd⟩ E Sb (.tuple #[v, .bool true]) := fun a w ha _ => by
  simp only [execOp, ha.eval hx, Sem.run_bind, run_assertOk, Result.andThen_ok, Sem.run_pure]
/-- A slice with three bounds, with two, with the low one alone. -/
theorem EvS.slice3 {e sz l h' m' : Nat} {k1 k2 k3 : IntKind} [h : SliceT P t e sz] (hx : evE E x = some (.slice (some ⟨g, o, none⟩) n c)) (hy : evE E y = some (.int k1 (l : Int))) (hz : evE E z = some (.int k2 (h' : Int))) (hq : evE E q = some (.int k3 (m' : Int)))
    (h1 : l ≤ h') (h2 : h' ≤ m') (h3 : m' ≤ c) : EvS P N ⟨d, .slice t x (some y) (some z) (some q), ty, pos, aft, gd⟩ E Sb (.slice (some ⟨g, if m' = l then o else o + l * sz, none⟩) (h' - l) (m' - l)) := fun a w ha _ => by
  have b1 : (0 : Int) ≤ (l : Int) ∧ (l : Int) ≤ (h' : Int) := by omega
  have b2 : (0 : Int) ≤ (h' : Int) ∧ (h' : Int) ≤ (m' : Int) := by omega
  have b3 : (0 : Int) ≤ (m' : Int) ∧ (m' : Int) ≤ (c : Int) := by omega
  simp only [execOp, ha.eval hx, ha.eval hy, ha.eval hz, ha.eval hq, Option.map_some, Instr.sliceAt, Instr.slice, Instr.sliceBounds, Instr.sliceBound, asIntOf, Sem.run_bind, run_underlying h.h, Result.andThen_ok, Sem.run_pure, run_sizeOf_of h.s, if_pos b1, if_pos b2, if_pos b3, Int.toNat_natCast]
  split <;> simp [Addr.add_lit]
theorem EvS.slice2 {e sz l h' : Nat} {k1 k2 : IntKind} [h : SliceT P t e sz] (hx : evE E x = some (.slice (some ⟨g, o, none⟩) n c)) (hy : evE E y = some (.int k1 (l : Int))) (hz : evE E z = some (.int k2 (h' : Int)))
    (h1 : l ≤ h') (h2 : h' ≤ c) : EvS P N ⟨d, .slice t x (some y) (some z) none, ty, pos, aft, gd⟩ E Sb (.slice (some ⟨g, if c = l then o else o + l * sz, none⟩) (h' - l) (c - l)) := fun a w ha _ => by
  have b1 : (0 : Int) ≤ (l : Int) ∧ (l : Int) ≤ (h' : Int) := by omega
  have b2 : (0 : Int) ≤ (h' : Int) ∧ (h' : Int) ≤ (c : Int) := by omega
  simp only [execOp, ha.eval hx, ha.eval hy, ha.eval hz, Option.map_some, Option.map_none, Instr.sliceAt, Instr.slice, Instr.sliceBounds, Instr.sliceBound, asIntOf, Sem.run_bind, run_underlying h.h, Result.andThen_ok, Sem.run_pure, run_sizeOf_of h.s, if_pos b1, if_pos b2, Int.toNat_natCast]
  split <;> simp [Addr.add_lit]
theorem EvS.sliceLo {e sz l : Nat} {k1 : IntKind} [h : SliceT P t e sz] (hx : evE E x = some (.slice (some ⟨g, o, none⟩) n c)) (hy : evE E y = some (.int k1 (l : Int)))
    (h1 : l ≤ n) : EvS P N ⟨d, .slice t x (some y) none none, ty, pos, aft, gd⟩ E Sb (.slice (some ⟨g, if c = l then o else o + l * sz, none⟩) (n - l) (c - l)) := fun a w ha _ => by
  have b1 : (0 : Int) ≤ (l : Int) ∧ (l : Int) ≤ (n : Int) := by omega
  simp only [execOp, ha.eval hx, ha.eval hy, Option.map_some, Option.map_none, Instr.sliceAt, Instr.slice, Instr.sliceBounds, Instr.sliceBound, asIntOf, Sem.run_bind, run_underlying h.h, Result.andThen_ok, Sem.run_pure, run_sizeOf_of h.s, if_pos b1, Int.toNat_natCast]
  split <;> simp [Addr.add_lit]
theorem EvC.buildS0 {e sz : TypeId} [hT : SliceT P t e sz] : EvC r P N ⟨d, .buildSlice t 0 #[], ty, pos, aft, gd⟩ E (St m L) (fun u w => ∃ g : Nat, u = .slice (some ⟨g, 0, none⟩) 0 0 ∧ St m (some (g, .cells #[] e) :: L) w) := fun a w ha hs => by
  have hrun : (Instr.buildSlice t 0 #[]).run P w = .ok (.slice (some ⟨w.heap.size, 0, none⟩) 0 0) (w.alloc (.cells #[] e)) := by
    unfold Instr.buildSlice
    simp only [Sem.run_bind, run_underlying hT.h, Result.andThen_ok, run_sizeOf_of hT.s, Nat.zero_mul, if_true, show ¬ (0 > 2 ^ 24) by decide, if_false, Sem.run_pure]
    rw [show Array.range 0 = #[] from rfl, Array.map_empty]
    rfl
  simp only [execOp, List.map_toArray, List.map_nil, Sem.run_bind, hrun, Result.andThen_ok, Sem.run_pure, CRes]
  exact ⟨_, rfl, hs.alloc _⟩
theorem size_of_info {T sz : Nat} (h : (P.info? T).map (·.size) = some sz) : ∃ i, P.info? T = some i ∧ i.size = sz := by
  cases hq : P.info? T with
  | none => simp [hq] at h
  | some i => exact ⟨i, rfl, by simpa [hq] using h⟩
/-- append where there is room: in place; what is added may lie in the same block. -/
theorem EvC.appendIn {T sz k c2 : Nat} {news : List Value} {ad : Addr} [hT : SliceT P t T sz] (hx : evE E x = some (.slice (some ⟨g, 0, none⟩) n c)) (hy : evE E y = some (.slice (some ad) k c2)) (hA : RdC (St m L) (some ad) news) (hl : news.length = k * sz)
    (hsz : 0 < sz) (h1 : ∀ u, u ∈ news → u.oneCell' = true) (hroom : n + k ≤ c) (hfit : n * sz + k * sz ≤ cs.size) (hu : Upd L g (.cells cs T (0, 0)) (.cells (spl cs (n * sz) news.toArray) T (0, 0)) L') :
    EvC r P N ⟨d, .call { callee := .builtin .append, args := #[x, y], argTypes := #[t, t] }, ty, pos, aft, gd⟩ E (St m L) (fun u w => ∃ _ : Unit, u = .slice (some ⟨g, 0, none⟩) (n + k) c ∧ St m L' w) := fun a w ha hs => by
  obtain ⟨i, hi, hi1⟩ := size_of_info hT.s
  have hrun : ∃ w', (Builtin.append_ #[t, t] ty #[.slice (some ⟨g, 0, none⟩) n c, .slice (some ad) k c2]).run P w = .ok (.slice (some ⟨g, 0, none⟩) (n + k) c) w' ∧ St m L' w' := by
    have hg := hs.get hu.mem
    have hcells : ∀ j u, news[j]? = some u → w.cell? (ad.add j) = some u := by
      intro j u hu
      rcases hA with h | ⟨g, o, cs, T', fr, h, hb, hc⟩
      · subst h; simp at hu
      · injection h with h
        subst h
        rw [Addr.add_lit, cell_of (hb w hs)]
        exact hc j u hu
    subst hi1
    have := run_append_room (P := P) w t ty T i hT.h hi g n c cs hg ad k c2 news hl hcells h1 hroom (by omega)
    exact ⟨_, this, hs.setRow (by simpa [spl] using hu)⟩
  obtain ⟨w', hrun, hs'⟩ := hrun
  simp only [execOp, resolve, invoke, builtin, Sem.run_bind, Sem.run_pure, Result.andThen_ok, List.map_toArray, List.map_cons, List.map_nil, ha.eval hx, ha.eval hy, hrun]
  exact ⟨(), rfl, hs'⟩
/-- clear: elements of one cell, of a block of the call's own. -/
theorem EvC.clear1 {T : Nat} {zz : Value} [hT : SliceT P t T 1] [hz : ZeroV P T zz] (hx : evE E x = some (.slice (some ⟨g, o, none⟩) n c)) (hzz : zz.cells = #[zz]) (h1 : zz.oneCell' = true) (hn : 0 < n) (hfit : o + n ≤ cs.size)
    (hu : Upd L g (.cells cs T (0, 0)) (.cells (spl cs o (List.replicate n zz).toArray) T (0, 0)) L') :
    EvC r P N ⟨d, .call { callee := .builtin .clear, args := #[x], argTypes := #[t] }, ty, pos, aft, gd⟩ E (St m L) (fun u w => ∃ _ : Unit, u = .tuple #[] ∧ St m L' w) := fun a w ha hs => by
  obtain ⟨w', hw1, hw2⟩ := St.splice (P := P) hs hu (by simpa using hfit) (by intro v hv; simp at hv; rw [hv.2]; exact h1)
  simp only [List.toList_toArray] at hw1
  have hzc : (Builtin.zeroCells zz.cells n).toList = List.replicate n zz := by
    rw [hzz]
    simp [Builtin.zeroCells]
    apply List.ext_getElem
    · simp
    · intro i h1 h2
      simp [Nat.mod_one]
  obtain ⟨k, rfl⟩ : ∃ k, n = k + 1 := ⟨n - 1, by omega⟩
  have hrun : (Builtin.clear_ #[t] ty #[.slice (some ⟨g, o, none⟩) (k + 1) c]).run P w = .ok (.tuple #[]) w' := by
    simp [Builtin.clear_, run_underlying hT.h, run_zeroValue_of, hzc, hw1]
  simp only [execOp, resolve, invoke, builtin, Sem.run_bind, Sem.run_pure, Result.andThen_ok, List.map_toArray, List.map_cons, List.map_nil, ha.eval hx, hrun]
  exact ⟨(), rfl, hw2⟩
end

/-! ### Panics -/
section
variable {E : Env} {S : World → Prop} {Q : Exit → Act → World → Prop} {ops : Array Oper} {rest : List Oper} {d : Option Tmp} {ty t : TypeId} {pos : String} {aft : Array Edge} {gd : Option (Nat × Bool)} {x y : Operand} {v : Value}
theorem TR.panic {T : TypeId} (hw : Wd N ops ⟨d, .panic x, ty, pos, aft, gd⟩ E true) (hx : evE E x = some (.iface T v)) (h : Post N Df Q (.panic [{ v := .iface T v, recovered := false }]) E S) : TR r P N Df ops (⟨d, .panic x, ty, pos, aft, gd⟩ :: rest) E S Q :=
  TR.raw fun a w ha hd hs => ⟨hw a ha, fun _ _ => trivial, by
    rw [semAt_plain rfl]
    simp only [execOp, ha.eval hx, Instr.panic, goPanic]
    exact h a w ha hd hs⟩
/-- A call that answers or panics. -/
theorem TR.chP {d' : Tmp} {f : FuncId} {fo : Operand} {fs cap : Array Value} {args : Array Operand} {ats : Array TypeId} {vs : List Value} {X Y : Type} {val : X → Value} {S' : X → World → Prop} {ch : Y → List PanicEntry} {Sp : Y → World → Prop} [hf : EntersF P f]
    (hd' : d = some d') (hN : dOk N d' = true) (hw : Wd N ops ⟨d, .call { callee := .value fo, args := args, argTypes := ats }, ty, pos, aft, gd⟩ E true)
    (hfo : evE E fo = some (.func (.func f) fs cap)) (hargs : evArgs E args.toList = some vs)
    (hc : ∀ w, S w → Calls P f (fs ++ vs.toArray ++ cap) w (fun e w' => (∃ x, e = .returned (val x) ∧ S' x w') ∨ (∃ y, e = .panicked (ch y) ∧ Sp y w')))
    (h : ∀ x, TR r P N Df ops rest ((d', val x) :: E) (S' x) Q) (hp : ∀ y, Post N Df Q (.panic (ch y)) E (Sp y)) :
    TR r P N Df ops (⟨d, .call { callee := .value fo, args := args, argTypes := ats }, ty, pos, aft, gd⟩ :: rest) E S Q :=
  TR.raw fun a w ha hd hs => ⟨hw a ha, fun _ _ => trivial, by
    rw [semAt_plain rfl]
    have e1 : args.map a.eval = vs.toArray := Array.ext' (by rw [← ha.evals hargs, Array.toList_map])
    simp only [execOp, resolve, ha.eval hfo, e1, Deferred.ofValue, Sem.run_bind, Sem.run_pure, Result.andThen_ok, invoke, hf.h]
    refine ⟨fun hn => by simp [G] at hn, callsG.2 (Calls.mono (hc w hs) ?_)⟩
    rintro e w' (⟨x, rfl, hx⟩ | ⟨y, rfl, hy⟩)
    · subst hd'
      exact h x _ _ (ha.put (d := some d') (by simp only [dstOk, decide_eq_true_eq]; exact Nat.le_of_ble_eq_true hN) _) (by rw [put_defers]; exact hd) hx
    · exact hp y a w' ha hd hy⟩
/-- A deferred closure without arguments. -/
theorem TR.defer {fn : Fn} {cap : Array Value} {ats : Array TypeId} (hw : Wd N ops ⟨none, .defer { callee := .value x, args := #[], argTypes := ats }, ty, pos, aft, gd⟩ E true) (hx : evE E x = some (.func fn #[] cap))
    (h : TR none P N ({ target := .fn fn cap, args := #[] } :: Df) ops rest E S Q) : TR none P N Df ops (⟨none, .defer { callee := .value x, args := #[], argTypes := ats }, ty, pos, aft, gd⟩ :: rest) E S Q :=
  TR.raw fun a w ha hd hs => ⟨hw a ha, fun _ _ => trivial, by
    rw [show (G none).round = none from rfl, Oper.semAt_none]
    simp only [execOp, resolve, ha.eval hx, Deferred.ofValue, Sem.run_bind, Sem.run_pure, Result.andThen_ok, List.map_toArray, List.map_nil, Array.append_empty]
    exact h _ _ ⟨ha.size, ha.at_⟩ (by simp [Act.put, hd]) hs⟩
end

theorem Post.body_panic {P : Program} {N : Nat} {fn : Func} {R : Ending → World → Prop} {E : Env} {S : World → Prop} {ch : List PanicEntry} (hR : ∀ w, S w → R (.panicked ch) w) :
    Post N [] (bodyPostM (G none) 0 P fn R) (.panic ch) E S := by
  intro a w ha hd hs
  show LeavesInM (G none) 0 P fn a.tmps R a.defers (.panicking ch) w
  rw [hd]
  exact hR w hs

section
variable {E : Env} {S0 S1 : World → Prop} {d : Option Tmp} {ty : TypeId} {pos : String} {aft : Array Edge} {gd : Option (Nat × Bool)} {f : FuncId} {fo : Operand} {cap : Array Value} {args : Array Operand} {ats : Array TypeId} {vs : List Value} {v : Value}
/-- A call with a fixed answer; what is told of the world may turn. -/
theorem EvC.callS [hf : EntersF P f] (hfo : evE E fo = some (.func (.func f) #[] cap)) (hargs : evArgs E args.toList = some vs)
    (hc : ∀ w, S0 w → Calls P f (vs.toArray ++ cap) w (fun e w' => e = .returned v ∧ S1 w')) :
    EvC r P N ⟨d, .call { callee := .value fo, args := args, argTypes := ats }, ty, pos, aft, gd⟩ E S0 (fun u w => ∃ _ : Unit, u = v ∧ S1 w) :=
  EvC.call (val := fun _ => v) (S := fun _ => S1) (S' := fun _ => S1) hfo hargs fun w hs => by
    have := hc w hs
    simp only [Array.empty_append]
    exact this.mono fun e w' h => ⟨(), h.1, h.2⟩
end

/-! ### Leaving, past a deferred closure -/
section
variable {E : Env} {S S' : World → Prop} {fn : Func} {R : Ending → World → Prop} {f : FuncId} {cap : Array Value}
theorem Post.leave {e : Exit} {u : FrameMode} (v : Value) [hf : EntersF P f] (he : (e = .ret ∧ u = .returning) ∨ ∃ ch, e = .panic ch ∧ u = .panicking ch)
    (hc : ∀ w, S w → CallsDIn (G none) 0 P f cap u w fun e u' w' => ∃ v, e = .returned v ∧ settle u' = .returning ∧ S' w') (hr : ResL (N := N) P fn E S' v) (hR : ∀ w, S' w → R (.returned v) w) :
    Post N [{ target := .fn (.func f) cap, args := #[] }] (bodyPostM (G none) 0 P fn R) e E S := fun a w ha hd hs => by
  have key : LeavesInM (G none) 0 P fn a.tmps R [{ target := .fn (.func f) cap, args := #[] }] u w := by
    refine ⟨by rcases he with ⟨_, rfl⟩ | ⟨ch, _, rfl⟩ <;> simp, .inr ⟨fun h => by simp [G] at h, .func f, cap, f, cap, rfl, by simp only [invoke, Array.empty_append]; exact hf.h _ _, fun _ _ => trivial, ?_⟩⟩
    obtain ⟨h1, h2⟩ := hc w hs
    refine ⟨h1, fun c cs hm hroom => ?_⟩
    obtain ⟨e, u', w', fr, ⟨v', rfl, hset, hs'⟩, h3⟩ := h2 c cs hm hroom
    refine ⟨_, u', w', fr, ?_, h3⟩
    show LeavesInM (G none) 0 P fn a.tmps R [] (settle u') w'
    rw [hset]
    exact ⟨v, hr a w' ha hs', hR w' hs'⟩
  rcases he with ⟨rfl, rfl⟩ | ⟨ch, rfl, rfl⟩
  · show LeavesInM (G none) 0 P fn a.tmps R a.defers .returning w
    rw [hd]; exact key
  · show LeavesInM (G none) 0 P fn a.tmps R a.defers (.panicking ch) w
    rw [hd]; exact key
theorem wpOpsS_rec {F : Fence} {n : Nat} {ops : Array Oper} {Q : Exit → Act → List Frame → World → Prop} {i : Nat} {rest : List Nat} {o : Oper} {a : Act} {cs : List Frame} {w : World} {x : Value × List Frame} (hF : ∀ f, F.fn f) (ho : ops[i]? = some o) (hg : o.guard = none)
    (hx : (execOp a.eval o).run P w = .ok .recover w) (hr : (recoverD cs).getD (.nilIface, cs) = x) (h : wpOpsSIn F n P ops Q rest (a.put o.dst x.1) x.2 w) : wpOpsSIn F n P ops Q (i :: rest) a cs w := by
  subst hr
  simp only [wpOpsSIn, ho]
  refine ⟨fun f _ => hF f, ?_⟩
  rw [if_pos (by simp [Region.wanted, hg]), hx]
  simp only
  cases hq : recoverD cs with
  | none => rw [hq] at h; exact h
  | some y => rw [hq] at h; exact h
theorem wpOpsS_val {F : Fence} {n : Nat} {ops : Array Oper} {Q : Exit → Act → List Frame → World → Prop} {i : Nat} {rest : List Nat} {o : Oper} {a : Act} {cs : List Frame} {w : World} {v : Value} (hF : ∀ f, F.fn f) (ho : ops[i]? = some o) (hg : o.guard = none)
    (hx : (execOp a.eval o).run P w = .ok (.value v) w) (h : wpOpsSIn F n P ops Q rest (a.put o.dst v) cs w) : wpOpsSIn F n P ops Q (i :: rest) a cs w := by
  simp only [wpOpsSIn, ho]
  refine ⟨fun f _ => hF f, ?_⟩
  rw [if_pos (by simp [Region.wanted, hg]), hx]
  exact h
theorem Post.bodyS {c : Frame} {cs : List Frame} {R : Ending → FrameMode → World → Prop} {u1 : FrameMode} (hz : fn.results = #[]) (hR : ∀ w, S w → R (.returned (.tuple #[])) u1 w) :
    Post N [] (fun e a w => bodyPostS P fn c cs R e a ({ c with mode := u1 } :: cs) w) .normal E S := fun a w ha hd hs =>
  ⟨hd, u1, rfl, _, (ResL.zero (N := N) (E := E) (S := S) hz) a w ha hs, hR w hs⟩
/-- A deferred function that first asks recover, and keeps the answer. -/
theorem callsD_of {f : FuncId} {fn : Func} {id : Nat} {d1 d2 : Tmp} {ty1 ty2 : TypeId} {p1 p2 : String} {a1 a2 : Array Edge} {c2 : Code} {args : List Value} {u u1 : FrameMode} {w : World} {R : Ending → FrameMode → World → Prop} {v : Value} {S : World → Prop}
    (hf : P.funcs[f]? = some fn) (hb : fn.body = some (.seq (.region id #[⟨some d1, .call { callee := .builtin .recover, args := #[], argTypes := #[] }, ty1, p1, a1, none⟩, ⟨some d2, .assign (.tmp d1), ty2, p2, a2, none⟩] false) c2)) (hN : fn.ntmps = N)
    (hle : args.length ≤ N) (hd1 : d1 < N) (hd2 : d2 < N) (hS : S w)
    (hrec : ∀ (c : Frame) (cs : List Frame), c.mode = u → (recoverD (c :: cs)).getD (.nilIface, c :: cs) = (v, { c with mode := u1 } :: cs))
    (h : ∀ (c : Frame) (cs : List Frame), TC none P N [] c2 ((d2, v) :: (d1, v) :: argE 0 args) S (fun e a w => bodyPostS P fn c cs R e a ({ c with mode := u1 } :: cs) w)) : CallsDIn (G none) 0 P f args.toArray u w R := by
  refine callsDIn_of_wpSIn hf hb trivial fun c cs hm => ?_
  refine wpSIn_seq (wpSIn_region ?_)
  have hR0 : Rep N (argE 0 args) { tmps := args.toArray ++ Array.replicate (fn.ntmps - args.toArray.size) undef, defers := [] } := ⟨by simp [hN]; omega, fun s v hs => by
    obtain ⟨_, h2⟩ := lk_argE args 0 s v hs
    simp only [Nat.sub_zero] at h2
    have hlt : s < args.length := (List.getElem?_eq_some_iff.1 h2).1
    rw [Array.getElem?_append_left (by simpa using hlt)]
    simpa using h2⟩
  have hda : ({ tmps := args.toArray ++ Array.replicate (fn.ntmps - args.toArray.size) undef, defers := [] } : Act).defers = [] := rfl
  generalize ({ tmps := args.toArray ++ Array.replicate (fn.ntmps - args.toArray.size) undef, defers := [] } : Act) = a at hR0 hda ⊢
  have hrec' := hrec c cs hm
  have hR1 := hR0.put (d := some d1) (by simpa [dstOk] using hd1) v
  have hR2 := hR1.put (d := some d2) (by simpa [dstOk] using hd2) v
  have hv : (a.put (some d1) v).eval (.tmp d1) = v := hR1.eval (by simp [evE, lk, putE])
  have fin : Exit.thenS (c2.wpSIn (G none) 0 P (bodyPostS P fn c cs R)) (bodyPostS P fn c cs R) .normal ((a.put (some d1) v).put (some d2) v) ({ c with mode := u1 } :: cs) w := by
    refine wpSIn_of_wpIn rfl ?_
    exact h c cs _ _ hR2 (by rw [put_defers, put_defers]; exact hda) hS
  show wpOpsSIn (G none) 0 P _ _ [0, 1] a (c :: cs) w
  refine wpOpsS_rec (fun _ => trivial) rfl rfl rfl hrec' ?_
  refine wpOpsS_val (v := v) (fun _ => trivial) rfl rfl ?_ ?_
  · show (execOp (a.put (some d1) v).eval ⟨some d2, .assign (.tmp d1), ty2, p2, a2, none⟩).run P w = _
    simp only [execOp, hv, Sem.run_pure]
  · exact fin
end

/-! ### Loops over activations whose defers grow -/
def LoopD {X : Type} (N : Nat) (I : X → Prop) (Df : X → List Deferred) (E : X → Env) (S : X → World → Prop) (μ : X → Nat) (x : X) : Act → World → Prop :=
  fun a w => ∃ x', I x' ∧ Rep N (E x') a ∧ a.defers = Df x' ∧ S x' w ∧ μ x' < μ x
open Classical in
theorem TC.loopD {X : Type} {Q : Exit → Act → World → Prop} {c : Code} {Df0 : List Deferred} (I : X → Prop) (Df : X → List Deferred) (E : X → Env) (S : X → World → Prop) (μ : X → Nat) (x0 : X) {E0 : Env} {S0 : World → Prop} (h0 : I x0) (hD : Df x0 = Df0)
    (hE : ∀ s v, lk (E x0) s = some v → lk E0 s = some v) (hS : ∀ w, S0 w → S x0 w)
    (round : ∀ x, I x → TC r P N (Df x) c (E x) (S x) (Exit.then (LoopD N I Df E S μ x) Q)) : TC r P N Df0 (.loop c) E0 S0 Q := by
  intro a w ha hd hs
  let J : Act → World → Prop := fun a w => ∃ x, I x ∧ Rep N (E x) a ∧ a.defers = Df x ∧ S x w
  let H : Act → World → Prop := fun a w => ∃ j, ∃ x, μ x = j ∧ I x ∧ Rep N (E x) a ∧ a.defers = Df x ∧ S x w
  let M : Act → World → Nat := fun a w => if h : H a w then Classical.choose (exists_least _ h) else 0
  have hM : ∀ a w x, I x → Rep N (E x) a → a.defers = Df x → S x w → M a w ≤ μ x := by
    intro a w x h0 h1 h2 h3
    have h : H a w := ⟨μ x, x, rfl, h0, h1, h2, h3⟩
    show (if h : H a w then Classical.choose (exists_least _ h) else 0) ≤ μ x
    rw [dif_pos h]
    exact (Classical.choose_spec (exists_least _ h)).2 _ ⟨x, rfl, h0, h1, h2, h3⟩
  refine wpIn_loop J M ⟨x0, h0, ha.weaken hE, by rw [hd, hD], hS w hs⟩ ?_
  rintro a w ⟨x1, h0, h1, h2, h3⟩
  have h : H a w := ⟨μ x1, x1, rfl, h0, h1, h2, h3⟩
  have hm : M a w = Classical.choose (exists_least _ h) := dif_pos h
  obtain ⟨x, hx, g0, g1, g2, g3⟩ := (Classical.choose_spec (exists_least _ h)).1
  refine wpIn_mono (round x g0 a w g1 g2 g3) ?_
  intro e a' w' q
  cases e with
  | normal =>
    obtain ⟨x', k0, k1, k2, k3, k4⟩ := q
    exact ⟨⟨x', k0, k1, k2, k3⟩, by rw [hm, ← hx]; exact Nat.lt_of_le_of_lt (hM a' w' x' k0 k1 k2 k3) k4⟩
  | _ => exact q
theorem Post.nextD {X : Type} {Q : Exit → Act → World → Prop} {I : X → Prop} {D : X → List Deferred} {E : X → Env} {S : X → World → Prop} {μ : X → Nat} {x : X} {E' : Env} {S' : World → Prop} (x' : X) (hI : I x') (hD : Df = D x')
    (hE : ∀ s v, lk (E x') s = some v → lk E' s = some v) (hS : ∀ w, S' w → S x' w) (hμ : μ x' < μ x) : Post N Df (Exit.then (LoopD N I D E S μ x) Q) .normal E' S' :=
  fun a w ha hd hs => ⟨x', hI, ha.weaken hE, hd.trans hD, hS w hs, hμ⟩
theorem Post.nextDW {X : Type} {Q : Exit → Act → World → Prop} {I : X → Prop} {D : X → List Deferred} {E : X → Env} {S : X → World → Prop} {μ : X → Nat} {x : X} {E' : Env} {S' : World → Prop}
    (h : ∀ w, S' w → ∃ x', I x' ∧ Df = D x' ∧ (∀ s v, lk (E x') s = some v → lk E' s = some v) ∧ S x' w ∧ μ x' < μ x) : Post N Df (Exit.then (LoopD N I D E S μ x) Q) .normal E' S' :=
  fun a w ha hd hs => let ⟨x', hI, hD, hE, hS, hμ⟩ := h w hs; ⟨x', hI, ha.weaken hE, hd.trans hD, hS, hμ⟩
end Go.XC
/- Literal slices. Nothing of a program. -/
set_option linter.unusedVariables false
namespace Go.XC
open Go Go.RowKit
section
variable {r : Option Nat} {P : Program} {N : Nat} {E : Env} {m : Mem} {L : Own} {d : Option Tmp} {ty t : TypeId} {pos : String} {aft : Array Edge} {gd : Option (Nat × Bool)}
/-- A literal slice. -/
theorem EvC.buildN {e : TypeId} {sz n : Nat} {zz : Value} {parts : Array (Nat × Operand)} {vs : List Value} {cells : Array Value} [hT : SliceT P t e sz] [hz : ZeroV P e zz] (hv : evVals E parts.toList = some vs) (hn : n * sz ≠ 0) (hb : ¬ n * sz > 2 ^ 24)
    (hf : Instr.fill (fun i => some (i * sz, sz)) ((Array.range (n * sz)).map (zz.cells[· % zz.cells.size]!)) ((parts.toList.map Prod.fst).zip vs) = some cells) :
    EvC r P N ⟨d, .buildSlice t n parts, ty, pos, aft, gd⟩ E (St m L) (fun u w => ∃ g : Nat, u = .slice (some ⟨g, 0, none⟩) n n ∧ St m (some (g, .cells cells e) :: L) w) := fun a w ha hs => by
  have hp : parts.map (fun (i, x) => (i, a.eval x)) = ((parts.toList.map Prod.fst).zip vs).toArray := by
    apply Array.ext'
    have h1 := evVals_map parts.toList vs hv
    simp only [Array.toList_map]
    have : ∀ (l : List (Nat × Operand)) (k : List (Nat × Value)), l.map (fun x => (x.1, evE E x.2)) = k.map (fun x => (x.1, some x.2)) → l.map (fun (i, x) => (i, a.eval x)) = k := by
      intro l
      induction l with
      | nil => intro k hk; cases k <;> simp_all
      | cons p l ih =>
        intro k hk
        cases k with
        | nil => simp at hk
        | cons q k =>
          simp only [List.map_cons, List.cons.injEq, Prod.mk.injEq] at hk
          simp only [List.map_cons, ih k hk.2, ha.eval hk.1.2, hk.1.1]
    exact this _ _ h1
  have hrun : (Instr.buildSlice t n ((parts.toList.map Prod.fst).zip vs).toArray).run P w = .ok (.slice (some ⟨w.heap.size, 0, none⟩) n n) (w.alloc (.cells cells e)) := by
    unfold Instr.buildSlice
    simp only [Sem.run_bind, run_underlying hT.h, Result.andThen_ok, run_sizeOf_of hT.s, if_neg hb, if_neg hn, run_zeroValue_of, Sem.run_pure, hf]
    rfl
  simp only [execOp, Sem.run_bind]
  rw [hp]
  simp only [hrun, Result.andThen_ok, Sem.run_pure, CRes]
  exact ⟨_, rfl, hs.alloc _⟩
end
end Go.XC
/- PRINTED by mac.py: the arms of the walk, each with its side conditions proved by default. Nothing of a program. -/
set_option linter.unusedVariables false
set_option linter.all false
namespace Go.XC
open Go Go.RowKit
variable {r : Option Nat} {P : Program} {N : Nat} {Df : List Deferred} {Q : Exit → Act → World → Prop} {E : Env} {S : World → Prop} {ops : Array Oper} {rest : List Oper} {B : List Oper} {Sb : World → Prop} {A : List (Kind × Oper)} {x y : Code}
theorem inc {E E' : Env} (h : incl E' E := by repeat first | exact trivial | refine ⟨rfl, ?_⟩) : ∀ s v, lk E' s = some v → lk E s = some v := h.lk
theorem Reads.eqW {w0 : World} {g : Nat} {o : Obj} (h : w0.heap[g]? = some o) : Reads (fun w => w = w0) g o := fun w e => by rw [e]; exact h
structure SideS (P : Program) (N : Nat) (ops : Array Oper) (o : Oper) (E : Env) (S : World → Prop) (d : Tmp) (v : Value) : Prop where
  hN : dOk N d = true
  hp : plainOp o = true
  hw : Wd N ops o E true
  hv : EvS P N o E S v
structure SideD (P : Program) (N : Nat) (ops : Array Oper) (o : Oper) (E : Env) (S : World → Prop) (v : Value) : Prop where
  hw : Wd N ops o E true
  hv : EvS P N o E S v
structure SideC (r : Option Nat) (P : Program) (N : Nat) (ops : Array Oper) (o : Oper) (E : Env) (S : World → Prop) {X : Type} (val : X → Value) (S' : X → World → Prop) : Prop where
  hp : plainOp o = true
  hw : Wd N ops o E true
  hv : EvC r P N o E S (fun u w => ∃ x, u = val x ∧ S' x w)
structure SideK (N : Nat) (ops : Array Oper) (o : Oper) (E : Env) (d : Tmp) : Prop where
  hd : o.dst = some d
  hN : dOk N d = true
  hw : Wd N ops o E false
structure SideG (P : Program) (N : Nat) (ops : Array Oper) (o : Oper) (rest : List Oper) (E : Env) (S : World → Prop) (d : Tmp) (b : Bool) : Prop where
  hN : dOk N d = true
  hu : guardUsed ops rest d = true
  hw : Wd N ops o E true
  hv : EvS P N o E S (.bool b)
/-! ### Regions that draw: the kinds are gathered on the way -/
def DW (r : Option Nat) (P : Program) (N : Nat) (Df : List Deferred) (l0 : List Oper) (Q : Exit → Act → World → Prop) (Sb : World → Prop) (l : List Oper) (acc ks : List Kind) (E : Env) (S : World → Prop) : Prop :=
  ∃ (A B : List Oper), l = A ++ B ∧ A.length = ks.length ∧ D r P N Df l0.toArray B Q Sb (ks.zip A) E S ∧ okDraw N l0.toArray ((acc.reverse ++ ks).zip l0) = true
section
variable {l0 l : List Oper} {acc : List Kind} {o : Oper} {d : Tmp}
theorem zip_fst {ks : List Kind} {A B : List Oper} (h : A.length = ks.length) : ks.zip (A ++ B) = ks.zip A := by
  induction ks generalizing A with
  | nil => cases A with
    | nil => rfl
    | cons => simp at h
  | cons k ks ih => cases A with
    | nil => simp at h
    | cons a A => simp only [List.cons_append, List.zip_cons_cons]; rw [ih (by simpa using h)]
theorem zip_snd {ks : List Kind} {A : List Oper} (h : A.length = ks.length) : (ks.zip A).map Prod.snd = A := by
  induction ks generalizing A with
  | nil => cases A with
    | nil => rfl
    | cons => simp at h
  | cons k ks ih => cases A with
    | nil => simp at h
    | cons a A => simp only [List.zip_cons_cons, List.map_cons]; rw [ih (by simpa using h)]
theorem TC.drawS {id : Nat} {ks : List Kind} (hm : P.follows .mixedOrders = true) (hSb : ∀ w, S w → Sb w) (hdr : ∀ w d, S w → S { w with drawn := d }) (h : DW r P N Df l Q Sb l [] ks E S) : TC r P N Df (.region id l.toArray true) E S Q := by
  obtain ⟨A, B, hl, hA, hD, hchk⟩ := h
  rw [List.reverse_nil, List.nil_append] at hchk
  have e : ks.zip l = ks.zip A := by rw [hl, zip_fst hA]
  rw [e] at hchk
  exact TC.draw (ks.zip A) B hm (by rw [zip_snd hA]; exact hl) hchk Sb hSb hdr hD
theorem TC.drawW {id : Nat} {m : Mem} {L : Own} {ks : List Kind} (hm : P.follows .mixedOrders = true) (h : DW r P N Df l Q (StX m L) l [] ks E (St m L)) : TC r P N Df (.region id l.toArray true) E (St m L) Q :=
  TC.drawS hm (fun w hs => StX.of0 hs) (fun w d hs => hs.drew d) h
theorem TC.drawL {id : Nat} {m : Mem} {L1 Lb : Own} {ks : List Kind} (hm : P.follows .mixedOrders = true) (h : DW r P N Df l Q (StX m Lb) l [] ks E (St m (L1 ++ Lb))) : TC r P N Df (.region id l.toArray true) E (St m (L1 ++ Lb)) Q :=
  TC.drawS hm (fun w hs => StX.of hs) (fun w d hs => hs.drew d) h
theorem DW.st1 {v : Value} {ks : List Kind} (hd : o.dst = some d) (hw : Wd N l0.toArray o E true) (hv : EvS P N o E Sb v) (h : DW r P N Df l0 Q Sb l (.st :: acc) ks ((d, v) :: E) S) : DW r P N Df l0 Q Sb (o :: l) acc (.st :: ks) E S :=
  let ⟨A, B, hl, hA, hD, hchk⟩ := h
  ⟨o :: A, B, by rw [hl]; rfl, by simp [hA], D.st1 hd hw hv hD, by simpa using hchk⟩
theorem DW.sk1 {ks : List Kind} (hd : o.dst = some d) (hw : Wd N l0.toArray o E false) (h : DW r P N Df l0 Q Sb l (.sk :: acc) ks ((d, undef) :: E) S) : DW r P N Df l0 Q Sb (o :: l) acc (.sk :: ks) E S :=
  let ⟨A, B, hl, hA, hD, hchk⟩ := h
  ⟨o :: A, B, by rw [hl]; rfl, by simp [hA], D.sk1 hd hw hD, by simpa using hchk⟩
theorem DW.split {ks : List Kind} {E : Env} {S : World → Prop} (h : DW r P N Df l0 Q Sb l acc ks E S) : D r P N Df l0.toArray (l.drop ks.length) Q Sb (ks.zip l) E S := by
  obtain ⟨A, B, hl, hA, hD, _⟩ := h
  rw [hl, zip_fst hA, ← hA, List.drop_left]; exact hD
theorem DW.chx {X : Type} {val : X → Value} {S' : X → World → Prop} {ks : List Kind} (hd : o.dst = some d) (hw : Wd N l0.toArray o E true) (hv : EvC r P N o E S (fun u w => ∃ x, u = val x ∧ S' x w)) (hX : Nonempty X) (hSb : ∀ x w, S' x w → Sb w)
    (h : ∀ x, DW r P N Df l0 Q Sb l (.ch :: acc) ks ((d, val x) :: E) (S' x)) : DW r P N Df l0 Q Sb (o :: l) acc (.ch :: ks) E S := by
  obtain ⟨x0⟩ := hX
  obtain ⟨A, B, hl, hA, _, hchk⟩ := h x0
  refine ⟨o :: A, B, by rw [hl]; rfl, by simp [hA], D.chx hd hw hv ⟨x0⟩ hSb fun x => ?_, by simpa using hchk⟩
  have := (h x).split
  rw [hl, zip_fst hA, ← hA, List.drop_left] at this
  exact this
theorem DW.end (hchk : okDraw N l0.toArray (acc.reverse.zip l0) = true) (h : TR r P N Df l0.toArray l E S Q) : DW r P N Df l0 Q Sb l acc [] E S :=
  ⟨[], l, rfl, rfl, D.tail_ h, by simpa using hchk⟩
def phased (o : Oper) : Bool := o.after.toList.any fun e => match e.ground with | .phase => true | _ => false
theorem DW.tail (hp : phased o = true) (hchk : okDraw N l0.toArray (acc.reverse.zip l0) = true) (h : TR r P N Df l0.toArray (o :: l) E S Q) : DW r P N Df l0 Q Sb (o :: l) acc [] E S := DW.end hchk h
theorem DW.nil (hchk : okDraw N l0.toArray (acc.reverse.zip l0) = true) (h : TR r P N Df l0.toArray [] E S Q) : DW r P N Df l0 Q Sb [] acc [] E S := DW.end hchk h
theorem e_sk {ks : List Kind} (s : SideK N l0.toArray o E d) (h : DW r P N Df l0 Q Sb l (.sk :: acc) ks ((d, undef) :: E) S) : DW r P N Df l0 Q Sb (o :: l) acc (.sk :: ks) E S := DW.sk1 s.hd s.hw h
end
def Subs {X : Type} (S' : X → World → Prop) (T : World → Prop) : Prop := ∀ x w, S' x w → T w
theorem subs {X : Type} {m : Mem} {L : Own} {S' : X → World → Prop} (h : ∀ x w, S' x w → StX m L w := by first | exact fun _ _ h => StX.of0 h | exact fun _ _ h => StX.of1 h | exact fun _ _ h => StX.of2 h | exact fun _ _ h => StX.of3 h | exact fun _ _ h => StX.of (L' := [_, _, _, _]) h | exact fun _ _ h => StX.of (L' := [_, _, _, _, _]) h | exact fun _ _ h => StX.of h) : Subs S' (StX m L) := h
theorem a_sk {d : Tmp} {op : _} {ty : TypeId} {pos : String} {aft : Array Edge} {jw : Nat × Bool} (s : SideK N ops ⟨some d, op, ty, pos, aft, some jw⟩ E d) (h : TR r P N Df ops rest ((d, undef) :: E) S Q) : TR r P N Df ops (⟨some d, op, ty, pos, aft, some jw⟩ :: rest) E S Q := TR.sk1 rfl s.hN s.hw h
theorem a_sks {o : Oper} {d : Tmp} (hd : o.dst = some d := by exact rfl) (hN : dOk N d = true := by exact rfl) (hw : Wd N ops o E false := by (first | exact Wd.off rfl rfl rfl rfl | exact Wd.offU rfl rfl rfl)) : SideK N ops o E d := ⟨hd, hN, hw⟩
theorem d_sk {o : Oper} {d : Tmp} (s : SideK N ops o E d) (h : D r P N Df ops B Q Sb A ((d, undef) :: E) S) : D r P N Df ops B Q Sb ((.sk, o) :: A) E S := D.sk1 s.hd s.hw h
theorem a_gt {d : Tmp} {z : Operand} {ty : TypeId} {pos : String} {aft : Array Edge} {gd : Option (Nat × Bool)} {b : Bool} (s : SideG P N ops ⟨some d, .move z, ty, pos, aft, gd⟩ rest E S d b) (hb : b = true) (h : TR r P N Df ops rest ((d, .bool true) :: E) S Q) : TR r P N Df ops (⟨some d, .move z, ty, pos, aft, gd⟩ :: rest) E S Q := TR.gs_t rfl s.hN rfl s.hu s.hw s.hv hb h
theorem a_gf {d : Tmp} {z : Operand} {ty : TypeId} {pos : String} {aft : Array Edge} {gd : Option (Nat × Bool)} {b : Bool} (s : SideG P N ops ⟨some d, .move z, ty, pos, aft, gd⟩ rest E S d b) (hb : b = false) (h : TR r P N Df ops rest ((d, .bool false) :: E) S Q) : TR r P N Df ops (⟨some d, .move z, ty, pos, aft, gd⟩ :: rest) E S Q := TR.gs_f rfl s.hN rfl s.hu s.hw s.hv hb h
theorem a_gs {d : Tmp} {z : Operand} {ty : TypeId} {pos : String} {aft : Array Edge} {gd : Option (Nat × Bool)} {b : Bool} (s : SideG P N ops ⟨some d, .move z, ty, pos, aft, gd⟩ rest E S d b) (h1 : b = true → TR r P N Df ops rest ((d, .bool true) :: E) S Q) (h0 : b = false → TR r P N Df ops rest ((d, .bool false) :: E) S Q) : TR r P N Df ops (⟨some d, .move z, ty, pos, aft, gd⟩ :: rest) E S Q := TR.gs rfl s.hN rfl s.hu s.hw s.hv h1 h0
theorem a_gss {d : Tmp} {z : Operand} {ty : TypeId} {pos : String} {aft : Array Edge} {gd : Option (Nat × Bool)} {b : Bool} (hN : dOk N d = true := by exact rfl) (hu : guardUsed ops rest d = true := by exact rfl) (hw : Wd N ops ⟨some d, .move z, ty, pos, aft, gd⟩ E true := by (first | exact Wd.plain rfl | exact Wd.on rfl rfl rfl)) (hv : EvS P N ⟨some d, .move z, ty, pos, aft, gd⟩ E S (.bool b) := by exact EvS.move rfl) : SideG P N ops ⟨some d, .move z, ty, pos, aft, gd⟩ rest E S d b := ⟨hN, hu, hw, hv⟩
section
variable {m : Mem} {L : Own} {d : Tmp} {fo : Operand} {args : Array Operand} {ats : Array TypeId} {ty : TypeId} {pos : String} {aft : Array Edge} {gd : Option (Nat × Bool)} {f : FuncId} {vs : List Value} {v : Value} {cap : Array Value}
theorem a_call {X : Type} {val : X → Value} {S' : X → World → Prop} (hv : EvC r P N ⟨some d, .call { callee := .value fo, args := args, argTypes := ats }, ty, pos, aft, gd⟩ E S (fun u w => ∃ x, u = val x ∧ S' x w)) (hN : dOk N d = true) (hw : Wd N ops ⟨some d, .call { callee := .value fo, args := args, argTypes := ats }, ty, pos, aft, gd⟩ E true) (h : ∀ x, TR r P N Df ops rest ((d, val x) :: E) (S' x) Q) : TR r P N Df ops (⟨some d, .call { callee := .value fo, args := args, argTypes := ats }, ty, pos, aft, gd⟩ :: rest) E S Q := TR.ch1 rfl hN rfl hw hv h
theorem d_call {m' : Mem} {Lb : Own} {X : Type} {val : X → Value} {S' : X → World → Prop} (hv : EvC r P N ⟨some d, .call { callee := .value fo, args := args, argTypes := ats }, ty, pos, aft, gd⟩ E S (fun u w => ∃ x, u = val x ∧ S' x w)) (hw : Wd N ops ⟨some d, .call { callee := .value fo, args := args, argTypes := ats }, ty, pos, aft, gd⟩ E true) (hX : Nonempty X) (hSb : Subs S' (StX m' Lb)) (h : ∀ x, D r P N Df ops B Q (StX m' Lb) A ((d, val x) :: E) (S' x)) : D r P N Df ops B Q (StX m' Lb) ((.ch, ⟨some d, .call { callee := .value fo, args := args, argTypes := ats }, ty, pos, aft, gd⟩) :: A) E S := D.chx rfl hw hv hX hSb h
theorem e_call {m' : Mem} {Lb : Own} {l0 l : List Oper} {acc ks : List Kind} {X : Type} {val : X → Value} {S' : X → World → Prop} (hv : EvC r P N ⟨some d, .call { callee := .value fo, args := args, argTypes := ats }, ty, pos, aft, gd⟩ E S (fun u w => ∃ x, u = val x ∧ S' x w)) (hw : Wd N l0.toArray ⟨some d, .call { callee := .value fo, args := args, argTypes := ats }, ty, pos, aft, gd⟩ E true) (hX : Nonempty X) (hSb : Subs S' (StX m' Lb)) (h : ∀ x, DW r P N Df l0 Q (StX m' Lb) l (.ch :: acc) ks ((d, val x) :: E) (S' x)) : DW r P N Df l0 Q (StX m' Lb) (⟨some d, .call { callee := .value fo, args := args, argTypes := ats }, ty, pos, aft, gd⟩ :: l) acc (.ch :: ks) E S := DW.chx rfl hw hv hX hSb h
theorem wd {o : Oper} (h : Wd N ops o E true := by (first | exact Wd.plain rfl | exact Wd.on rfl rfl rfl)) : Wd N ops o E true := h
end
theorem a_move {d : Tmp} {p0 : _} {ty : TypeId} {pos : String} {aft : Array Edge} {gd : Option (Nat × Bool)} {v : Value} (s : SideS P N ops ⟨some d, .move p0, ty, pos, aft, gd⟩ E S d v) (h : TR r P N Df ops rest ((d, v) :: E) S Q) : TR r P N Df ops (⟨some d, .move p0, ty, pos, aft, gd⟩ :: rest) E S Q := TR.st1 rfl s.hN s.hp s.hw s.hv h
theorem a_moves {d : Tmp} {p0 : _} {ty : TypeId} {pos : String} {aft : Array Edge} {gd : Option (Nat × Bool)} {v : Value} (hN : dOk N d = true := by exact rfl) (hp : plainOp ⟨some d, .move p0, ty, pos, aft, gd⟩ = true := by exact rfl) (hw : Wd N ops ⟨some d, .move p0, ty, pos, aft, gd⟩ E true := by (first | exact Wd.plain rfl | exact Wd.on rfl rfl rfl)) (hv : EvS P N ⟨some d, .move p0, ty, pos, aft, gd⟩ E S v := by exact EvS.move rfl) : SideS P N ops ⟨some d, .move p0, ty, pos, aft, gd⟩ E S d v := ⟨hN, hp, hw, hv⟩
theorem a_assign {d : Tmp} {p0 : _} {ty : TypeId} {pos : String} {aft : Array Edge} {gd : Option (Nat × Bool)} {v : Value} (s : SideS P N ops ⟨some d, .assign p0, ty, pos, aft, gd⟩ E S d v) (h : TR r P N Df ops rest ((d, v) :: E) S Q) : TR r P N Df ops (⟨some d, .assign p0, ty, pos, aft, gd⟩ :: rest) E S Q := TR.st1 rfl s.hN s.hp s.hw s.hv h
theorem a_assigns {d : Tmp} {p0 : _} {ty : TypeId} {pos : String} {aft : Array Edge} {gd : Option (Nat × Bool)} {v : Value} (hN : dOk N d = true := by exact rfl) (hp : plainOp ⟨some d, .assign p0, ty, pos, aft, gd⟩ = true := by exact rfl) (hw : Wd N ops ⟨some d, .assign p0, ty, pos, aft, gd⟩ E true := by (first | exact Wd.plain rfl | exact Wd.on rfl rfl rfl)) (hv : EvS P N ⟨some d, .assign p0, ty, pos, aft, gd⟩ E S v := by exact EvS.assign rfl) : SideS P N ops ⟨some d, .assign p0, ty, pos, aft, gd⟩ E S d v := ⟨hN, hp, hw, hv⟩
theorem a_fieldAddr {d : Tmp} {p0 : _} {p1 : _} {p2 : _} {ty : TypeId} {pos : String} {aft : Array Edge} {gd : Option (Nat × Bool)} {v : Value} (s : SideS P N ops ⟨some d, .fieldAddr p0 p1 p2, ty, pos, aft, gd⟩ E S d v) (h : TR r P N Df ops rest ((d, v) :: E) S Q) : TR r P N Df ops (⟨some d, .fieldAddr p0 p1 p2, ty, pos, aft, gd⟩ :: rest) E S Q := TR.st1 rfl s.hN s.hp s.hw s.hv h
theorem a_fieldAddrs {d : Tmp} {p0 : _} {p1 : _} {p2 : _} {ty : TypeId} {pos : String} {aft : Array Edge} {gd : Option (Nat × Bool)} {v : Value} (hN : dOk N d = true := by exact rfl) (hp : plainOp ⟨some d, .fieldAddr p0 p1 p2, ty, pos, aft, gd⟩ = true := by exact rfl) (hw : Wd N ops ⟨some d, .fieldAddr p0 p1 p2, ty, pos, aft, gd⟩ E true := by (first | exact Wd.plain rfl | exact Wd.on rfl rfl rfl)) (hv : EvS P N ⟨some d, .fieldAddr p0 p1 p2, ty, pos, aft, gd⟩ E S v := by exact EvS.fieldAddr rfl) : SideS P N ops ⟨some d, .fieldAddr p0 p1 p2, ty, pos, aft, gd⟩ E S d v := ⟨hN, hp, hw, hv⟩
theorem a_load {d : Tmp} {p0 : _} {p1 : _} {ty : TypeId} {pos : String} {aft : Array Edge} {gd : Option (Nat × Bool)} {v : Value} (s : SideS P N ops ⟨some d, .load p0 p1, ty, pos, aft, gd⟩ E S d v) (h : TR r P N Df ops rest ((d, v) :: E) S Q) : TR r P N Df ops (⟨some d, .load p0 p1, ty, pos, aft, gd⟩ :: rest) E S Q := TR.st1 rfl s.hN s.hp s.hw s.hv h
theorem a_loads {d : Tmp} {p0 : _} {p1 : _} {ty : TypeId} {pos : String} {aft : Array Edge} {gd : Option (Nat × Bool)} {v : Value} (hN : dOk N d = true := by exact rfl) (hp : plainOp ⟨some d, .load p0 p1, ty, pos, aft, gd⟩ = true := by exact rfl) (hw : Wd N ops ⟨some d, .load p0 p1, ty, pos, aft, gd⟩ E true := by (first | exact Wd.plain rfl | exact Wd.on rfl rfl rfl)) (hv : EvS P N ⟨some d, .load p0 p1, ty, pos, aft, gd⟩ E S v := by (first | (apply EvS.load1; exact rfl; (first | exact Reads.mem (by assumption) | exact Reads.own (by repeat first | exact List.Mem.head _ | assumption | apply List.Mem.tail) | assumption); (first | assumption | exact nthL_arr rfl | exact rfl)) | (apply EvS.loadW; exact rfl; (first | exact Reads.mem (by assumption) | exact Reads.own (by repeat first | exact List.Mem.head _ | assumption | apply List.Mem.tail) | assumption); first | exact rfl | assumption) | (apply EvS.loadH; exact rfl; (first | exact Reads.mem (by assumption) | exact Reads.own (by repeat first | exact List.Mem.head _ | assumption | apply List.Mem.tail) | assumption); assumption; first | exact rfl | assumption))) : SideS P N ops ⟨some d, .load p0 p1, ty, pos, aft, gd⟩ E S d v := ⟨hN, hp, hw, hv⟩
theorem a_len {d : Tmp} {p0 : _} {ty : TypeId} {pos : String} {aft : Array Edge} {gd : Option (Nat × Bool)} {v : Value} (s : SideS P N ops ⟨some d, .call p0, ty, pos, aft, gd⟩ E S d v) (h : TR r P N Df ops rest ((d, v) :: E) S Q) : TR r P N Df ops (⟨some d, .call p0, ty, pos, aft, gd⟩ :: rest) E S Q := TR.st1 rfl s.hN s.hp s.hw s.hv h
theorem a_lens {d : Tmp} {p0 : _} {ty : TypeId} {pos : String} {aft : Array Edge} {gd : Option (Nat × Bool)} {v : Value} (hN : dOk N d = true := by exact rfl) (hp : plainOp ⟨some d, .call p0, ty, pos, aft, gd⟩ = true := by exact rfl) (hw : Wd N ops ⟨some d, .call p0, ty, pos, aft, gd⟩ E true := by (first | exact Wd.plain rfl | exact Wd.on rfl rfl rfl)) (hv : EvS P N ⟨some d, .call p0, ty, pos, aft, gd⟩ E S v := by exact EvS.len rfl) : SideS P N ops ⟨some d, .call p0, ty, pos, aft, gd⟩ E S d v := ⟨hN, hp, hw, hv⟩
theorem a_unOp {d : Tmp} {p0 : _} {p1 : _} {p2 : _} {ty : TypeId} {pos : String} {aft : Array Edge} {gd : Option (Nat × Bool)} {v : Value} (s : SideS P N ops ⟨some d, .unOp p0 p1 p2, ty, pos, aft, gd⟩ E S d v) (h : TR r P N Df ops rest ((d, v) :: E) S Q) : TR r P N Df ops (⟨some d, .unOp p0 p1 p2, ty, pos, aft, gd⟩ :: rest) E S Q := TR.st1 rfl s.hN s.hp s.hw s.hv h
theorem a_unOps {d : Tmp} {p0 : _} {p1 : _} {p2 : _} {ty : TypeId} {pos : String} {aft : Array Edge} {gd : Option (Nat × Bool)} {v : Value} (hN : dOk N d = true := by exact rfl) (hp : plainOp ⟨some d, .unOp p0 p1 p2, ty, pos, aft, gd⟩ = true := by exact rfl) (hw : Wd N ops ⟨some d, .unOp p0 p1 p2, ty, pos, aft, gd⟩ E true := by (first | exact Wd.plain rfl | exact Wd.on rfl rfl rfl)) (hv : EvS P N ⟨some d, .unOp p0 p1 p2, ty, pos, aft, gd⟩ E S v := by (first | exact EvS.not rfl | exact EvS.neg64 rfl (by first | with_reducible exact U64.var _ | exact U64.lit rfl))) : SideS P N ops ⟨some d, .unOp p0 p1 p2, ty, pos, aft, gd⟩ E S d v := ⟨hN, hp, hw, hv⟩
theorem a_beql {d : Tmp} {p0 : _} {p1 : _} {p2 : _} {p3 : _} {ty : TypeId} {pos : String} {aft : Array Edge} {gd : Option (Nat × Bool)} {v : Value} (s : SideS P N ops ⟨some d, .binOp .eql p0 p1 p2 p3, ty, pos, aft, gd⟩ E S d v) (h : TR r P N Df ops rest ((d, v) :: E) S Q) : TR r P N Df ops (⟨some d, .binOp .eql p0 p1 p2 p3, ty, pos, aft, gd⟩ :: rest) E S Q := TR.st1 rfl s.hN s.hp s.hw s.hv h
theorem a_beqls {d : Tmp} {p0 : _} {p1 : _} {p2 : _} {p3 : _} {ty : TypeId} {pos : String} {aft : Array Edge} {gd : Option (Nat × Bool)} {v : Value} (hN : dOk N d = true := by exact rfl) (hp : plainOp ⟨some d, .binOp .eql p0 p1 p2 p3, ty, pos, aft, gd⟩ = true := by exact rfl) (hw : Wd N ops ⟨some d, .binOp .eql p0 p1 p2 p3, ty, pos, aft, gd⟩ E true := by (first | exact Wd.plain rfl | exact Wd.on rfl rfl rfl)) (hv : EvS P N ⟨some d, .binOp .eql p0 p1 p2 p3, ty, pos, aft, gd⟩ E S v := by (first | exact EvS.eq64 rfl rfl (by first | with_reducible exact U64.var _ | exact U64.lit rfl) (by first | with_reducible exact U64.var _ | exact U64.lit rfl) | exact EvS.eqI rfl rfl | exact EvS.eqB rfl rfl)) : SideS P N ops ⟨some d, .binOp .eql p0 p1 p2 p3, ty, pos, aft, gd⟩ E S d v := ⟨hN, hp, hw, hv⟩
theorem a_bneq {d : Tmp} {p0 : _} {p1 : _} {p2 : _} {p3 : _} {ty : TypeId} {pos : String} {aft : Array Edge} {gd : Option (Nat × Bool)} {v : Value} (s : SideS P N ops ⟨some d, .binOp .neq p0 p1 p2 p3, ty, pos, aft, gd⟩ E S d v) (h : TR r P N Df ops rest ((d, v) :: E) S Q) : TR r P N Df ops (⟨some d, .binOp .neq p0 p1 p2 p3, ty, pos, aft, gd⟩ :: rest) E S Q := TR.st1 rfl s.hN s.hp s.hw s.hv h
theorem a_bneqs {d : Tmp} {p0 : _} {p1 : _} {p2 : _} {p3 : _} {ty : TypeId} {pos : String} {aft : Array Edge} {gd : Option (Nat × Bool)} {v : Value} (hN : dOk N d = true := by exact rfl) (hp : plainOp ⟨some d, .binOp .neq p0 p1 p2 p3, ty, pos, aft, gd⟩ = true := by exact rfl) (hw : Wd N ops ⟨some d, .binOp .neq p0 p1 p2 p3, ty, pos, aft, gd⟩ E true := by (first | exact Wd.plain rfl | exact Wd.on rfl rfl rfl)) (hv : EvS P N ⟨some d, .binOp .neq p0 p1 p2 p3, ty, pos, aft, gd⟩ E S v := by (first | exact EvS.ne64 rfl rfl (by first | with_reducible exact U64.var _ | exact U64.lit rfl) (by first | with_reducible exact U64.var _ | exact U64.lit rfl) | exact EvS.neB rfl rfl | exact EvS.neI rfl rfl)) : SideS P N ops ⟨some d, .binOp .neq p0 p1 p2 p3, ty, pos, aft, gd⟩ E S d v := ⟨hN, hp, hw, hv⟩
theorem a_band {d : Tmp} {p0 : _} {p1 : _} {p2 : _} {p3 : _} {ty : TypeId} {pos : String} {aft : Array Edge} {gd : Option (Nat × Bool)} {v : Value} (s : SideS P N ops ⟨some d, .binOp .and p0 p1 p2 p3, ty, pos, aft, gd⟩ E S d v) (h : TR r P N Df ops rest ((d, v) :: E) S Q) : TR r P N Df ops (⟨some d, .binOp .and p0 p1 p2 p3, ty, pos, aft, gd⟩ :: rest) E S Q := TR.st1 rfl s.hN s.hp s.hw s.hv h
theorem a_bands {d : Tmp} {p0 : _} {p1 : _} {p2 : _} {p3 : _} {ty : TypeId} {pos : String} {aft : Array Edge} {gd : Option (Nat × Bool)} {v : Value} (hN : dOk N d = true := by exact rfl) (hp : plainOp ⟨some d, .binOp .and p0 p1 p2 p3, ty, pos, aft, gd⟩ = true := by exact rfl) (hw : Wd N ops ⟨some d, .binOp .and p0 p1 p2 p3, ty, pos, aft, gd⟩ E true := by (first | exact Wd.plain rfl | exact Wd.on rfl rfl rfl)) (hv : EvS P N ⟨some d, .binOp .and p0 p1 p2 p3, ty, pos, aft, gd⟩ E S v := by exact EvS.and64 rfl rfl (by first | with_reducible exact U64.var _ | exact U64.lit rfl) (by first | with_reducible exact U64.var _ | exact U64.lit rfl)) : SideS P N ops ⟨some d, .binOp .and p0 p1 p2 p3, ty, pos, aft, gd⟩ E S d v := ⟨hN, hp, hw, hv⟩
theorem a_bor {d : Tmp} {p0 : _} {p1 : _} {p2 : _} {p3 : _} {ty : TypeId} {pos : String} {aft : Array Edge} {gd : Option (Nat × Bool)} {v : Value} (s : SideS P N ops ⟨some d, .binOp .or p0 p1 p2 p3, ty, pos, aft, gd⟩ E S d v) (h : TR r P N Df ops rest ((d, v) :: E) S Q) : TR r P N Df ops (⟨some d, .binOp .or p0 p1 p2 p3, ty, pos, aft, gd⟩ :: rest) E S Q := TR.st1 rfl s.hN s.hp s.hw s.hv h
theorem a_bors {d : Tmp} {p0 : _} {p1 : _} {p2 : _} {p3 : _} {ty : TypeId} {pos : String} {aft : Array Edge} {gd : Option (Nat × Bool)} {v : Value} (hN : dOk N d = true := by exact rfl) (hp : plainOp ⟨some d, .binOp .or p0 p1 p2 p3, ty, pos, aft, gd⟩ = true := by exact rfl) (hw : Wd N ops ⟨some d, .binOp .or p0 p1 p2 p3, ty, pos, aft, gd⟩ E true := by (first | exact Wd.plain rfl | exact Wd.on rfl rfl rfl)) (hv : EvS P N ⟨some d, .binOp .or p0 p1 p2 p3, ty, pos, aft, gd⟩ E S v := by exact EvS.or64 rfl rfl (by first | with_reducible exact U64.var _ | exact U64.lit rfl) (by first | with_reducible exact U64.var _ | exact U64.lit rfl)) : SideS P N ops ⟨some d, .binOp .or p0 p1 p2 p3, ty, pos, aft, gd⟩ E S d v := ⟨hN, hp, hw, hv⟩
theorem a_bandNot {d : Tmp} {p0 : _} {p1 : _} {p2 : _} {p3 : _} {ty : TypeId} {pos : String} {aft : Array Edge} {gd : Option (Nat × Bool)} {v : Value} (s : SideS P N ops ⟨some d, .binOp .andNot p0 p1 p2 p3, ty, pos, aft, gd⟩ E S d v) (h : TR r P N Df ops rest ((d, v) :: E) S Q) : TR r P N Df ops (⟨some d, .binOp .andNot p0 p1 p2 p3, ty, pos, aft, gd⟩ :: rest) E S Q := TR.st1 rfl s.hN s.hp s.hw s.hv h
theorem a_bandNots {d : Tmp} {p0 : _} {p1 : _} {p2 : _} {p3 : _} {ty : TypeId} {pos : String} {aft : Array Edge} {gd : Option (Nat × Bool)} {v : Value} (hN : dOk N d = true := by exact rfl) (hp : plainOp ⟨some d, .binOp .andNot p0 p1 p2 p3, ty, pos, aft, gd⟩ = true := by exact rfl) (hw : Wd N ops ⟨some d, .binOp .andNot p0 p1 p2 p3, ty, pos, aft, gd⟩ E true := by (first | exact Wd.plain rfl | exact Wd.on rfl rfl rfl)) (hv : EvS P N ⟨some d, .binOp .andNot p0 p1 p2 p3, ty, pos, aft, gd⟩ E S v := by exact EvS.andNot64 rfl rfl (by first | with_reducible exact U64.var _ | exact U64.lit rfl) (by first | with_reducible exact U64.var _ | exact U64.lit rfl)) : SideS P N ops ⟨some d, .binOp .andNot p0 p1 p2 p3, ty, pos, aft, gd⟩ E S d v := ⟨hN, hp, hw, hv⟩
theorem a_convert {d : Tmp} {p0 : _} {p1 : _} {p2 : _} {ty : TypeId} {pos : String} {aft : Array Edge} {gd : Option (Nat × Bool)} {v : Value} (s : SideS P N ops ⟨some d, .convert p0 p1 p2, ty, pos, aft, gd⟩ E S d v) (h : TR r P N Df ops rest ((d, v) :: E) S Q) : TR r P N Df ops (⟨some d, .convert p0 p1 p2, ty, pos, aft, gd⟩ :: rest) E S Q := TR.st1 rfl s.hN s.hp s.hw s.hv h
theorem a_converts {d : Tmp} {p0 : _} {p1 : _} {p2 : _} {ty : TypeId} {pos : String} {aft : Array Edge} {gd : Option (Nat × Bool)} {v : Value} (hN : dOk N d = true := by exact rfl) (hp : plainOp ⟨some d, .convert p0 p1 p2, ty, pos, aft, gd⟩ = true := by exact rfl) (hw : Wd N ops ⟨some d, .convert p0 p1 p2, ty, pos, aft, gd⟩ E true := by (first | exact Wd.plain rfl | exact Wd.on rfl rfl rfl)) (hv : EvS P N ⟨some d, .convert p0 p1 p2, ty, pos, aft, gd⟩ E S v := by exact EvS.convI rfl) : SideS P N ops ⟨some d, .convert p0 p1 p2, ty, pos, aft, gd⟩ E S d v := ⟨hN, hp, hw, hv⟩
theorem a_bmul {d : Tmp} {p0 : _} {p1 : _} {p2 : _} {p3 : _} {ty : TypeId} {pos : String} {aft : Array Edge} {gd : Option (Nat × Bool)} {v : Value} (s : SideS P N ops ⟨some d, .binOp .mul p0 p1 p2 p3, ty, pos, aft, gd⟩ E S d v) (h : TR r P N Df ops rest ((d, v) :: E) S Q) : TR r P N Df ops (⟨some d, .binOp .mul p0 p1 p2 p3, ty, pos, aft, gd⟩ :: rest) E S Q := TR.st1 rfl s.hN s.hp s.hw s.hv h
theorem a_bmuls {d : Tmp} {p0 : _} {p1 : _} {p2 : _} {p3 : _} {ty : TypeId} {pos : String} {aft : Array Edge} {gd : Option (Nat × Bool)} {v : Value} (hN : dOk N d = true := by exact rfl) (hp : plainOp ⟨some d, .binOp .mul p0 p1 p2 p3, ty, pos, aft, gd⟩ = true := by exact rfl) (hw : Wd N ops ⟨some d, .binOp .mul p0 p1 p2 p3, ty, pos, aft, gd⟩ E true := by (first | exact Wd.plain rfl | exact Wd.on rfl rfl rfl)) (hv : EvS P N ⟨some d, .binOp .mul p0 p1 p2 p3, ty, pos, aft, gd⟩ E S v := by exact EvS.mul64 rfl rfl (by first | with_reducible exact U64.var _ | exact U64.lit rfl) (by first | with_reducible exact U64.var _ | exact U64.lit rfl)) : SideS P N ops ⟨some d, .binOp .mul p0 p1 p2 p3, ty, pos, aft, gd⟩ E S d v := ⟨hN, hp, hw, hv⟩
theorem a_blss {d : Tmp} {p0 : _} {p1 : _} {p2 : _} {p3 : _} {ty : TypeId} {pos : String} {aft : Array Edge} {gd : Option (Nat × Bool)} {v : Value} (s : SideS P N ops ⟨some d, .binOp .lss p0 p1 p2 p3, ty, pos, aft, gd⟩ E S d v) (h : TR r P N Df ops rest ((d, v) :: E) S Q) : TR r P N Df ops (⟨some d, .binOp .lss p0 p1 p2 p3, ty, pos, aft, gd⟩ :: rest) E S Q := TR.st1 rfl s.hN s.hp s.hw s.hv h
theorem a_blsss {d : Tmp} {p0 : _} {p1 : _} {p2 : _} {p3 : _} {ty : TypeId} {pos : String} {aft : Array Edge} {gd : Option (Nat × Bool)} {v : Value} (hN : dOk N d = true := by exact rfl) (hp : plainOp ⟨some d, .binOp .lss p0 p1 p2 p3, ty, pos, aft, gd⟩ = true := by exact rfl) (hw : Wd N ops ⟨some d, .binOp .lss p0 p1 p2 p3, ty, pos, aft, gd⟩ E true := by (first | exact Wd.plain rfl | exact Wd.on rfl rfl rfl)) (hv : EvS P N ⟨some d, .binOp .lss p0 p1 p2 p3, ty, pos, aft, gd⟩ E S v := by exact EvS.ltI rfl rfl) : SideS P N ops ⟨some d, .binOp .lss p0 p1 p2 p3, ty, pos, aft, gd⟩ E S d v := ⟨hN, hp, hw, hv⟩
theorem a_bleq {d : Tmp} {p0 : _} {p1 : _} {p2 : _} {p3 : _} {ty : TypeId} {pos : String} {aft : Array Edge} {gd : Option (Nat × Bool)} {v : Value} (s : SideS P N ops ⟨some d, .binOp .leq p0 p1 p2 p3, ty, pos, aft, gd⟩ E S d v) (h : TR r P N Df ops rest ((d, v) :: E) S Q) : TR r P N Df ops (⟨some d, .binOp .leq p0 p1 p2 p3, ty, pos, aft, gd⟩ :: rest) E S Q := TR.st1 rfl s.hN s.hp s.hw s.hv h
theorem a_bleqs {d : Tmp} {p0 : _} {p1 : _} {p2 : _} {p3 : _} {ty : TypeId} {pos : String} {aft : Array Edge} {gd : Option (Nat × Bool)} {v : Value} (hN : dOk N d = true := by exact rfl) (hp : plainOp ⟨some d, .binOp .leq p0 p1 p2 p3, ty, pos, aft, gd⟩ = true := by exact rfl) (hw : Wd N ops ⟨some d, .binOp .leq p0 p1 p2 p3, ty, pos, aft, gd⟩ E true := by (first | exact Wd.plain rfl | exact Wd.on rfl rfl rfl)) (hv : EvS P N ⟨some d, .binOp .leq p0 p1 p2 p3, ty, pos, aft, gd⟩ E S v := by exact EvS.leI rfl rfl) : SideS P N ops ⟨some d, .binOp .leq p0 p1 p2 p3, ty, pos, aft, gd⟩ E S d v := ⟨hN, hp, hw, hv⟩
theorem a_bgtr {d : Tmp} {p0 : _} {p1 : _} {p2 : _} {p3 : _} {ty : TypeId} {pos : String} {aft : Array Edge} {gd : Option (Nat × Bool)} {v : Value} (s : SideS P N ops ⟨some d, .binOp .gtr p0 p1 p2 p3, ty, pos, aft, gd⟩ E S d v) (h : TR r P N Df ops rest ((d, v) :: E) S Q) : TR r P N Df ops (⟨some d, .binOp .gtr p0 p1 p2 p3, ty, pos, aft, gd⟩ :: rest) E S Q := TR.st1 rfl s.hN s.hp s.hw s.hv h
theorem a_bgtrs {d : Tmp} {p0 : _} {p1 : _} {p2 : _} {p3 : _} {ty : TypeId} {pos : String} {aft : Array Edge} {gd : Option (Nat × Bool)} {v : Value} (hN : dOk N d = true := by exact rfl) (hp : plainOp ⟨some d, .binOp .gtr p0 p1 p2 p3, ty, pos, aft, gd⟩ = true := by exact rfl) (hw : Wd N ops ⟨some d, .binOp .gtr p0 p1 p2 p3, ty, pos, aft, gd⟩ E true := by (first | exact Wd.plain rfl | exact Wd.on rfl rfl rfl)) (hv : EvS P N ⟨some d, .binOp .gtr p0 p1 p2 p3, ty, pos, aft, gd⟩ E S v := by exact EvS.gtI rfl rfl) : SideS P N ops ⟨some d, .binOp .gtr p0 p1 p2 p3, ty, pos, aft, gd⟩ E S d v := ⟨hN, hp, hw, hv⟩
theorem a_bgeq {d : Tmp} {p0 : _} {p1 : _} {p2 : _} {p3 : _} {ty : TypeId} {pos : String} {aft : Array Edge} {gd : Option (Nat × Bool)} {v : Value} (s : SideS P N ops ⟨some d, .binOp .geq p0 p1 p2 p3, ty, pos, aft, gd⟩ E S d v) (h : TR r P N Df ops rest ((d, v) :: E) S Q) : TR r P N Df ops (⟨some d, .binOp .geq p0 p1 p2 p3, ty, pos, aft, gd⟩ :: rest) E S Q := TR.st1 rfl s.hN s.hp s.hw s.hv h
theorem a_bgeqs {d : Tmp} {p0 : _} {p1 : _} {p2 : _} {p3 : _} {ty : TypeId} {pos : String} {aft : Array Edge} {gd : Option (Nat × Bool)} {v : Value} (hN : dOk N d = true := by exact rfl) (hp : plainOp ⟨some d, .binOp .geq p0 p1 p2 p3, ty, pos, aft, gd⟩ = true := by exact rfl) (hw : Wd N ops ⟨some d, .binOp .geq p0 p1 p2 p3, ty, pos, aft, gd⟩ E true := by (first | exact Wd.plain rfl | exact Wd.on rfl rfl rfl)) (hv : EvS P N ⟨some d, .binOp .geq p0 p1 p2 p3, ty, pos, aft, gd⟩ E S v := by exact EvS.geI rfl rfl) : SideS P N ops ⟨some d, .binOp .geq p0 p1 p2 p3, ty, pos, aft, gd⟩ E S d v := ⟨hN, hp, hw, hv⟩
theorem a_badd {d : Tmp} {p0 : _} {p1 : _} {p2 : _} {p3 : _} {ty : TypeId} {pos : String} {aft : Array Edge} {gd : Option (Nat × Bool)} {v : Value} (s : SideS P N ops ⟨some d, .binOp .add p0 p1 p2 p3, ty, pos, aft, gd⟩ E S d v) (h : TR r P N Df ops rest ((d, v) :: E) S Q) : TR r P N Df ops (⟨some d, .binOp .add p0 p1 p2 p3, ty, pos, aft, gd⟩ :: rest) E S Q := TR.st1 rfl s.hN s.hp s.hw s.hv h
theorem a_badds {d : Tmp} {p0 : _} {p1 : _} {p2 : _} {p3 : _} {ty : TypeId} {pos : String} {aft : Array Edge} {gd : Option (Nat × Bool)} {v : Value} (hN : dOk N d = true := by exact rfl) (hp : plainOp ⟨some d, .binOp .add p0 p1 p2 p3, ty, pos, aft, gd⟩ = true := by exact rfl) (hw : Wd N ops ⟨some d, .binOp .add p0 p1 p2 p3, ty, pos, aft, gd⟩ E true := by (first | exact Wd.plain rfl | exact Wd.on rfl rfl rfl)) (hv : EvS P N ⟨some d, .binOp .add p0 p1 p2 p3, ty, pos, aft, gd⟩ E S v := by (first | exact EvS.addI rfl rfl (by omega) | exact EvS.add64 rfl rfl (by first | with_reducible exact U64.var _ | exact U64.lit rfl) (by first | with_reducible exact U64.var _ | exact U64.lit rfl))) : SideS P N ops ⟨some d, .binOp .add p0 p1 p2 p3, ty, pos, aft, gd⟩ E S d v := ⟨hN, hp, hw, hv⟩
theorem a_bsub {d : Tmp} {p0 : _} {p1 : _} {p2 : _} {p3 : _} {ty : TypeId} {pos : String} {aft : Array Edge} {gd : Option (Nat × Bool)} {v : Value} (s : SideS P N ops ⟨some d, .binOp .sub p0 p1 p2 p3, ty, pos, aft, gd⟩ E S d v) (h : TR r P N Df ops rest ((d, v) :: E) S Q) : TR r P N Df ops (⟨some d, .binOp .sub p0 p1 p2 p3, ty, pos, aft, gd⟩ :: rest) E S Q := TR.st1 rfl s.hN s.hp s.hw s.hv h
theorem a_bsubs {d : Tmp} {p0 : _} {p1 : _} {p2 : _} {p3 : _} {ty : TypeId} {pos : String} {aft : Array Edge} {gd : Option (Nat × Bool)} {v : Value} (hN : dOk N d = true := by exact rfl) (hp : plainOp ⟨some d, .binOp .sub p0 p1 p2 p3, ty, pos, aft, gd⟩ = true := by exact rfl) (hw : Wd N ops ⟨some d, .binOp .sub p0 p1 p2 p3, ty, pos, aft, gd⟩ E true := by (first | exact Wd.plain rfl | exact Wd.on rfl rfl rfl)) (hv : EvS P N ⟨some d, .binOp .sub p0 p1 p2 p3, ty, pos, aft, gd⟩ E S v := by (first | exact EvS.subI rfl rfl (by omega) | exact EvS.sub64 rfl rfl (by first | with_reducible exact U64.var _ | exact U64.lit rfl) (by first | with_reducible exact U64.var _ | exact U64.lit rfl))) : SideS P N ops ⟨some d, .binOp .sub p0 p1 p2 p3, ty, pos, aft, gd⟩ E S d v := ⟨hN, hp, hw, hv⟩
theorem a_pick {d : Tmp} {p0 : _} {p1 : _} {p2 : _} {ty : TypeId} {pos : String} {aft : Array Edge} {gd : Option (Nat × Bool)} {v : Value} (s : SideS P N ops ⟨some d, .pick p0 p1 p2, ty, pos, aft, gd⟩ E S d v) (h : TR r P N Df ops rest ((d, v) :: E) S Q) : TR r P N Df ops (⟨some d, .pick p0 p1 p2, ty, pos, aft, gd⟩ :: rest) E S Q := TR.st1 rfl s.hN s.hp s.hw s.hv h
theorem a_picks {d : Tmp} {p0 : _} {p1 : _} {p2 : _} {ty : TypeId} {pos : String} {aft : Array Edge} {gd : Option (Nat × Bool)} {v : Value} (hN : dOk N d = true := by exact rfl) (hp : plainOp ⟨some d, .pick p0 p1 p2, ty, pos, aft, gd⟩ = true := by exact rfl) (hw : Wd N ops ⟨some d, .pick p0 p1 p2, ty, pos, aft, gd⟩ E true := by (first | exact Wd.plain rfl | exact Wd.on rfl rfl rfl)) (hv : EvS P N ⟨some d, .pick p0 p1 p2, ty, pos, aft, gd⟩ E S v := by (first | exact EvS.pick_t rfl rfl | exact EvS.pick_f rfl rfl)) : SideS P N ops ⟨some d, .pick p0 p1 p2, ty, pos, aft, gd⟩ E S d v := ⟨hN, hp, hw, hv⟩
theorem a_indexAddr {d : Tmp} {p0 : _} {p1 : _} {p2 : _} {ty : TypeId} {pos : String} {aft : Array Edge} {gd : Option (Nat × Bool)} {v : Value} (s : SideS P N ops ⟨some d, .indexAddr p0 p1 p2, ty, pos, aft, gd⟩ E S d v) (h : TR r P N Df ops rest ((d, v) :: E) S Q) : TR r P N Df ops (⟨some d, .indexAddr p0 p1 p2, ty, pos, aft, gd⟩ :: rest) E S Q := TR.st1 rfl s.hN s.hp s.hw s.hv h
theorem a_indexAddrs {d : Tmp} {p0 : _} {p1 : _} {p2 : _} {ty : TypeId} {pos : String} {aft : Array Edge} {gd : Option (Nat × Bool)} {v : Value} (hN : dOk N d = true := by exact rfl) (hp : plainOp ⟨some d, .indexAddr p0 p1 p2, ty, pos, aft, gd⟩ = true := by exact rfl) (hw : Wd N ops ⟨some d, .indexAddr p0 p1 p2, ty, pos, aft, gd⟩ E true := by (first | exact Wd.plain rfl | exact Wd.on rfl rfl rfl)) (hv : EvS P N ⟨some d, .indexAddr p0 p1 p2, ty, pos, aft, gd⟩ E S v := by (first | exact EvS.indexAddr rfl rfl (by first | exact rfl | assumption) (by omega) | exact EvS.indexAddrA rfl rfl (by omega))) : SideS P N ops ⟨some d, .indexAddr p0 p1 p2, ty, pos, aft, gd⟩ E S d v := ⟨hN, hp, hw, hv⟩
theorem a_makeFunc {d : Tmp} {p0 : _} {p1 : _} {p2 : _} {ty : TypeId} {pos : String} {aft : Array Edge} {gd : Option (Nat × Bool)} {v : Value} (s : SideS P N ops ⟨some d, .makeFunc p0 p1 p2, ty, pos, aft, gd⟩ E S d v) (h : TR r P N Df ops rest ((d, v) :: E) S Q) : TR r P N Df ops (⟨some d, .makeFunc p0 p1 p2, ty, pos, aft, gd⟩ :: rest) E S Q := TR.st1 rfl s.hN s.hp s.hw s.hv h
theorem a_makeFuncs {d : Tmp} {p0 : _} {p1 : _} {p2 : _} {ty : TypeId} {pos : String} {aft : Array Edge} {gd : Option (Nat × Bool)} {v : Value} (hN : dOk N d = true := by exact rfl) (hp : plainOp ⟨some d, .makeFunc p0 p1 p2, ty, pos, aft, gd⟩ = true := by exact rfl) (hw : Wd N ops ⟨some d, .makeFunc p0 p1 p2, ty, pos, aft, gd⟩ E true := by (first | exact Wd.plain rfl | exact Wd.on rfl rfl rfl)) (hv : EvS P N ⟨some d, .makeFunc p0 p1 p2, ty, pos, aft, gd⟩ E S v := by exact EvS.makeFunc rfl rfl) : SideS P N ops ⟨some d, .makeFunc p0 p1 p2, ty, pos, aft, gd⟩ E S d v := ⟨hN, hp, hw, hv⟩
theorem a_extract {d : Tmp} {p0 : _} {p1 : _} {ty : TypeId} {pos : String} {aft : Array Edge} {gd : Option (Nat × Bool)} {v : Value} (s : SideS P N ops ⟨some d, .extract p0 p1, ty, pos, aft, gd⟩ E S d v) (h : TR r P N Df ops rest ((d, v) :: E) S Q) : TR r P N Df ops (⟨some d, .extract p0 p1, ty, pos, aft, gd⟩ :: rest) E S Q := TR.st1 rfl s.hN s.hp s.hw s.hv h
theorem a_extracts {d : Tmp} {p0 : _} {p1 : _} {ty : TypeId} {pos : String} {aft : Array Edge} {gd : Option (Nat × Bool)} {v : Value} (hN : dOk N d = true := by exact rfl) (hp : plainOp ⟨some d, .extract p0 p1, ty, pos, aft, gd⟩ = true := by exact rfl) (hw : Wd N ops ⟨some d, .extract p0 p1, ty, pos, aft, gd⟩ E true := by (first | exact Wd.plain rfl | exact Wd.on rfl rfl rfl)) (hv : EvS P N ⟨some d, .extract p0 p1, ty, pos, aft, gd⟩ E S v := by exact EvS.extract rfl rfl) : SideS P N ops ⟨some d, .extract p0 p1, ty, pos, aft, gd⟩ E S d v := ⟨hN, hp, hw, hv⟩
theorem a_makeInterface {d : Tmp} {p0 : _} {p1 : _} {ty : TypeId} {pos : String} {aft : Array Edge} {gd : Option (Nat × Bool)} {v : Value} (s : SideS P N ops ⟨some d, .makeInterface p0 p1, ty, pos, aft, gd⟩ E S d v) (h : TR r P N Df ops rest ((d, v) :: E) S Q) : TR r P N Df ops (⟨some d, .makeInterface p0 p1, ty, pos, aft, gd⟩ :: rest) E S Q := TR.st1 rfl s.hN s.hp s.hw s.hv h
theorem a_makeInterfaces {d : Tmp} {p0 : _} {p1 : _} {ty : TypeId} {pos : String} {aft : Array Edge} {gd : Option (Nat × Bool)} {v : Value} (hN : dOk N d = true := by exact rfl) (hp : plainOp ⟨some d, .makeInterface p0 p1, ty, pos, aft, gd⟩ = true := by exact rfl) (hw : Wd N ops ⟨some d, .makeInterface p0 p1, ty, pos, aft, gd⟩ E true := by (first | exact Wd.plain rfl | exact Wd.on rfl rfl rfl)) (hv : EvS P N ⟨some d, .makeInterface p0 p1, ty, pos, aft, gd⟩ E S v := by exact EvS.makeInterface rfl) : SideS P N ops ⟨some d, .makeInterface p0 p1, ty, pos, aft, gd⟩ E S d v := ⟨hN, hp, hw, hv⟩
theorem a_slice {d : Tmp} {p0 : _} {p1 : _} {p2 : _} {p3 : _} {p4 : _} {ty : TypeId} {pos : String} {aft : Array Edge} {gd : Option (Nat × Bool)} {v : Value} (s : SideS P N ops ⟨some d, .slice p0 p1 p2 p3 p4, ty, pos, aft, gd⟩ E S d v) (h : TR r P N Df ops rest ((d, v) :: E) S Q) : TR r P N Df ops (⟨some d, .slice p0 p1 p2 p3 p4, ty, pos, aft, gd⟩ :: rest) E S Q := TR.st1 rfl s.hN s.hp s.hw s.hv h
theorem a_slices {d : Tmp} {p0 : _} {p1 : _} {p2 : _} {p3 : _} {p4 : _} {ty : TypeId} {pos : String} {aft : Array Edge} {gd : Option (Nat × Bool)} {v : Value} (hN : dOk N d = true := by exact rfl) (hp : plainOp ⟨some d, .slice p0 p1 p2 p3 p4, ty, pos, aft, gd⟩ = true := by exact rfl) (hw : Wd N ops ⟨some d, .slice p0 p1 p2 p3 p4, ty, pos, aft, gd⟩ E true := by (first | exact Wd.plain rfl | exact Wd.on rfl rfl rfl)) (hv : EvS P N ⟨some d, .slice p0 p1 p2 p3 p4, ty, pos, aft, gd⟩ E S v := by exact EvS.sliceA rfl) : SideS P N ops ⟨some d, .slice p0 p1 p2 p3 p4, ty, pos, aft, gd⟩ E S d v := ⟨hN, hp, hw, hv⟩
theorem a_bshl {d : Tmp} {p0 : _} {p1 : _} {p2 : _} {p3 : _} {ty : TypeId} {pos : String} {aft : Array Edge} {gd : Option (Nat × Bool)} {v : Value} (s : SideS P N ops ⟨some d, .binOp .shl p0 p1 p2 p3, ty, pos, aft, gd⟩ E S d v) (h : TR r P N Df ops rest ((d, v) :: E) S Q) : TR r P N Df ops (⟨some d, .binOp .shl p0 p1 p2 p3, ty, pos, aft, gd⟩ :: rest) E S Q := TR.st1 rfl s.hN s.hp s.hw s.hv h
theorem a_bshls {d : Tmp} {p0 : _} {p1 : _} {p2 : _} {p3 : _} {ty : TypeId} {pos : String} {aft : Array Edge} {gd : Option (Nat × Bool)} {v : Value} (hN : dOk N d = true := by exact rfl) (hp : plainOp ⟨some d, .binOp .shl p0 p1 p2 p3, ty, pos, aft, gd⟩ = true := by exact rfl) (hw : Wd N ops ⟨some d, .binOp .shl p0 p1 p2 p3, ty, pos, aft, gd⟩ E true := by (first | exact Wd.plain rfl | exact Wd.on rfl rfl rfl)) (hv : EvS P N ⟨some d, .binOp .shl p0 p1 p2 p3, ty, pos, aft, gd⟩ E S v := by exact EvS.shl64 rfl rfl (by first | with_reducible exact U64.var _ | exact U64.lit rfl) (by omega)) : SideS P N ops ⟨some d, .binOp .shl p0 p1 p2 p3, ty, pos, aft, gd⟩ E S d v := ⟨hN, hp, hw, hv⟩
theorem a_bshr {d : Tmp} {p0 : _} {p1 : _} {p2 : _} {p3 : _} {ty : TypeId} {pos : String} {aft : Array Edge} {gd : Option (Nat × Bool)} {v : Value} (s : SideS P N ops ⟨some d, .binOp .shr p0 p1 p2 p3, ty, pos, aft, gd⟩ E S d v) (h : TR r P N Df ops rest ((d, v) :: E) S Q) : TR r P N Df ops (⟨some d, .binOp .shr p0 p1 p2 p3, ty, pos, aft, gd⟩ :: rest) E S Q := TR.st1 rfl s.hN s.hp s.hw s.hv h
theorem a_bshrs {d : Tmp} {p0 : _} {p1 : _} {p2 : _} {p3 : _} {ty : TypeId} {pos : String} {aft : Array Edge} {gd : Option (Nat × Bool)} {v : Value} (hN : dOk N d = true := by exact rfl) (hp : plainOp ⟨some d, .binOp .shr p0 p1 p2 p3, ty, pos, aft, gd⟩ = true := by exact rfl) (hw : Wd N ops ⟨some d, .binOp .shr p0 p1 p2 p3, ty, pos, aft, gd⟩ E true := by (first | exact Wd.plain rfl | exact Wd.on rfl rfl rfl)) (hv : EvS P N ⟨some d, .binOp .shr p0 p1 p2 p3, ty, pos, aft, gd⟩ E S v := by exact EvS.shr64 rfl rfl (by first | with_reducible exact U64.var _ | exact U64.lit rfl) (by omega)) : SideS P N ops ⟨some d, .binOp .shr p0 p1 p2 p3, ty, pos, aft, gd⟩ E S d v := ⟨hN, hp, hw, hv⟩
theorem a_rest {d : Tmp} {op : _} {ty : TypeId} {pos : String} {aft : Array Edge} {gd : Option (Nat × Bool)} {v : Value} (s : SideS P N ops ⟨some d, op, ty, pos, aft, gd⟩ E S d v) (h : TR r P N Df ops rest ((d, v) :: E) S Q) : TR r P N Df ops (⟨some d, op, ty, pos, aft, gd⟩ :: rest) E S Q := TR.st1 rfl s.hN s.hp s.hw s.hv h
theorem a_rests {d : Tmp} {op : _} {ty : TypeId} {pos : String} {aft : Array Edge} {gd : Option (Nat × Bool)} {v : Value} (hN : dOk N d = true := by exact rfl) (hp : plainOp ⟨some d, op, ty, pos, aft, gd⟩ = true := by exact rfl) (hw : Wd N ops ⟨some d, op, ty, pos, aft, gd⟩ E true := by (first | exact Wd.plain rfl | exact Wd.on rfl rfl rfl)) (hv : EvS P N ⟨some d, op, ty, pos, aft, gd⟩ E S v := by exact EvS.nilCheck rfl) : SideS P N ops ⟨some d, op, ty, pos, aft, gd⟩ E S d v := ⟨hN, hp, hw, hv⟩
theorem c_boxAs {p0 : _} {p1 : _} {d : Option Tmp} {ty : TypeId} {pos : String} {aft : Array Edge} {gd : Option (Nat × Bool)} {X : Type} {val : X → Value} {S' : X → World → Prop} (hp : plainOp ⟨d, .box p0 p1, ty, pos, aft, gd⟩ = true := by exact rfl) (hw : Wd N ops ⟨d, .box p0 p1, ty, pos, aft, gd⟩ E true := by (first | exact Wd.plain rfl | exact Wd.on rfl rfl rfl)) (hv : EvC r P N ⟨d, .box p0 p1, ty, pos, aft, gd⟩ E S (fun u w => ∃ x, u = val x ∧ S' x w) := by exact EvC.boxA rfl) : SideC r P N ops ⟨d, .box p0 p1, ty, pos, aft, gd⟩ E S val S' := ⟨hp, hw, hv⟩
theorem c_boxA {d : Tmp} {p0 : _} {p1 : _} {ty : TypeId} {pos : String} {aft : Array Edge} {gd : Option (Nat × Bool)} {X : Type} {val : X → Value} {S' : X → World → Prop} (s : SideC r P N ops ⟨some d, .box p0 p1, ty, pos, aft, gd⟩ E S val S') (hN : dOk N d = true) (h : ∀ x, TR r P N Df ops rest ((d, val x) :: E) (S' x) Q) : TR r P N Df ops (⟨some d, .box p0 p1, ty, pos, aft, gd⟩ :: rest) E S Q := TR.ch1 rfl hN s.hp s.hw s.hv h
theorem c_box1s {p0 : _} {p1 : _} {d : Option Tmp} {ty : TypeId} {pos : String} {aft : Array Edge} {gd : Option (Nat × Bool)} {X : Type} {val : X → Value} {S' : X → World → Prop} (hp : plainOp ⟨d, .box p0 p1, ty, pos, aft, gd⟩ = true := by exact rfl) (hw : Wd N ops ⟨d, .box p0 p1, ty, pos, aft, gd⟩ E true := by (first | exact Wd.plain rfl | exact Wd.on rfl rfl rfl)) (hv : EvC r P N ⟨d, .box p0 p1, ty, pos, aft, gd⟩ E S (fun u w => ∃ x, u = val x ∧ S' x w) := by exact EvC.box1 rfl rfl) : SideC r P N ops ⟨d, .box p0 p1, ty, pos, aft, gd⟩ E S val S' := ⟨hp, hw, hv⟩
theorem c_box1 {d : Tmp} {p0 : _} {p1 : _} {ty : TypeId} {pos : String} {aft : Array Edge} {gd : Option (Nat × Bool)} {X : Type} {val : X → Value} {S' : X → World → Prop} (s : SideC r P N ops ⟨some d, .box p0 p1, ty, pos, aft, gd⟩ E S val S') (hN : dOk N d = true) (h : ∀ x, TR r P N Df ops rest ((d, val x) :: E) (S' x) Q) : TR r P N Df ops (⟨some d, .box p0 p1, ty, pos, aft, gd⟩ :: rest) E S Q := TR.ch1 rfl hN s.hp s.hw s.hv h
theorem c_boxs {p0 : _} {p1 : _} {d : Option Tmp} {ty : TypeId} {pos : String} {aft : Array Edge} {gd : Option (Nat × Bool)} {X : Type} {val : X → Value} {S' : X → World → Prop} (hp : plainOp ⟨d, .box p0 p1, ty, pos, aft, gd⟩ = true := by exact rfl) (hw : Wd N ops ⟨d, .box p0 p1, ty, pos, aft, gd⟩ E true := by (first | exact Wd.plain rfl | exact Wd.on rfl rfl rfl)) (hv : EvC r P N ⟨d, .box p0 p1, ty, pos, aft, gd⟩ E S (fun u w => ∃ x, u = val x ∧ S' x w) := by exact EvC.box rfl) : SideC r P N ops ⟨d, .box p0 p1, ty, pos, aft, gd⟩ E S val S' := ⟨hp, hw, hv⟩
theorem c_box {d : Tmp} {p0 : _} {p1 : _} {ty : TypeId} {pos : String} {aft : Array Edge} {gd : Option (Nat × Bool)} {X : Type} {val : X → Value} {S' : X → World → Prop} (s : SideC r P N ops ⟨some d, .box p0 p1, ty, pos, aft, gd⟩ E S val S') (hN : dOk N d = true) (h : ∀ x, TR r P N Df ops rest ((d, val x) :: E) (S' x) Q) : TR r P N Df ops (⟨some d, .box p0 p1, ty, pos, aft, gd⟩ :: rest) E S Q := TR.ch1 rfl hN s.hp s.hw s.hv h
theorem c_allocs {p0 : _} {d : Option Tmp} {ty : TypeId} {pos : String} {aft : Array Edge} {gd : Option (Nat × Bool)} {X : Type} {val : X → Value} {S' : X → World → Prop} (hp : plainOp ⟨d, .alloc p0, ty, pos, aft, gd⟩ = true := by exact rfl) (hw : Wd N ops ⟨d, .alloc p0, ty, pos, aft, gd⟩ E true := by (first | exact Wd.plain rfl | exact Wd.on rfl rfl rfl)) (hv : EvC r P N ⟨d, .alloc p0, ty, pos, aft, gd⟩ E S (fun u w => ∃ x, u = val x ∧ S' x w) := by exact EvC.alloc) : SideC r P N ops ⟨d, .alloc p0, ty, pos, aft, gd⟩ E S val S' := ⟨hp, hw, hv⟩
theorem c_alloc {d : Tmp} {p0 : _} {ty : TypeId} {pos : String} {aft : Array Edge} {gd : Option (Nat × Bool)} {X : Type} {val : X → Value} {S' : X → World → Prop} (s : SideC r P N ops ⟨some d, .alloc p0, ty, pos, aft, gd⟩ E S val S') (hN : dOk N d = true) (h : ∀ x, TR r P N Df ops rest ((d, val x) :: E) (S' x) Q) : TR r P N Df ops (⟨some d, .alloc p0, ty, pos, aft, gd⟩ :: rest) E S Q := TR.ch1 rfl hN s.hp s.hw s.hv h
theorem c_store1s {p0 : _} {p1 : _} {p2 : _} {d : Option Tmp} {ty : TypeId} {pos : String} {aft : Array Edge} {gd : Option (Nat × Bool)} {X : Type} {val : X → Value} {S' : X → World → Prop} (hp : plainOp ⟨d, .store p0 p1 p2, ty, pos, aft, gd⟩ = true := by exact rfl) (hw : Wd N ops ⟨d, .store p0 p1 p2, ty, pos, aft, gd⟩ E true := by (first | exact Wd.plain rfl | exact Wd.on rfl rfl rfl)) (hv : EvC r P N ⟨d, .store p0 p1 p2, ty, pos, aft, gd⟩ E S (fun u w => ∃ x, u = val x ∧ S' x w) := by exact EvC.store1 rfl rfl rfl (by repeat first | exact Upd.head | apply Upd.tail) (by first | assumption | exact Nat.lt_of_sub_eq_succ rfl | (simp; omega) | simp)) : SideC r P N ops ⟨d, .store p0 p1 p2, ty, pos, aft, gd⟩ E S val S' := ⟨hp, hw, hv⟩
theorem c_store1 {p0 : _} {p1 : _} {p2 : _} {ty : TypeId} {pos : String} {aft : Array Edge} {gd : Option (Nat × Bool)} {X : Type} {val : X → Value} {S' : X → World → Prop} (s : SideC r P N ops ⟨none, .store p0 p1 p2, ty, pos, aft, gd⟩ E S val S') (h : ∀ x, TR r P N Df ops rest E (S' x) Q) : TR r P N Df ops (⟨none, .store p0 p1 p2, ty, pos, aft, gd⟩ :: rest) E S Q := TR.ch0 rfl s.hp s.hw s.hv h
theorem c_storeWs {p0 : _} {p1 : _} {p2 : _} {d : Option Tmp} {ty : TypeId} {pos : String} {aft : Array Edge} {gd : Option (Nat × Bool)} {X : Type} {val : X → Value} {S' : X → World → Prop} (hp : plainOp ⟨d, .store p0 p1 p2, ty, pos, aft, gd⟩ = true := by exact rfl) (hw : Wd N ops ⟨d, .store p0 p1 p2, ty, pos, aft, gd⟩ E true := by (first | exact Wd.plain rfl | exact Wd.on rfl rfl rfl)) (hv : EvC r P N ⟨d, .store p0 p1 p2, ty, pos, aft, gd⟩ E S (fun u w => ∃ x, u = val x ∧ S' x w) := by exact EvC.storeW rfl rfl (by first | exact rfl | assumption) (by first | exact bArr_one _ | exact rfl | (intro v hv; simp at hv; rcases hv with rfl | rfl | rfl | rfl | rfl | rfl | rfl | rfl <;> rfl)) (by repeat first | exact Upd.head | apply Upd.tail) (by first | exact rfl | assumption)) : SideC r P N ops ⟨d, .store p0 p1 p2, ty, pos, aft, gd⟩ E S val S' := ⟨hp, hw, hv⟩
theorem c_storeW {p0 : _} {p1 : _} {p2 : _} {ty : TypeId} {pos : String} {aft : Array Edge} {gd : Option (Nat × Bool)} {X : Type} {val : X → Value} {S' : X → World → Prop} (s : SideC r P N ops ⟨none, .store p0 p1 p2, ty, pos, aft, gd⟩ E S val S') (h : ∀ x, TR r P N Df ops rest E (S' x) Q) : TR r P N Df ops (⟨none, .store p0 p1 p2, ty, pos, aft, gd⟩ :: rest) E S Q := TR.ch0 rfl s.hp s.hw s.hv h
theorem c_makeMaps {op : _} {d : Option Tmp} {ty : TypeId} {pos : String} {aft : Array Edge} {gd : Option (Nat × Bool)} {X : Type} {val : X → Value} {S' : X → World → Prop} (hp : plainOp ⟨d, op, ty, pos, aft, gd⟩ = true := by exact rfl) (hw : Wd N ops ⟨d, op, ty, pos, aft, gd⟩ E true := by (first | exact Wd.plain rfl | exact Wd.on rfl rfl rfl)) (hv : EvC r P N ⟨d, op, ty, pos, aft, gd⟩ E S (fun u w => ∃ x, u = val x ∧ S' x w) := by exact EvC.makeMap) : SideC r P N ops ⟨d, op, ty, pos, aft, gd⟩ E S val S' := ⟨hp, hw, hv⟩
theorem c_makeMap {d : Tmp} {op : _} {ty : TypeId} {pos : String} {aft : Array Edge} {gd : Option (Nat × Bool)} {X : Type} {val : X → Value} {S' : X → World → Prop} (s : SideC r P N ops ⟨some d, op, ty, pos, aft, gd⟩ E S val S') (hN : dOk N d = true) (h : ∀ x, TR r P N Df ops rest ((d, val x) :: E) (S' x) Q) : TR r P N Df ops (⟨some d, op, ty, pos, aft, gd⟩ :: rest) E S Q := TR.ch1 rfl hN s.hp s.hw s.hv h
theorem c_buildAs {p0 : _} {p1 : _} {p2 : _} {d : Option Tmp} {ty : TypeId} {pos : String} {aft : Array Edge} {gd : Option (Nat × Bool)} {X : Type} {val : X → Value} {S' : X → World → Prop} (hp : plainOp ⟨d, .buildSlice p0 p1 p2, ty, pos, aft, gd⟩ = true := by exact rfl) (hw : Wd N ops ⟨d, .buildSlice p0 p1 p2, ty, pos, aft, gd⟩ E true := by (first | exact Wd.plain rfl | exact Wd.on rfl rfl rfl)) (hv : EvC r P N ⟨d, .buildSlice p0 p1 p2, ty, pos, aft, gd⟩ E S (fun u w => ∃ x, u = val x ∧ S' x w) := by exact EvC.buildA rfl (by exact rfl) (by exact rfl) (by decide) (by decide)) : SideC r P N ops ⟨d, .buildSlice p0 p1 p2, ty, pos, aft, gd⟩ E S val S' := ⟨hp, hw, hv⟩
theorem c_buildA {d : Tmp} {p0 : _} {p1 : _} {p2 : _} {ty : TypeId} {pos : String} {aft : Array Edge} {gd : Option (Nat × Bool)} {X : Type} {val : X → Value} {S' : X → World → Prop} (s : SideC r P N ops ⟨some d, .buildSlice p0 p1 p2, ty, pos, aft, gd⟩ E S val S') (hN : dOk N d = true) (h : ∀ x, TR r P N Df ops rest ((d, val x) :: E) (S' x) Q) : TR r P N Df ops (⟨some d, .buildSlice p0 p1 p2, ty, pos, aft, gd⟩ :: rest) E S Q := TR.ch1 rfl hN s.hp s.hw s.hv h
theorem c_build1s {p0 : _} {p1 : _} {p2 : _} {d : Option Tmp} {ty : TypeId} {pos : String} {aft : Array Edge} {gd : Option (Nat × Bool)} {X : Type} {val : X → Value} {S' : X → World → Prop} (hp : plainOp ⟨d, .buildSlice p0 p1 p2, ty, pos, aft, gd⟩ = true := by exact rfl) (hw : Wd N ops ⟨d, .buildSlice p0 p1 p2, ty, pos, aft, gd⟩ E true := by (first | exact Wd.plain rfl | exact Wd.on rfl rfl rfl)) (hv : EvC r P N ⟨d, .buildSlice p0 p1 p2, ty, pos, aft, gd⟩ E S (fun u w => ∃ x, u = val x ∧ S' x w) := by exact EvC.build1 rfl (by exact rfl) (by exact rfl)) : SideC r P N ops ⟨d, .buildSlice p0 p1 p2, ty, pos, aft, gd⟩ E S val S' := ⟨hp, hw, hv⟩
theorem c_build1 {d : Tmp} {p0 : _} {p1 : _} {p2 : _} {ty : TypeId} {pos : String} {aft : Array Edge} {gd : Option (Nat × Bool)} {X : Type} {val : X → Value} {S' : X → World → Prop} (s : SideC r P N ops ⟨some d, .buildSlice p0 p1 p2, ty, pos, aft, gd⟩ E S val S') (hN : dOk N d = true) (h : ∀ x, TR r P N Df ops rest ((d, val x) :: E) (S' x) Q) : TR r P N Df ops (⟨some d, .buildSlice p0 p1 p2, ty, pos, aft, gd⟩ :: rest) E S Q := TR.ch1 rfl hN s.hp s.hw s.hv h
theorem d_move {d : Tmp} {p0 : _} {ty : TypeId} {pos : String} {aft : Array Edge} {gd : Option (Nat × Bool)} {v : Value} (s : SideD P N ops ⟨some d, .move p0, ty, pos, aft, gd⟩ E Sb v) (h : D r P N Df ops B Q Sb A ((d, v) :: E) S) : D r P N Df ops B Q Sb ((.st, ⟨some d, .move p0, ty, pos, aft, gd⟩) :: A) E S := D.st1 rfl s.hw s.hv h
theorem d_moves {d : Tmp} {p0 : _} {ty : TypeId} {pos : String} {aft : Array Edge} {gd : Option (Nat × Bool)} {v : Value} (hw : Wd N ops ⟨some d, .move p0, ty, pos, aft, gd⟩ E true := by (first | exact Wd.plain rfl | exact Wd.on rfl rfl rfl)) (hv : EvS P N ⟨some d, .move p0, ty, pos, aft, gd⟩ E Sb v := by exact EvS.move rfl) : SideD P N ops ⟨some d, .move p0, ty, pos, aft, gd⟩ E Sb v := ⟨hw, hv⟩
theorem e_move {l0 l : List Oper} {acc ks : List Kind} {d : Tmp} {p0 : _} {ty : TypeId} {pos : String} {aft : Array Edge} {gd : Option (Nat × Bool)} {v : Value} (s : SideD P N l0.toArray ⟨some d, .move p0, ty, pos, aft, gd⟩ E Sb v) (h : DW r P N Df l0 Q Sb l (.st :: acc) ks ((d, v) :: E) S) : DW r P N Df l0 Q Sb (⟨some d, .move p0, ty, pos, aft, gd⟩ :: l) acc (.st :: ks) E S := DW.st1 rfl s.hw s.hv h
theorem d_assign {d : Tmp} {p0 : _} {ty : TypeId} {pos : String} {aft : Array Edge} {gd : Option (Nat × Bool)} {v : Value} (s : SideD P N ops ⟨some d, .assign p0, ty, pos, aft, gd⟩ E Sb v) (h : D r P N Df ops B Q Sb A ((d, v) :: E) S) : D r P N Df ops B Q Sb ((.st, ⟨some d, .assign p0, ty, pos, aft, gd⟩) :: A) E S := D.st1 rfl s.hw s.hv h
theorem d_assigns {d : Tmp} {p0 : _} {ty : TypeId} {pos : String} {aft : Array Edge} {gd : Option (Nat × Bool)} {v : Value} (hw : Wd N ops ⟨some d, .assign p0, ty, pos, aft, gd⟩ E true := by (first | exact Wd.plain rfl | exact Wd.on rfl rfl rfl)) (hv : EvS P N ⟨some d, .assign p0, ty, pos, aft, gd⟩ E Sb v := by exact EvS.assign rfl) : SideD P N ops ⟨some d, .assign p0, ty, pos, aft, gd⟩ E Sb v := ⟨hw, hv⟩
theorem e_assign {l0 l : List Oper} {acc ks : List Kind} {d : Tmp} {p0 : _} {ty : TypeId} {pos : String} {aft : Array Edge} {gd : Option (Nat × Bool)} {v : Value} (s : SideD P N l0.toArray ⟨some d, .assign p0, ty, pos, aft, gd⟩ E Sb v) (h : DW r P N Df l0 Q Sb l (.st :: acc) ks ((d, v) :: E) S) : DW r P N Df l0 Q Sb (⟨some d, .assign p0, ty, pos, aft, gd⟩ :: l) acc (.st :: ks) E S := DW.st1 rfl s.hw s.hv h
theorem d_fieldAddr {d : Tmp} {p0 : _} {p1 : _} {p2 : _} {ty : TypeId} {pos : String} {aft : Array Edge} {gd : Option (Nat × Bool)} {v : Value} (s : SideD P N ops ⟨some d, .fieldAddr p0 p1 p2, ty, pos, aft, gd⟩ E Sb v) (h : D r P N Df ops B Q Sb A ((d, v) :: E) S) : D r P N Df ops B Q Sb ((.st, ⟨some d, .fieldAddr p0 p1 p2, ty, pos, aft, gd⟩) :: A) E S := D.st1 rfl s.hw s.hv h
theorem d_fieldAddrs {d : Tmp} {p0 : _} {p1 : _} {p2 : _} {ty : TypeId} {pos : String} {aft : Array Edge} {gd : Option (Nat × Bool)} {v : Value} (hw : Wd N ops ⟨some d, .fieldAddr p0 p1 p2, ty, pos, aft, gd⟩ E true := by (first | exact Wd.plain rfl | exact Wd.on rfl rfl rfl)) (hv : EvS P N ⟨some d, .fieldAddr p0 p1 p2, ty, pos, aft, gd⟩ E Sb v := by exact EvS.fieldAddr rfl) : SideD P N ops ⟨some d, .fieldAddr p0 p1 p2, ty, pos, aft, gd⟩ E Sb v := ⟨hw, hv⟩
theorem e_fieldAddr {l0 l : List Oper} {acc ks : List Kind} {d : Tmp} {p0 : _} {p1 : _} {p2 : _} {ty : TypeId} {pos : String} {aft : Array Edge} {gd : Option (Nat × Bool)} {v : Value} (s : SideD P N l0.toArray ⟨some d, .fieldAddr p0 p1 p2, ty, pos, aft, gd⟩ E Sb v) (h : DW r P N Df l0 Q Sb l (.st :: acc) ks ((d, v) :: E) S) : DW r P N Df l0 Q Sb (⟨some d, .fieldAddr p0 p1 p2, ty, pos, aft, gd⟩ :: l) acc (.st :: ks) E S := DW.st1 rfl s.hw s.hv h
theorem d_load {d : Tmp} {p0 : _} {p1 : _} {ty : TypeId} {pos : String} {aft : Array Edge} {gd : Option (Nat × Bool)} {v : Value} (s : SideD P N ops ⟨some d, .load p0 p1, ty, pos, aft, gd⟩ E Sb v) (h : D r P N Df ops B Q Sb A ((d, v) :: E) S) : D r P N Df ops B Q Sb ((.st, ⟨some d, .load p0 p1, ty, pos, aft, gd⟩) :: A) E S := D.st1 rfl s.hw s.hv h
theorem d_loads {d : Tmp} {p0 : _} {p1 : _} {ty : TypeId} {pos : String} {aft : Array Edge} {gd : Option (Nat × Bool)} {v : Value} (hw : Wd N ops ⟨some d, .load p0 p1, ty, pos, aft, gd⟩ E true := by (first | exact Wd.plain rfl | exact Wd.on rfl rfl rfl)) (hv : EvS P N ⟨some d, .load p0 p1, ty, pos, aft, gd⟩ E Sb v := by (first | (apply EvS.load1; exact rfl; (first | exact Reads.memX (by assumption) | exact Reads.ownX (by repeat first | exact List.Mem.head _ | assumption | apply List.Mem.tail)); (first | assumption | exact nthL_arr rfl | exact rfl)) | (apply EvS.loadW; exact rfl; (first | exact Reads.memX (by assumption) | exact Reads.ownX (by repeat first | exact List.Mem.head _ | assumption | apply List.Mem.tail)); first | exact rfl | assumption) | (apply EvS.loadH; exact rfl; (first | exact Reads.memX (by assumption) | exact Reads.ownX (by repeat first | exact List.Mem.head _ | assumption | apply List.Mem.tail)); assumption; first | exact rfl | assumption))) : SideD P N ops ⟨some d, .load p0 p1, ty, pos, aft, gd⟩ E Sb v := ⟨hw, hv⟩
theorem e_load {l0 l : List Oper} {acc ks : List Kind} {d : Tmp} {p0 : _} {p1 : _} {ty : TypeId} {pos : String} {aft : Array Edge} {gd : Option (Nat × Bool)} {v : Value} (s : SideD P N l0.toArray ⟨some d, .load p0 p1, ty, pos, aft, gd⟩ E Sb v) (h : DW r P N Df l0 Q Sb l (.st :: acc) ks ((d, v) :: E) S) : DW r P N Df l0 Q Sb (⟨some d, .load p0 p1, ty, pos, aft, gd⟩ :: l) acc (.st :: ks) E S := DW.st1 rfl s.hw s.hv h
theorem d_len {d : Tmp} {p0 : _} {ty : TypeId} {pos : String} {aft : Array Edge} {gd : Option (Nat × Bool)} {v : Value} (s : SideD P N ops ⟨some d, .call p0, ty, pos, aft, gd⟩ E Sb v) (h : D r P N Df ops B Q Sb A ((d, v) :: E) S) : D r P N Df ops B Q Sb ((.st, ⟨some d, .call p0, ty, pos, aft, gd⟩) :: A) E S := D.st1 rfl s.hw s.hv h
theorem d_lens {d : Tmp} {p0 : _} {ty : TypeId} {pos : String} {aft : Array Edge} {gd : Option (Nat × Bool)} {v : Value} (hw : Wd N ops ⟨some d, .call p0, ty, pos, aft, gd⟩ E true := by (first | exact Wd.plain rfl | exact Wd.on rfl rfl rfl)) (hv : EvS P N ⟨some d, .call p0, ty, pos, aft, gd⟩ E Sb v := by exact EvS.len rfl) : SideD P N ops ⟨some d, .call p0, ty, pos, aft, gd⟩ E Sb v := ⟨hw, hv⟩
theorem e_len {l0 l : List Oper} {acc ks : List Kind} {d : Tmp} {p0 : _} {ty : TypeId} {pos : String} {aft : Array Edge} {gd : Option (Nat × Bool)} {v : Value} (s : SideD P N l0.toArray ⟨some d, .call p0, ty, pos, aft, gd⟩ E Sb v) (h : DW r P N Df l0 Q Sb l (.st :: acc) ks ((d, v) :: E) S) : DW r P N Df l0 Q Sb (⟨some d, .call p0, ty, pos, aft, gd⟩ :: l) acc (.st :: ks) E S := DW.st1 rfl s.hw s.hv h
theorem d_unOp {d : Tmp} {p0 : _} {p1 : _} {p2 : _} {ty : TypeId} {pos : String} {aft : Array Edge} {gd : Option (Nat × Bool)} {v : Value} (s : SideD P N ops ⟨some d, .unOp p0 p1 p2, ty, pos, aft, gd⟩ E Sb v) (h : D r P N Df ops B Q Sb A ((d, v) :: E) S) : D r P N Df ops B Q Sb ((.st, ⟨some d, .unOp p0 p1 p2, ty, pos, aft, gd⟩) :: A) E S := D.st1 rfl s.hw s.hv h
theorem d_unOps {d : Tmp} {p0 : _} {p1 : _} {p2 : _} {ty : TypeId} {pos : String} {aft : Array Edge} {gd : Option (Nat × Bool)} {v : Value} (hw : Wd N ops ⟨some d, .unOp p0 p1 p2, ty, pos, aft, gd⟩ E true := by (first | exact Wd.plain rfl | exact Wd.on rfl rfl rfl)) (hv : EvS P N ⟨some d, .unOp p0 p1 p2, ty, pos, aft, gd⟩ E Sb v := by (first | exact EvS.not rfl | exact EvS.neg64 rfl (by first | with_reducible exact U64.var _ | exact U64.lit rfl))) : SideD P N ops ⟨some d, .unOp p0 p1 p2, ty, pos, aft, gd⟩ E Sb v := ⟨hw, hv⟩
theorem e_unOp {l0 l : List Oper} {acc ks : List Kind} {d : Tmp} {p0 : _} {p1 : _} {p2 : _} {ty : TypeId} {pos : String} {aft : Array Edge} {gd : Option (Nat × Bool)} {v : Value} (s : SideD P N l0.toArray ⟨some d, .unOp p0 p1 p2, ty, pos, aft, gd⟩ E Sb v) (h : DW r P N Df l0 Q Sb l (.st :: acc) ks ((d, v) :: E) S) : DW r P N Df l0 Q Sb (⟨some d, .unOp p0 p1 p2, ty, pos, aft, gd⟩ :: l) acc (.st :: ks) E S := DW.st1 rfl s.hw s.hv h
theorem d_beql {d : Tmp} {p0 : _} {p1 : _} {p2 : _} {p3 : _} {ty : TypeId} {pos : String} {aft : Array Edge} {gd : Option (Nat × Bool)} {v : Value} (s : SideD P N ops ⟨some d, .binOp .eql p0 p1 p2 p3, ty, pos, aft, gd⟩ E Sb v) (h : D r P N Df ops B Q Sb A ((d, v) :: E) S) : D r P N Df ops B Q Sb ((.st, ⟨some d, .binOp .eql p0 p1 p2 p3, ty, pos, aft, gd⟩) :: A) E S := D.st1 rfl s.hw s.hv h
theorem d_beqls {d : Tmp} {p0 : _} {p1 : _} {p2 : _} {p3 : _} {ty : TypeId} {pos : String} {aft : Array Edge} {gd : Option (Nat × Bool)} {v : Value} (hw : Wd N ops ⟨some d, .binOp .eql p0 p1 p2 p3, ty, pos, aft, gd⟩ E true := by (first | exact Wd.plain rfl | exact Wd.on rfl rfl rfl)) (hv : EvS P N ⟨some d, .binOp .eql p0 p1 p2 p3, ty, pos, aft, gd⟩ E Sb v := by (first | exact EvS.eq64 rfl rfl (by first | with_reducible exact U64.var _ | exact U64.lit rfl) (by first | with_reducible exact U64.var _ | exact U64.lit rfl) | exact EvS.eqI rfl rfl | exact EvS.eqB rfl rfl)) : SideD P N ops ⟨some d, .binOp .eql p0 p1 p2 p3, ty, pos, aft, gd⟩ E Sb v := ⟨hw, hv⟩
theorem e_beql {l0 l : List Oper} {acc ks : List Kind} {d : Tmp} {p0 : _} {p1 : _} {p2 : _} {p3 : _} {ty : TypeId} {pos : String} {aft : Array Edge} {gd : Option (Nat × Bool)} {v : Value} (s : SideD P N l0.toArray ⟨some d, .binOp .eql p0 p1 p2 p3, ty, pos, aft, gd⟩ E Sb v) (h : DW r P N Df l0 Q Sb l (.st :: acc) ks ((d, v) :: E) S) : DW r P N Df l0 Q Sb (⟨some d, .binOp .eql p0 p1 p2 p3, ty, pos, aft, gd⟩ :: l) acc (.st :: ks) E S := DW.st1 rfl s.hw s.hv h
theorem d_bneq {d : Tmp} {p0 : _} {p1 : _} {p2 : _} {p3 : _} {ty : TypeId} {pos : String} {aft : Array Edge} {gd : Option (Nat × Bool)} {v : Value} (s : SideD P N ops ⟨some d, .binOp .neq p0 p1 p2 p3, ty, pos, aft, gd⟩ E Sb v) (h : D r P N Df ops B Q Sb A ((d, v) :: E) S) : D r P N Df ops B Q Sb ((.st, ⟨some d, .binOp .neq p0 p1 p2 p3, ty, pos, aft, gd⟩) :: A) E S := D.st1 rfl s.hw s.hv h
theorem d_bneqs {d : Tmp} {p0 : _} {p1 : _} {p2 : _} {p3 : _} {ty : TypeId} {pos : String} {aft : Array Edge} {gd : Option (Nat × Bool)} {v : Value} (hw : Wd N ops ⟨some d, .binOp .neq p0 p1 p2 p3, ty, pos, aft, gd⟩ E true := by (first | exact Wd.plain rfl | exact Wd.on rfl rfl rfl)) (hv : EvS P N ⟨some d, .binOp .neq p0 p1 p2 p3, ty, pos, aft, gd⟩ E Sb v := by (first | exact EvS.ne64 rfl rfl (by first | with_reducible exact U64.var _ | exact U64.lit rfl) (by first | with_reducible exact U64.var _ | exact U64.lit rfl) | exact EvS.neB rfl rfl | exact EvS.neI rfl rfl)) : SideD P N ops ⟨some d, .binOp .neq p0 p1 p2 p3, ty, pos, aft, gd⟩ E Sb v := ⟨hw, hv⟩
theorem e_bneq {l0 l : List Oper} {acc ks : List Kind} {d : Tmp} {p0 : _} {p1 : _} {p2 : _} {p3 : _} {ty : TypeId} {pos : String} {aft : Array Edge} {gd : Option (Nat × Bool)} {v : Value} (s : SideD P N l0.toArray ⟨some d, .binOp .neq p0 p1 p2 p3, ty, pos, aft, gd⟩ E Sb v) (h : DW r P N Df l0 Q Sb l (.st :: acc) ks ((d, v) :: E) S) : DW r P N Df l0 Q Sb (⟨some d, .binOp .neq p0 p1 p2 p3, ty, pos, aft, gd⟩ :: l) acc (.st :: ks) E S := DW.st1 rfl s.hw s.hv h
theorem d_band {d : Tmp} {p0 : _} {p1 : _} {p2 : _} {p3 : _} {ty : TypeId} {pos : String} {aft : Array Edge} {gd : Option (Nat × Bool)} {v : Value} (s : SideD P N ops ⟨some d, .binOp .and p0 p1 p2 p3, ty, pos, aft, gd⟩ E Sb v) (h : D r P N Df ops B Q Sb A ((d, v) :: E) S) : D r P N Df ops B Q Sb ((.st, ⟨some d, .binOp .and p0 p1 p2 p3, ty, pos, aft, gd⟩) :: A) E S := D.st1 rfl s.hw s.hv h
theorem d_bands {d : Tmp} {p0 : _} {p1 : _} {p2 : _} {p3 : _} {ty : TypeId} {pos : String} {aft : Array Edge} {gd : Option (Nat × Bool)} {v : Value} (hw : Wd N ops ⟨some d, .binOp .and p0 p1 p2 p3, ty, pos, aft, gd⟩ E true := by (first | exact Wd.plain rfl | exact Wd.on rfl rfl rfl)) (hv : EvS P N ⟨some d, .binOp .and p0 p1 p2 p3, ty, pos, aft, gd⟩ E Sb v := by exact EvS.and64 rfl rfl (by first | with_reducible exact U64.var _ | exact U64.lit rfl) (by first | with_reducible exact U64.var _ | exact U64.lit rfl)) : SideD P N ops ⟨some d, .binOp .and p0 p1 p2 p3, ty, pos, aft, gd⟩ E Sb v := ⟨hw, hv⟩
theorem e_band {l0 l : List Oper} {acc ks : List Kind} {d : Tmp} {p0 : _} {p1 : _} {p2 : _} {p3 : _} {ty : TypeId} {pos : String} {aft : Array Edge} {gd : Option (Nat × Bool)} {v : Value} (s : SideD P N l0.toArray ⟨some d, .binOp .and p0 p1 p2 p3, ty, pos, aft, gd⟩ E Sb v) (h : DW r P N Df l0 Q Sb l (.st :: acc) ks ((d, v) :: E) S) : DW r P N Df l0 Q Sb (⟨some d, .binOp .and p0 p1 p2 p3, ty, pos, aft, gd⟩ :: l) acc (.st :: ks) E S := DW.st1 rfl s.hw s.hv h
theorem d_bor {d : Tmp} {p0 : _} {p1 : _} {p2 : _} {p3 : _} {ty : TypeId} {pos : String} {aft : Array Edge} {gd : Option (Nat × Bool)} {v : Value} (s : SideD P N ops ⟨some d, .binOp .or p0 p1 p2 p3, ty, pos, aft, gd⟩ E Sb v) (h : D r P N Df ops B Q Sb A ((d, v) :: E) S) : D r P N Df ops B Q Sb ((.st, ⟨some d, .binOp .or p0 p1 p2 p3, ty, pos, aft, gd⟩) :: A) E S := D.st1 rfl s.hw s.hv h
theorem d_bors {d : Tmp} {p0 : _} {p1 : _} {p2 : _} {p3 : _} {ty : TypeId} {pos : String} {aft : Array Edge} {gd : Option (Nat × Bool)} {v : Value} (hw : Wd N ops ⟨some d, .binOp .or p0 p1 p2 p3, ty, pos, aft, gd⟩ E true := by (first | exact Wd.plain rfl | exact Wd.on rfl rfl rfl)) (hv : EvS P N ⟨some d, .binOp .or p0 p1 p2 p3, ty, pos, aft, gd⟩ E Sb v := by exact EvS.or64 rfl rfl (by first | with_reducible exact U64.var _ | exact U64.lit rfl) (by first | with_reducible exact U64.var _ | exact U64.lit rfl)) : SideD P N ops ⟨some d, .binOp .or p0 p1 p2 p3, ty, pos, aft, gd⟩ E Sb v := ⟨hw, hv⟩
theorem e_bor {l0 l : List Oper} {acc ks : List Kind} {d : Tmp} {p0 : _} {p1 : _} {p2 : _} {p3 : _} {ty : TypeId} {pos : String} {aft : Array Edge} {gd : Option (Nat × Bool)} {v : Value} (s : SideD P N l0.toArray ⟨some d, .binOp .or p0 p1 p2 p3, ty, pos, aft, gd⟩ E Sb v) (h : DW r P N Df l0 Q Sb l (.st :: acc) ks ((d, v) :: E) S) : DW r P N Df l0 Q Sb (⟨some d, .binOp .or p0 p1 p2 p3, ty, pos, aft, gd⟩ :: l) acc (.st :: ks) E S := DW.st1 rfl s.hw s.hv h
theorem d_bandNot {d : Tmp} {p0 : _} {p1 : _} {p2 : _} {p3 : _} {ty : TypeId} {pos : String} {aft : Array Edge} {gd : Option (Nat × Bool)} {v : Value} (s : SideD P N ops ⟨some d, .binOp .andNot p0 p1 p2 p3, ty, pos, aft, gd⟩ E Sb v) (h : D r P N Df ops B Q Sb A ((d, v) :: E) S) : D r P N Df ops B Q Sb ((.st, ⟨some d, .binOp .andNot p0 p1 p2 p3, ty, pos, aft, gd⟩) :: A) E S := D.st1 rfl s.hw s.hv h
theorem d_bandNots {d : Tmp} {p0 : _} {p1 : _} {p2 : _} {p3 : _} {ty : TypeId} {pos : String} {aft : Array Edge} {gd : Option (Nat × Bool)} {v : Value} (hw : Wd N ops ⟨some d, .binOp .andNot p0 p1 p2 p3, ty, pos, aft, gd⟩ E true := by (first | exact Wd.plain rfl | exact Wd.on rfl rfl rfl)) (hv : EvS P N ⟨some d, .binOp .andNot p0 p1 p2 p3, ty, pos, aft, gd⟩ E Sb v := by exact EvS.andNot64 rfl rfl (by first | with_reducible exact U64.var _ | exact U64.lit rfl) (by first | with_reducible exact U64.var _ | exact U64.lit rfl)) : SideD P N ops ⟨some d, .binOp .andNot p0 p1 p2 p3, ty, pos, aft, gd⟩ E Sb v := ⟨hw, hv⟩
theorem e_bandNot {l0 l : List Oper} {acc ks : List Kind} {d : Tmp} {p0 : _} {p1 : _} {p2 : _} {p3 : _} {ty : TypeId} {pos : String} {aft : Array Edge} {gd : Option (Nat × Bool)} {v : Value} (s : SideD P N l0.toArray ⟨some d, .binOp .andNot p0 p1 p2 p3, ty, pos, aft, gd⟩ E Sb v) (h : DW r P N Df l0 Q Sb l (.st :: acc) ks ((d, v) :: E) S) : DW r P N Df l0 Q Sb (⟨some d, .binOp .andNot p0 p1 p2 p3, ty, pos, aft, gd⟩ :: l) acc (.st :: ks) E S := DW.st1 rfl s.hw s.hv h
theorem d_convert {d : Tmp} {p0 : _} {p1 : _} {p2 : _} {ty : TypeId} {pos : String} {aft : Array Edge} {gd : Option (Nat × Bool)} {v : Value} (s : SideD P N ops ⟨some d, .convert p0 p1 p2, ty, pos, aft, gd⟩ E Sb v) (h : D r P N Df ops B Q Sb A ((d, v) :: E) S) : D r P N Df ops B Q Sb ((.st, ⟨some d, .convert p0 p1 p2, ty, pos, aft, gd⟩) :: A) E S := D.st1 rfl s.hw s.hv h
theorem d_converts {d : Tmp} {p0 : _} {p1 : _} {p2 : _} {ty : TypeId} {pos : String} {aft : Array Edge} {gd : Option (Nat × Bool)} {v : Value} (hw : Wd N ops ⟨some d, .convert p0 p1 p2, ty, pos, aft, gd⟩ E true := by (first | exact Wd.plain rfl | exact Wd.on rfl rfl rfl)) (hv : EvS P N ⟨some d, .convert p0 p1 p2, ty, pos, aft, gd⟩ E Sb v := by exact EvS.convI rfl) : SideD P N ops ⟨some d, .convert p0 p1 p2, ty, pos, aft, gd⟩ E Sb v := ⟨hw, hv⟩
theorem e_convert {l0 l : List Oper} {acc ks : List Kind} {d : Tmp} {p0 : _} {p1 : _} {p2 : _} {ty : TypeId} {pos : String} {aft : Array Edge} {gd : Option (Nat × Bool)} {v : Value} (s : SideD P N l0.toArray ⟨some d, .convert p0 p1 p2, ty, pos, aft, gd⟩ E Sb v) (h : DW r P N Df l0 Q Sb l (.st :: acc) ks ((d, v) :: E) S) : DW r P N Df l0 Q Sb (⟨some d, .convert p0 p1 p2, ty, pos, aft, gd⟩ :: l) acc (.st :: ks) E S := DW.st1 rfl s.hw s.hv h
theorem d_bmul {d : Tmp} {p0 : _} {p1 : _} {p2 : _} {p3 : _} {ty : TypeId} {pos : String} {aft : Array Edge} {gd : Option (Nat × Bool)} {v : Value} (s : SideD P N ops ⟨some d, .binOp .mul p0 p1 p2 p3, ty, pos, aft, gd⟩ E Sb v) (h : D r P N Df ops B Q Sb A ((d, v) :: E) S) : D r P N Df ops B Q Sb ((.st, ⟨some d, .binOp .mul p0 p1 p2 p3, ty, pos, aft, gd⟩) :: A) E S := D.st1 rfl s.hw s.hv h
theorem d_bmuls {d : Tmp} {p0 : _} {p1 : _} {p2 : _} {p3 : _} {ty : TypeId} {pos : String} {aft : Array Edge} {gd : Option (Nat × Bool)} {v : Value} (hw : Wd N ops ⟨some d, .binOp .mul p0 p1 p2 p3, ty, pos, aft, gd⟩ E true := by (first | exact Wd.plain rfl | exact Wd.on rfl rfl rfl)) (hv : EvS P N ⟨some d, .binOp .mul p0 p1 p2 p3, ty, pos, aft, gd⟩ E Sb v := by exact EvS.mul64 rfl rfl (by first | with_reducible exact U64.var _ | exact U64.lit rfl) (by first | with_reducible exact U64.var _ | exact U64.lit rfl)) : SideD P N ops ⟨some d, .binOp .mul p0 p1 p2 p3, ty, pos, aft, gd⟩ E Sb v := ⟨hw, hv⟩
theorem e_bmul {l0 l : List Oper} {acc ks : List Kind} {d : Tmp} {p0 : _} {p1 : _} {p2 : _} {p3 : _} {ty : TypeId} {pos : String} {aft : Array Edge} {gd : Option (Nat × Bool)} {v : Value} (s : SideD P N l0.toArray ⟨some d, .binOp .mul p0 p1 p2 p3, ty, pos, aft, gd⟩ E Sb v) (h : DW r P N Df l0 Q Sb l (.st :: acc) ks ((d, v) :: E) S) : DW r P N Df l0 Q Sb (⟨some d, .binOp .mul p0 p1 p2 p3, ty, pos, aft, gd⟩ :: l) acc (.st :: ks) E S := DW.st1 rfl s.hw s.hv h
theorem d_blss {d : Tmp} {p0 : _} {p1 : _} {p2 : _} {p3 : _} {ty : TypeId} {pos : String} {aft : Array Edge} {gd : Option (Nat × Bool)} {v : Value} (s : SideD P N ops ⟨some d, .binOp .lss p0 p1 p2 p3, ty, pos, aft, gd⟩ E Sb v) (h : D r P N Df ops B Q Sb A ((d, v) :: E) S) : D r P N Df ops B Q Sb ((.st, ⟨some d, .binOp .lss p0 p1 p2 p3, ty, pos, aft, gd⟩) :: A) E S := D.st1 rfl s.hw s.hv h
theorem d_blsss {d : Tmp} {p0 : _} {p1 : _} {p2 : _} {p3 : _} {ty : TypeId} {pos : String} {aft : Array Edge} {gd : Option (Nat × Bool)} {v : Value} (hw : Wd N ops ⟨some d, .binOp .lss p0 p1 p2 p3, ty, pos, aft, gd⟩ E true := by (first | exact Wd.plain rfl | exact Wd.on rfl rfl rfl)) (hv : EvS P N ⟨some d, .binOp .lss p0 p1 p2 p3, ty, pos, aft, gd⟩ E Sb v := by exact EvS.ltI rfl rfl) : SideD P N ops ⟨some d, .binOp .lss p0 p1 p2 p3, ty, pos, aft, gd⟩ E Sb v := ⟨hw, hv⟩
theorem e_blss {l0 l : List Oper} {acc ks : List Kind} {d : Tmp} {p0 : _} {p1 : _} {p2 : _} {p3 : _} {ty : TypeId} {pos : String} {aft : Array Edge} {gd : Option (Nat × Bool)} {v : Value} (s : SideD P N l0.toArray ⟨some d, .binOp .lss p0 p1 p2 p3, ty, pos, aft, gd⟩ E Sb v) (h : DW r P N Df l0 Q Sb l (.st :: acc) ks ((d, v) :: E) S) : DW r P N Df l0 Q Sb (⟨some d, .binOp .lss p0 p1 p2 p3, ty, pos, aft, gd⟩ :: l) acc (.st :: ks) E S := DW.st1 rfl s.hw s.hv h
theorem d_bleq {d : Tmp} {p0 : _} {p1 : _} {p2 : _} {p3 : _} {ty : TypeId} {pos : String} {aft : Array Edge} {gd : Option (Nat × Bool)} {v : Value} (s : SideD P N ops ⟨some d, .binOp .leq p0 p1 p2 p3, ty, pos, aft, gd⟩ E Sb v) (h : D r P N Df ops B Q Sb A ((d, v) :: E) S) : D r P N Df ops B Q Sb ((.st, ⟨some d, .binOp .leq p0 p1 p2 p3, ty, pos, aft, gd⟩) :: A) E S := D.st1 rfl s.hw s.hv h
theorem d_bleqs {d : Tmp} {p0 : _} {p1 : _} {p2 : _} {p3 : _} {ty : TypeId} {pos : String} {aft : Array Edge} {gd : Option (Nat × Bool)} {v : Value} (hw : Wd N ops ⟨some d, .binOp .leq p0 p1 p2 p3, ty, pos, aft, gd⟩ E true := by (first | exact Wd.plain rfl | exact Wd.on rfl rfl rfl)) (hv : EvS P N ⟨some d, .binOp .leq p0 p1 p2 p3, ty, pos, aft, gd⟩ E Sb v := by exact EvS.leI rfl rfl) : SideD P N ops ⟨some d, .binOp .leq p0 p1 p2 p3, ty, pos, aft, gd⟩ E Sb v := ⟨hw, hv⟩
theorem e_bleq {l0 l : List Oper} {acc ks : List Kind} {d : Tmp} {p0 : _} {p1 : _} {p2 : _} {p3 : _} {ty : TypeId} {pos : String} {aft : Array Edge} {gd : Option (Nat × Bool)} {v : Value} (s : SideD P N l0.toArray ⟨some d, .binOp .leq p0 p1 p2 p3, ty, pos, aft, gd⟩ E Sb v) (h : DW r P N Df l0 Q Sb l (.st :: acc) ks ((d, v) :: E) S) : DW r P N Df l0 Q Sb (⟨some d, .binOp .leq p0 p1 p2 p3, ty, pos, aft, gd⟩ :: l) acc (.st :: ks) E S := DW.st1 rfl s.hw s.hv h
theorem d_bgtr {d : Tmp} {p0 : _} {p1 : _} {p2 : _} {p3 : _} {ty : TypeId} {pos : String} {aft : Array Edge} {gd : Option (Nat × Bool)} {v : Value} (s : SideD P N ops ⟨some d, .binOp .gtr p0 p1 p2 p3, ty, pos, aft, gd⟩ E Sb v) (h : D r P N Df ops B Q Sb A ((d, v) :: E) S) : D r P N Df ops B Q Sb ((.st, ⟨some d, .binOp .gtr p0 p1 p2 p3, ty, pos, aft, gd⟩) :: A) E S := D.st1 rfl s.hw s.hv h
theorem d_bgtrs {d : Tmp} {p0 : _} {p1 : _} {p2 : _} {p3 : _} {ty : TypeId} {pos : String} {aft : Array Edge} {gd : Option (Nat × Bool)} {v : Value} (hw : Wd N ops ⟨some d, .binOp .gtr p0 p1 p2 p3, ty, pos, aft, gd⟩ E true := by (first | exact Wd.plain rfl | exact Wd.on rfl rfl rfl)) (hv : EvS P N ⟨some d, .binOp .gtr p0 p1 p2 p3, ty, pos, aft, gd⟩ E Sb v := by exact EvS.gtI rfl rfl) : SideD P N ops ⟨some d, .binOp .gtr p0 p1 p2 p3, ty, pos, aft, gd⟩ E Sb v := ⟨hw, hv⟩
theorem e_bgtr {l0 l : List Oper} {acc ks : List Kind} {d : Tmp} {p0 : _} {p1 : _} {p2 : _} {p3 : _} {ty : TypeId} {pos : String} {aft : Array Edge} {gd : Option (Nat × Bool)} {v : Value} (s : SideD P N l0.toArray ⟨some d, .binOp .gtr p0 p1 p2 p3, ty, pos, aft, gd⟩ E Sb v) (h : DW r P N Df l0 Q Sb l (.st :: acc) ks ((d, v) :: E) S) : DW r P N Df l0 Q Sb (⟨some d, .binOp .gtr p0 p1 p2 p3, ty, pos, aft, gd⟩ :: l) acc (.st :: ks) E S := DW.st1 rfl s.hw s.hv h
theorem d_bgeq {d : Tmp} {p0 : _} {p1 : _} {p2 : _} {p3 : _} {ty : TypeId} {pos : String} {aft : Array Edge} {gd : Option (Nat × Bool)} {v : Value} (s : SideD P N ops ⟨some d, .binOp .geq p0 p1 p2 p3, ty, pos, aft, gd⟩ E Sb v) (h : D r P N Df ops B Q Sb A ((d, v) :: E) S) : D r P N Df ops B Q Sb ((.st, ⟨some d, .binOp .geq p0 p1 p2 p3, ty, pos, aft, gd⟩) :: A) E S := D.st1 rfl s.hw s.hv h
theorem d_bgeqs {d : Tmp} {p0 : _} {p1 : _} {p2 : _} {p3 : _} {ty : TypeId} {pos : String} {aft : Array Edge} {gd : Option (Nat × Bool)} {v : Value} (hw : Wd N ops ⟨some d, .binOp .geq p0 p1 p2 p3, ty, pos, aft, gd⟩ E true := by (first | exact Wd.plain rfl | exact Wd.on rfl rfl rfl)) (hv : EvS P N ⟨some d, .binOp .geq p0 p1 p2 p3, ty, pos, aft, gd⟩ E Sb v := by exact EvS.geI rfl rfl) : SideD P N ops ⟨some d, .binOp .geq p0 p1 p2 p3, ty, pos, aft, gd⟩ E Sb v := ⟨hw, hv⟩
theorem e_bgeq {l0 l : List Oper} {acc ks : List Kind} {d : Tmp} {p0 : _} {p1 : _} {p2 : _} {p3 : _} {ty : TypeId} {pos : String} {aft : Array Edge} {gd : Option (Nat × Bool)} {v : Value} (s : SideD P N l0.toArray ⟨some d, .binOp .geq p0 p1 p2 p3, ty, pos, aft, gd⟩ E Sb v) (h : DW r P N Df l0 Q Sb l (.st :: acc) ks ((d, v) :: E) S) : DW r P N Df l0 Q Sb (⟨some d, .binOp .geq p0 p1 p2 p3, ty, pos, aft, gd⟩ :: l) acc (.st :: ks) E S := DW.st1 rfl s.hw s.hv h
theorem d_badd {d : Tmp} {p0 : _} {p1 : _} {p2 : _} {p3 : _} {ty : TypeId} {pos : String} {aft : Array Edge} {gd : Option (Nat × Bool)} {v : Value} (s : SideD P N ops ⟨some d, .binOp .add p0 p1 p2 p3, ty, pos, aft, gd⟩ E Sb v) (h : D r P N Df ops B Q Sb A ((d, v) :: E) S) : D r P N Df ops B Q Sb ((.st, ⟨some d, .binOp .add p0 p1 p2 p3, ty, pos, aft, gd⟩) :: A) E S := D.st1 rfl s.hw s.hv h
theorem d_badds {d : Tmp} {p0 : _} {p1 : _} {p2 : _} {p3 : _} {ty : TypeId} {pos : String} {aft : Array Edge} {gd : Option (Nat × Bool)} {v : Value} (hw : Wd N ops ⟨some d, .binOp .add p0 p1 p2 p3, ty, pos, aft, gd⟩ E true := by (first | exact Wd.plain rfl | exact Wd.on rfl rfl rfl)) (hv : EvS P N ⟨some d, .binOp .add p0 p1 p2 p3, ty, pos, aft, gd⟩ E Sb v := by (first | exact EvS.addI rfl rfl (by omega) | exact EvS.add64 rfl rfl (by first | with_reducible exact U64.var _ | exact U64.lit rfl) (by first | with_reducible exact U64.var _ | exact U64.lit rfl))) : SideD P N ops ⟨some d, .binOp .add p0 p1 p2 p3, ty, pos, aft, gd⟩ E Sb v := ⟨hw, hv⟩
theorem e_badd {l0 l : List Oper} {acc ks : List Kind} {d : Tmp} {p0 : _} {p1 : _} {p2 : _} {p3 : _} {ty : TypeId} {pos : String} {aft : Array Edge} {gd : Option (Nat × Bool)} {v : Value} (s : SideD P N l0.toArray ⟨some d, .binOp .add p0 p1 p2 p3, ty, pos, aft, gd⟩ E Sb v) (h : DW r P N Df l0 Q Sb l (.st :: acc) ks ((d, v) :: E) S) : DW r P N Df l0 Q Sb (⟨some d, .binOp .add p0 p1 p2 p3, ty, pos, aft, gd⟩ :: l) acc (.st :: ks) E S := DW.st1 rfl s.hw s.hv h
theorem d_bsub {d : Tmp} {p0 : _} {p1 : _} {p2 : _} {p3 : _} {ty : TypeId} {pos : String} {aft : Array Edge} {gd : Option (Nat × Bool)} {v : Value} (s : SideD P N ops ⟨some d, .binOp .sub p0 p1 p2 p3, ty, pos, aft, gd⟩ E Sb v) (h : D r P N Df ops B Q Sb A ((d, v) :: E) S) : D r P N Df ops B Q Sb ((.st, ⟨some d, .binOp .sub p0 p1 p2 p3, ty, pos, aft, gd⟩) :: A) E S := D.st1 rfl s.hw s.hv h
theorem d_bsubs {d : Tmp} {p0 : _} {p1 : _} {p2 : _} {p3 : _} {ty : TypeId} {pos : String} {aft : Array Edge} {gd : Option (Nat × Bool)} {v : Value} (hw : Wd N ops ⟨some d, .binOp .sub p0 p1 p2 p3, ty, pos, aft, gd⟩ E true := by (first | exact Wd.plain rfl | exact Wd.on rfl rfl rfl)) (hv : EvS P N ⟨some d, .binOp .sub p0 p1 p2 p3, ty, pos, aft, gd⟩ E Sb v := by (first | exact EvS.subI rfl rfl (by omega) | exact EvS.sub64 rfl rfl (by first | with_reducible exact U64.var _ | exact U64.lit rfl) (by first | with_reducible exact U64.var _ | exact U64.lit rfl))) : SideD P N ops ⟨some d, .binOp .sub p0 p1 p2 p3, ty, pos, aft, gd⟩ E Sb v := ⟨hw, hv⟩
theorem e_bsub {l0 l : List Oper} {acc ks : List Kind} {d : Tmp} {p0 : _} {p1 : _} {p2 : _} {p3 : _} {ty : TypeId} {pos : String} {aft : Array Edge} {gd : Option (Nat × Bool)} {v : Value} (s : SideD P N l0.toArray ⟨some d, .binOp .sub p0 p1 p2 p3, ty, pos, aft, gd⟩ E Sb v) (h : DW r P N Df l0 Q Sb l (.st :: acc) ks ((d, v) :: E) S) : DW r P N Df l0 Q Sb (⟨some d, .binOp .sub p0 p1 p2 p3, ty, pos, aft, gd⟩ :: l) acc (.st :: ks) E S := DW.st1 rfl s.hw s.hv h
theorem d_pick {d : Tmp} {p0 : _} {p1 : _} {p2 : _} {ty : TypeId} {pos : String} {aft : Array Edge} {gd : Option (Nat × Bool)} {v : Value} (s : SideD P N ops ⟨some d, .pick p0 p1 p2, ty, pos, aft, gd⟩ E Sb v) (h : D r P N Df ops B Q Sb A ((d, v) :: E) S) : D r P N Df ops B Q Sb ((.st, ⟨some d, .pick p0 p1 p2, ty, pos, aft, gd⟩) :: A) E S := D.st1 rfl s.hw s.hv h
theorem d_picks {d : Tmp} {p0 : _} {p1 : _} {p2 : _} {ty : TypeId} {pos : String} {aft : Array Edge} {gd : Option (Nat × Bool)} {v : Value} (hw : Wd N ops ⟨some d, .pick p0 p1 p2, ty, pos, aft, gd⟩ E true := by (first | exact Wd.plain rfl | exact Wd.on rfl rfl rfl)) (hv : EvS P N ⟨some d, .pick p0 p1 p2, ty, pos, aft, gd⟩ E Sb v := by (first | exact EvS.pick_t rfl rfl | exact EvS.pick_f rfl rfl)) : SideD P N ops ⟨some d, .pick p0 p1 p2, ty, pos, aft, gd⟩ E Sb v := ⟨hw, hv⟩
theorem e_pick {l0 l : List Oper} {acc ks : List Kind} {d : Tmp} {p0 : _} {p1 : _} {p2 : _} {ty : TypeId} {pos : String} {aft : Array Edge} {gd : Option (Nat × Bool)} {v : Value} (s : SideD P N l0.toArray ⟨some d, .pick p0 p1 p2, ty, pos, aft, gd⟩ E Sb v) (h : DW r P N Df l0 Q Sb l (.st :: acc) ks ((d, v) :: E) S) : DW r P N Df l0 Q Sb (⟨some d, .pick p0 p1 p2, ty, pos, aft, gd⟩ :: l) acc (.st :: ks) E S := DW.st1 rfl s.hw s.hv h
theorem d_indexAddr {d : Tmp} {p0 : _} {p1 : _} {p2 : _} {ty : TypeId} {pos : String} {aft : Array Edge} {gd : Option (Nat × Bool)} {v : Value} (s : SideD P N ops ⟨some d, .indexAddr p0 p1 p2, ty, pos, aft, gd⟩ E Sb v) (h : D r P N Df ops B Q Sb A ((d, v) :: E) S) : D r P N Df ops B Q Sb ((.st, ⟨some d, .indexAddr p0 p1 p2, ty, pos, aft, gd⟩) :: A) E S := D.st1 rfl s.hw s.hv h
theorem d_indexAddrs {d : Tmp} {p0 : _} {p1 : _} {p2 : _} {ty : TypeId} {pos : String} {aft : Array Edge} {gd : Option (Nat × Bool)} {v : Value} (hw : Wd N ops ⟨some d, .indexAddr p0 p1 p2, ty, pos, aft, gd⟩ E true := by (first | exact Wd.plain rfl | exact Wd.on rfl rfl rfl)) (hv : EvS P N ⟨some d, .indexAddr p0 p1 p2, ty, pos, aft, gd⟩ E Sb v := by (first | exact EvS.indexAddr rfl rfl (by first | exact rfl | assumption) (by omega) | exact EvS.indexAddrA rfl rfl (by omega))) : SideD P N ops ⟨some d, .indexAddr p0 p1 p2, ty, pos, aft, gd⟩ E Sb v := ⟨hw, hv⟩
theorem e_indexAddr {l0 l : List Oper} {acc ks : List Kind} {d : Tmp} {p0 : _} {p1 : _} {p2 : _} {ty : TypeId} {pos : String} {aft : Array Edge} {gd : Option (Nat × Bool)} {v : Value} (s : SideD P N l0.toArray ⟨some d, .indexAddr p0 p1 p2, ty, pos, aft, gd⟩ E Sb v) (h : DW r P N Df l0 Q Sb l (.st :: acc) ks ((d, v) :: E) S) : DW r P N Df l0 Q Sb (⟨some d, .indexAddr p0 p1 p2, ty, pos, aft, gd⟩ :: l) acc (.st :: ks) E S := DW.st1 rfl s.hw s.hv h
theorem d_makeFunc {d : Tmp} {p0 : _} {p1 : _} {p2 : _} {ty : TypeId} {pos : String} {aft : Array Edge} {gd : Option (Nat × Bool)} {v : Value} (s : SideD P N ops ⟨some d, .makeFunc p0 p1 p2, ty, pos, aft, gd⟩ E Sb v) (h : D r P N Df ops B Q Sb A ((d, v) :: E) S) : D r P N Df ops B Q Sb ((.st, ⟨some d, .makeFunc p0 p1 p2, ty, pos, aft, gd⟩) :: A) E S := D.st1 rfl s.hw s.hv h
theorem d_makeFuncs {d : Tmp} {p0 : _} {p1 : _} {p2 : _} {ty : TypeId} {pos : String} {aft : Array Edge} {gd : Option (Nat × Bool)} {v : Value} (hw : Wd N ops ⟨some d, .makeFunc p0 p1 p2, ty, pos, aft, gd⟩ E true := by (first | exact Wd.plain rfl | exact Wd.on rfl rfl rfl)) (hv : EvS P N ⟨some d, .makeFunc p0 p1 p2, ty, pos, aft, gd⟩ E Sb v := by exact EvS.makeFunc rfl rfl) : SideD P N ops ⟨some d, .makeFunc p0 p1 p2, ty, pos, aft, gd⟩ E Sb v := ⟨hw, hv⟩
theorem e_makeFunc {l0 l : List Oper} {acc ks : List Kind} {d : Tmp} {p0 : _} {p1 : _} {p2 : _} {ty : TypeId} {pos : String} {aft : Array Edge} {gd : Option (Nat × Bool)} {v : Value} (s : SideD P N l0.toArray ⟨some d, .makeFunc p0 p1 p2, ty, pos, aft, gd⟩ E Sb v) (h : DW r P N Df l0 Q Sb l (.st :: acc) ks ((d, v) :: E) S) : DW r P N Df l0 Q Sb (⟨some d, .makeFunc p0 p1 p2, ty, pos, aft, gd⟩ :: l) acc (.st :: ks) E S := DW.st1 rfl s.hw s.hv h
theorem d_extract {d : Tmp} {p0 : _} {p1 : _} {ty : TypeId} {pos : String} {aft : Array Edge} {gd : Option (Nat × Bool)} {v : Value} (s : SideD P N ops ⟨some d, .extract p0 p1, ty, pos, aft, gd⟩ E Sb v) (h : D r P N Df ops B Q Sb A ((d, v) :: E) S) : D r P N Df ops B Q Sb ((.st, ⟨some d, .extract p0 p1, ty, pos, aft, gd⟩) :: A) E S := D.st1 rfl s.hw s.hv h
theorem d_extracts {d : Tmp} {p0 : _} {p1 : _} {ty : TypeId} {pos : String} {aft : Array Edge} {gd : Option (Nat × Bool)} {v : Value} (hw : Wd N ops ⟨some d, .extract p0 p1, ty, pos, aft, gd⟩ E true := by (first | exact Wd.plain rfl | exact Wd.on rfl rfl rfl)) (hv : EvS P N ⟨some d, .extract p0 p1, ty, pos, aft, gd⟩ E Sb v := by exact EvS.extract rfl rfl) : SideD P N ops ⟨some d, .extract p0 p1, ty, pos, aft, gd⟩ E Sb v := ⟨hw, hv⟩
theorem e_extract {l0 l : List Oper} {acc ks : List Kind} {d : Tmp} {p0 : _} {p1 : _} {ty : TypeId} {pos : String} {aft : Array Edge} {gd : Option (Nat × Bool)} {v : Value} (s : SideD P N l0.toArray ⟨some d, .extract p0 p1, ty, pos, aft, gd⟩ E Sb v) (h : DW r P N Df l0 Q Sb l (.st :: acc) ks ((d, v) :: E) S) : DW r P N Df l0 Q Sb (⟨some d, .extract p0 p1, ty, pos, aft, gd⟩ :: l) acc (.st :: ks) E S := DW.st1 rfl s.hw s.hv h
theorem d_makeInterface {d : Tmp} {p0 : _} {p1 : _} {ty : TypeId} {pos : String} {aft : Array Edge} {gd : Option (Nat × Bool)} {v : Value} (s : SideD P N ops ⟨some d, .makeInterface p0 p1, ty, pos, aft, gd⟩ E Sb v) (h : D r P N Df ops B Q Sb A ((d, v) :: E) S) : D r P N Df ops B Q Sb ((.st, ⟨some d, .makeInterface p0 p1, ty, pos, aft, gd⟩) :: A) E S := D.st1 rfl s.hw s.hv h
theorem d_makeInterfaces {d : Tmp} {p0 : _} {p1 : _} {ty : TypeId} {pos : String} {aft : Array Edge} {gd : Option (Nat × Bool)} {v : Value} (hw : Wd N ops ⟨some d, .makeInterface p0 p1, ty, pos, aft, gd⟩ E true := by (first | exact Wd.plain rfl | exact Wd.on rfl rfl rfl)) (hv : EvS P N ⟨some d, .makeInterface p0 p1, ty, pos, aft, gd⟩ E Sb v := by exact EvS.makeInterface rfl) : SideD P N ops ⟨some d, .makeInterface p0 p1, ty, pos, aft, gd⟩ E Sb v := ⟨hw, hv⟩
theorem e_makeInterface {l0 l : List Oper} {acc ks : List Kind} {d : Tmp} {p0 : _} {p1 : _} {ty : TypeId} {pos : String} {aft : Array Edge} {gd : Option (Nat × Bool)} {v : Value} (s : SideD P N l0.toArray ⟨some d, .makeInterface p0 p1, ty, pos, aft, gd⟩ E Sb v) (h : DW r P N Df l0 Q Sb l (.st :: acc) ks ((d, v) :: E) S) : DW r P N Df l0 Q Sb (⟨some d, .makeInterface p0 p1, ty, pos, aft, gd⟩ :: l) acc (.st :: ks) E S := DW.st1 rfl s.hw s.hv h
theorem d_slice {d : Tmp} {p0 : _} {p1 : _} {p2 : _} {p3 : _} {p4 : _} {ty : TypeId} {pos : String} {aft : Array Edge} {gd : Option (Nat × Bool)} {v : Value} (s : SideD P N ops ⟨some d, .slice p0 p1 p2 p3 p4, ty, pos, aft, gd⟩ E Sb v) (h : D r P N Df ops B Q Sb A ((d, v) :: E) S) : D r P N Df ops B Q Sb ((.st, ⟨some d, .slice p0 p1 p2 p3 p4, ty, pos, aft, gd⟩) :: A) E S := D.st1 rfl s.hw s.hv h
theorem d_slices {d : Tmp} {p0 : _} {p1 : _} {p2 : _} {p3 : _} {p4 : _} {ty : TypeId} {pos : String} {aft : Array Edge} {gd : Option (Nat × Bool)} {v : Value} (hw : Wd N ops ⟨some d, .slice p0 p1 p2 p3 p4, ty, pos, aft, gd⟩ E true := by (first | exact Wd.plain rfl | exact Wd.on rfl rfl rfl)) (hv : EvS P N ⟨some d, .slice p0 p1 p2 p3 p4, ty, pos, aft, gd⟩ E Sb v := by exact EvS.sliceA rfl) : SideD P N ops ⟨some d, .slice p0 p1 p2 p3 p4, ty, pos, aft, gd⟩ E Sb v := ⟨hw, hv⟩
theorem e_slice {l0 l : List Oper} {acc ks : List Kind} {d : Tmp} {p0 : _} {p1 : _} {p2 : _} {p3 : _} {p4 : _} {ty : TypeId} {pos : String} {aft : Array Edge} {gd : Option (Nat × Bool)} {v : Value} (s : SideD P N l0.toArray ⟨some d, .slice p0 p1 p2 p3 p4, ty, pos, aft, gd⟩ E Sb v) (h : DW r P N Df l0 Q Sb l (.st :: acc) ks ((d, v) :: E) S) : DW r P N Df l0 Q Sb (⟨some d, .slice p0 p1 p2 p3 p4, ty, pos, aft, gd⟩ :: l) acc (.st :: ks) E S := DW.st1 rfl s.hw s.hv h
theorem d_bshl {d : Tmp} {p0 : _} {p1 : _} {p2 : _} {p3 : _} {ty : TypeId} {pos : String} {aft : Array Edge} {gd : Option (Nat × Bool)} {v : Value} (s : SideD P N ops ⟨some d, .binOp .shl p0 p1 p2 p3, ty, pos, aft, gd⟩ E Sb v) (h : D r P N Df ops B Q Sb A ((d, v) :: E) S) : D r P N Df ops B Q Sb ((.st, ⟨some d, .binOp .shl p0 p1 p2 p3, ty, pos, aft, gd⟩) :: A) E S := D.st1 rfl s.hw s.hv h
theorem d_bshls {d : Tmp} {p0 : _} {p1 : _} {p2 : _} {p3 : _} {ty : TypeId} {pos : String} {aft : Array Edge} {gd : Option (Nat × Bool)} {v : Value} (hw : Wd N ops ⟨some d, .binOp .shl p0 p1 p2 p3, ty, pos, aft, gd⟩ E true := by (first | exact Wd.plain rfl | exact Wd.on rfl rfl rfl)) (hv : EvS P N ⟨some d, .binOp .shl p0 p1 p2 p3, ty, pos, aft, gd⟩ E Sb v := by exact EvS.shl64 rfl rfl (by first | with_reducible exact U64.var _ | exact U64.lit rfl) (by omega)) : SideD P N ops ⟨some d, .binOp .shl p0 p1 p2 p3, ty, pos, aft, gd⟩ E Sb v := ⟨hw, hv⟩
theorem e_bshl {l0 l : List Oper} {acc ks : List Kind} {d : Tmp} {p0 : _} {p1 : _} {p2 : _} {p3 : _} {ty : TypeId} {pos : String} {aft : Array Edge} {gd : Option (Nat × Bool)} {v : Value} (s : SideD P N l0.toArray ⟨some d, .binOp .shl p0 p1 p2 p3, ty, pos, aft, gd⟩ E Sb v) (h : DW r P N Df l0 Q Sb l (.st :: acc) ks ((d, v) :: E) S) : DW r P N Df l0 Q Sb (⟨some d, .binOp .shl p0 p1 p2 p3, ty, pos, aft, gd⟩ :: l) acc (.st :: ks) E S := DW.st1 rfl s.hw s.hv h
theorem d_bshr {d : Tmp} {p0 : _} {p1 : _} {p2 : _} {p3 : _} {ty : TypeId} {pos : String} {aft : Array Edge} {gd : Option (Nat × Bool)} {v : Value} (s : SideD P N ops ⟨some d, .binOp .shr p0 p1 p2 p3, ty, pos, aft, gd⟩ E Sb v) (h : D r P N Df ops B Q Sb A ((d, v) :: E) S) : D r P N Df ops B Q Sb ((.st, ⟨some d, .binOp .shr p0 p1 p2 p3, ty, pos, aft, gd⟩) :: A) E S := D.st1 rfl s.hw s.hv h
theorem d_bshrs {d : Tmp} {p0 : _} {p1 : _} {p2 : _} {p3 : _} {ty : TypeId} {pos : String} {aft : Array Edge} {gd : Option (Nat × Bool)} {v : Value} (hw : Wd N ops ⟨some d, .binOp .shr p0 p1 p2 p3, ty, pos, aft, gd⟩ E true := by (first | exact Wd.plain rfl | exact Wd.on rfl rfl rfl)) (hv : EvS P N ⟨some d, .binOp .shr p0 p1 p2 p3, ty, pos, aft, gd⟩ E Sb v := by exact EvS.shr64 rfl rfl (by first | with_reducible exact U64.var _ | exact U64.lit rfl) (by omega)) : SideD P N ops ⟨some d, .binOp .shr p0 p1 p2 p3, ty, pos, aft, gd⟩ E Sb v := ⟨hw, hv⟩
theorem e_bshr {l0 l : List Oper} {acc ks : List Kind} {d : Tmp} {p0 : _} {p1 : _} {p2 : _} {p3 : _} {ty : TypeId} {pos : String} {aft : Array Edge} {gd : Option (Nat × Bool)} {v : Value} (s : SideD P N l0.toArray ⟨some d, .binOp .shr p0 p1 p2 p3, ty, pos, aft, gd⟩ E Sb v) (h : DW r P N Df l0 Q Sb l (.st :: acc) ks ((d, v) :: E) S) : DW r P N Df l0 Q Sb (⟨some d, .binOp .shr p0 p1 p2 p3, ty, pos, aft, gd⟩ :: l) acc (.st :: ks) E S := DW.st1 rfl s.hw s.hv h
theorem d_rest {d : Tmp} {op : _} {ty : TypeId} {pos : String} {aft : Array Edge} {gd : Option (Nat × Bool)} {v : Value} (s : SideD P N ops ⟨some d, op, ty, pos, aft, gd⟩ E Sb v) (h : D r P N Df ops B Q Sb A ((d, v) :: E) S) : D r P N Df ops B Q Sb ((.st, ⟨some d, op, ty, pos, aft, gd⟩) :: A) E S := D.st1 rfl s.hw s.hv h
theorem d_rests {d : Tmp} {op : _} {ty : TypeId} {pos : String} {aft : Array Edge} {gd : Option (Nat × Bool)} {v : Value} (hw : Wd N ops ⟨some d, op, ty, pos, aft, gd⟩ E true := by (first | exact Wd.plain rfl | exact Wd.on rfl rfl rfl)) (hv : EvS P N ⟨some d, op, ty, pos, aft, gd⟩ E Sb v := by exact EvS.nilCheck rfl) : SideD P N ops ⟨some d, op, ty, pos, aft, gd⟩ E Sb v := ⟨hw, hv⟩
theorem e_rest {l0 l : List Oper} {acc ks : List Kind} {d : Tmp} {op : _} {ty : TypeId} {pos : String} {aft : Array Edge} {gd : Option (Nat × Bool)} {v : Value} (s : SideD P N l0.toArray ⟨some d, op, ty, pos, aft, gd⟩ E Sb v) (h : DW r P N Df l0 Q Sb l (.st :: acc) ks ((d, v) :: E) S) : DW r P N Df l0 Q Sb (⟨some d, op, ty, pos, aft, gd⟩ :: l) acc (.st :: ks) E S := DW.st1 rfl s.hw s.hv h
theorem ec_boxA {l0 l : List Oper} {acc ks : List Kind} {d : Tmp} {p0 : _} {p1 : _} {ty : TypeId} {pos : String} {aft : Array Edge} {gd : Option (Nat × Bool)} {m : Mem} {Lb : Own} {X : Type} {val : X → Value} {S' : X → World → Prop} (s : SideC r P N l0.toArray ⟨some d, .box p0 p1, ty, pos, aft, gd⟩ E S val S') (hX : Nonempty X) (hSb : Subs S' (StX m Lb)) (h : ∀ x, DW r P N Df l0 Q (StX m Lb) l (.ch :: acc) ks ((d, val x) :: E) (S' x)) : DW r P N Df l0 Q (StX m Lb) (⟨some d, .box p0 p1, ty, pos, aft, gd⟩ :: l) acc (.ch :: ks) E S := DW.chx rfl s.hw s.hv hX hSb h
theorem ec_box1 {l0 l : List Oper} {acc ks : List Kind} {d : Tmp} {p0 : _} {p1 : _} {ty : TypeId} {pos : String} {aft : Array Edge} {gd : Option (Nat × Bool)} {m : Mem} {Lb : Own} {X : Type} {val : X → Value} {S' : X → World → Prop} (s : SideC r P N l0.toArray ⟨some d, .box p0 p1, ty, pos, aft, gd⟩ E S val S') (hX : Nonempty X) (hSb : Subs S' (StX m Lb)) (h : ∀ x, DW r P N Df l0 Q (StX m Lb) l (.ch :: acc) ks ((d, val x) :: E) (S' x)) : DW r P N Df l0 Q (StX m Lb) (⟨some d, .box p0 p1, ty, pos, aft, gd⟩ :: l) acc (.ch :: ks) E S := DW.chx rfl s.hw s.hv hX hSb h
theorem ec_box {l0 l : List Oper} {acc ks : List Kind} {d : Tmp} {p0 : _} {p1 : _} {ty : TypeId} {pos : String} {aft : Array Edge} {gd : Option (Nat × Bool)} {m : Mem} {Lb : Own} {X : Type} {val : X → Value} {S' : X → World → Prop} (s : SideC r P N l0.toArray ⟨some d, .box p0 p1, ty, pos, aft, gd⟩ E S val S') (hX : Nonempty X) (hSb : Subs S' (StX m Lb)) (h : ∀ x, DW r P N Df l0 Q (StX m Lb) l (.ch :: acc) ks ((d, val x) :: E) (S' x)) : DW r P N Df l0 Q (StX m Lb) (⟨some d, .box p0 p1, ty, pos, aft, gd⟩ :: l) acc (.ch :: ks) E S := DW.chx rfl s.hw s.hv hX hSb h
theorem ec_alloc {l0 l : List Oper} {acc ks : List Kind} {d : Tmp} {p0 : _} {ty : TypeId} {pos : String} {aft : Array Edge} {gd : Option (Nat × Bool)} {m : Mem} {Lb : Own} {X : Type} {val : X → Value} {S' : X → World → Prop} (s : SideC r P N l0.toArray ⟨some d, .alloc p0, ty, pos, aft, gd⟩ E S val S') (hX : Nonempty X) (hSb : Subs S' (StX m Lb)) (h : ∀ x, DW r P N Df l0 Q (StX m Lb) l (.ch :: acc) ks ((d, val x) :: E) (S' x)) : DW r P N Df l0 Q (StX m Lb) (⟨some d, .alloc p0, ty, pos, aft, gd⟩ :: l) acc (.ch :: ks) E S := DW.chx rfl s.hw s.hv hX hSb h
theorem ec_makeMap {l0 l : List Oper} {acc ks : List Kind} {d : Tmp} {op : _} {ty : TypeId} {pos : String} {aft : Array Edge} {gd : Option (Nat × Bool)} {m : Mem} {Lb : Own} {X : Type} {val : X → Value} {S' : X → World → Prop} (s : SideC r P N l0.toArray ⟨some d, op, ty, pos, aft, gd⟩ E S val S') (hX : Nonempty X) (hSb : Subs S' (StX m Lb)) (h : ∀ x, DW r P N Df l0 Q (StX m Lb) l (.ch :: acc) ks ((d, val x) :: E) (S' x)) : DW r P N Df l0 Q (StX m Lb) (⟨some d, op, ty, pos, aft, gd⟩ :: l) acc (.ch :: ks) E S := DW.chx rfl s.hw s.hv hX hSb h
theorem ec_buildA {l0 l : List Oper} {acc ks : List Kind} {d : Tmp} {p0 : _} {p1 : _} {p2 : _} {ty : TypeId} {pos : String} {aft : Array Edge} {gd : Option (Nat × Bool)} {m : Mem} {Lb : Own} {X : Type} {val : X → Value} {S' : X → World → Prop} (s : SideC r P N l0.toArray ⟨some d, .buildSlice p0 p1 p2, ty, pos, aft, gd⟩ E S val S') (hX : Nonempty X) (hSb : Subs S' (StX m Lb)) (h : ∀ x, DW r P N Df l0 Q (StX m Lb) l (.ch :: acc) ks ((d, val x) :: E) (S' x)) : DW r P N Df l0 Q (StX m Lb) (⟨some d, .buildSlice p0 p1 p2, ty, pos, aft, gd⟩ :: l) acc (.ch :: ks) E S := DW.chx rfl s.hw s.hv hX hSb h
theorem ec_build1 {l0 l : List Oper} {acc ks : List Kind} {d : Tmp} {p0 : _} {p1 : _} {p2 : _} {ty : TypeId} {pos : String} {aft : Array Edge} {gd : Option (Nat × Bool)} {m : Mem} {Lb : Own} {X : Type} {val : X → Value} {S' : X → World → Prop} (s : SideC r P N l0.toArray ⟨some d, .buildSlice p0 p1 p2, ty, pos, aft, gd⟩ E S val S') (hX : Nonempty X) (hSb : Subs S' (StX m Lb)) (h : ∀ x, DW r P N Df l0 Q (StX m Lb) l (.ch :: acc) ks ((d, val x) :: E) (S' x)) : DW r P N Df l0 Q (StX m Lb) (⟨some d, .buildSlice p0 p1 p2, ty, pos, aft, gd⟩ :: l) acc (.ch :: ks) E S := DW.chx rfl s.hw s.hv hX hSb h
theorem dc_boxA {d : Tmp} {p0 : _} {p1 : _} {ty : TypeId} {pos : String} {aft : Array Edge} {gd : Option (Nat × Bool)} {m : Mem} {Lb : Own} {X : Type} {val : X → Value} {S' : X → World → Prop} (s : SideC r P N ops ⟨some d, .box p0 p1, ty, pos, aft, gd⟩ E S val S') (hX : Nonempty X) (hSb : Subs S' (StX m Lb)) (h : ∀ x, D r P N Df ops B Q (StX m Lb) A ((d, val x) :: E) (S' x)) : D r P N Df ops B Q (StX m Lb) ((.ch, ⟨some d, .box p0 p1, ty, pos, aft, gd⟩) :: A) E S := D.chx rfl s.hw s.hv hX hSb h
theorem dc_box1 {d : Tmp} {p0 : _} {p1 : _} {ty : TypeId} {pos : String} {aft : Array Edge} {gd : Option (Nat × Bool)} {m : Mem} {Lb : Own} {X : Type} {val : X → Value} {S' : X → World → Prop} (s : SideC r P N ops ⟨some d, .box p0 p1, ty, pos, aft, gd⟩ E S val S') (hX : Nonempty X) (hSb : Subs S' (StX m Lb)) (h : ∀ x, D r P N Df ops B Q (StX m Lb) A ((d, val x) :: E) (S' x)) : D r P N Df ops B Q (StX m Lb) ((.ch, ⟨some d, .box p0 p1, ty, pos, aft, gd⟩) :: A) E S := D.chx rfl s.hw s.hv hX hSb h
theorem dc_box {d : Tmp} {p0 : _} {p1 : _} {ty : TypeId} {pos : String} {aft : Array Edge} {gd : Option (Nat × Bool)} {m : Mem} {Lb : Own} {X : Type} {val : X → Value} {S' : X → World → Prop} (s : SideC r P N ops ⟨some d, .box p0 p1, ty, pos, aft, gd⟩ E S val S') (hX : Nonempty X) (hSb : Subs S' (StX m Lb)) (h : ∀ x, D r P N Df ops B Q (StX m Lb) A ((d, val x) :: E) (S' x)) : D r P N Df ops B Q (StX m Lb) ((.ch, ⟨some d, .box p0 p1, ty, pos, aft, gd⟩) :: A) E S := D.chx rfl s.hw s.hv hX hSb h
theorem dc_alloc {d : Tmp} {p0 : _} {ty : TypeId} {pos : String} {aft : Array Edge} {gd : Option (Nat × Bool)} {m : Mem} {Lb : Own} {X : Type} {val : X → Value} {S' : X → World → Prop} (s : SideC r P N ops ⟨some d, .alloc p0, ty, pos, aft, gd⟩ E S val S') (hX : Nonempty X) (hSb : Subs S' (StX m Lb)) (h : ∀ x, D r P N Df ops B Q (StX m Lb) A ((d, val x) :: E) (S' x)) : D r P N Df ops B Q (StX m Lb) ((.ch, ⟨some d, .alloc p0, ty, pos, aft, gd⟩) :: A) E S := D.chx rfl s.hw s.hv hX hSb h
theorem dc_makeMap {d : Tmp} {op : _} {ty : TypeId} {pos : String} {aft : Array Edge} {gd : Option (Nat × Bool)} {m : Mem} {Lb : Own} {X : Type} {val : X → Value} {S' : X → World → Prop} (s : SideC r P N ops ⟨some d, op, ty, pos, aft, gd⟩ E S val S') (hX : Nonempty X) (hSb : Subs S' (StX m Lb)) (h : ∀ x, D r P N Df ops B Q (StX m Lb) A ((d, val x) :: E) (S' x)) : D r P N Df ops B Q (StX m Lb) ((.ch, ⟨some d, op, ty, pos, aft, gd⟩) :: A) E S := D.chx rfl s.hw s.hv hX hSb h
theorem dc_buildA {d : Tmp} {p0 : _} {p1 : _} {p2 : _} {ty : TypeId} {pos : String} {aft : Array Edge} {gd : Option (Nat × Bool)} {m : Mem} {Lb : Own} {X : Type} {val : X → Value} {S' : X → World → Prop} (s : SideC r P N ops ⟨some d, .buildSlice p0 p1 p2, ty, pos, aft, gd⟩ E S val S') (hX : Nonempty X) (hSb : Subs S' (StX m Lb)) (h : ∀ x, D r P N Df ops B Q (StX m Lb) A ((d, val x) :: E) (S' x)) : D r P N Df ops B Q (StX m Lb) ((.ch, ⟨some d, .buildSlice p0 p1 p2, ty, pos, aft, gd⟩) :: A) E S := D.chx rfl s.hw s.hv hX hSb h
theorem dc_build1 {d : Tmp} {p0 : _} {p1 : _} {p2 : _} {ty : TypeId} {pos : String} {aft : Array Edge} {gd : Option (Nat × Bool)} {m : Mem} {Lb : Own} {X : Type} {val : X → Value} {S' : X → World → Prop} (s : SideC r P N ops ⟨some d, .buildSlice p0 p1 p2, ty, pos, aft, gd⟩ E S val S') (hX : Nonempty X) (hSb : Subs S' (StX m Lb)) (h : ∀ x, D r P N Df ops B Q (StX m Lb) A ((d, val x) :: E) (S' x)) : D r P N Df ops B Q (StX m Lb) ((.ch, ⟨some d, .buildSlice p0 p1 p2, ty, pos, aft, gd⟩) :: A) E S := D.chx rfl s.hw s.hv hX hSb h
end Go.XC
