/- The calculus: worlds as 'St m L w', slots as a list, regions in text order and regions that draw. Nothing of a program. -/
import Derived.RangeFuncLeaves
import Derived.RangeFuncRecord
import Derived.RangeFuncSeq
import Derived.RecoverIn
import Derived.Laws.Rows
import Derived.Below
import Derived.Scope
import Derived.OrdersIn
import Derived.Maps.AppendAt
import Derived.Deep.AppendLies
import Derived.Laws.CopyRow
import Derived.Laws.BitsLemmas
import Derived.Laws.MakeOwn
set_option linter.unusedVariables false
set_option linter.unusedSimpArgs false
set_option linter.all false
set_option linter.unusedVariables false
namespace Go.XC
open Go Go.RowKit

/-! ### Fence -/
def G (r : Option Nat) : Fence := { fn := fun _ => True, depth := none, alive := false, round := r }
theorem room_G (r : Option Nat) (n : Nat) : (G r).room n := fun _ h => by cases h
theorem callsG {r : Option Nat} {n : Nat} {P : Program} {f : FuncId} {args : Array Value} {w : World} {R : Ending → World → Prop} :
    CallsIn (G r) n P f args w R ↔ Calls P f args w R := (callsIn_wide (n := n))

/-! ### Memory and worlds -/
structure Mem where
  blk : Nat → Option Obj
  os : Os
  tape : Nat → Question → Nat
  output : Array (Nat × ByteArray)
  size : Nat

structure Mem.Le (m m' : Mem) : Prop where
  blk : ∀ g o, m.blk g = some o → m'.blk g = some o
  os : m'.os = m.os
  tape : m'.tape = m.tape
  output : m'.output = m.output
  size : m'.size = m.size

theorem Mem.Le.refl (m : Mem) : m.Le m := ⟨fun _ _ h => h, rfl, rfl, rfl, rfl⟩
theorem Mem.Le.trans {a b c : Mem} (h : a.Le b) (k : b.Le c) : a.Le c :=
  ⟨fun g o e => k.blk g o (h.blk g o e), k.os.trans h.os, k.tape.trans h.tape, k.output.trans h.output, k.size.trans h.size⟩

def Mem.put (m : Mem) (g : Nat) (o : Obj) : Mem := { m with blk := fun k => if k = g then some o else m.blk k }
theorem Mem.le_put {m : Mem} {g : Nat} (o : Obj) (h : m.blk g = none) : m.Le (m.put g o) :=
  ⟨fun k o' e => by
    show (if k = g then some o else m.blk k) = some o'
    by_cases hk : k = g
    · subst hk; rw [h] at e; cases e
    · rw [if_neg hk]; exact e, rfl, rfl, rfl, rfl⟩
theorem Mem.put_same (m : Mem) (g : Nat) (o : Obj) : (m.put g o).blk g = some o := by simp [Mem.put]
theorem Mem.put_other (m : Mem) {g k : Nat} (o : Obj) (h : k ≠ g) : (m.put g o).blk k = m.blk k := by simp [Mem.put, h]

/-- The call's own blocks that may change; an entry may be empty. -/
abbrev Own := List (Option (Nat × Obj))
def keys (L : Own) : List Nat := L.filterMap (Option.map Prod.fst)
theorem mem_keys {L : Own} {g : Nat} : g ∈ keys L ↔ ∃ o, some (g, o) ∈ L := by
  unfold keys
  rw [List.mem_filterMap]
  constructor
  · rintro ⟨x, hx, h⟩
    cases x with
    | none => cases h
    | some x => obtain ⟨k, o⟩ := x; simp at h; subst h; exact ⟨o, hx⟩
  · rintro ⟨o, h⟩; exact ⟨_, h, rfl⟩

structure St (m : Mem) (L : Own) (w : World) : Prop where
  os : w.os = m.os
  tape : w.tape = m.tape
  output : w.output = m.output
  size : m.size ≤ w.heap.size
  blk : ∀ g o, m.blk g = some o → w.heap[g]? = some o
  own : ∀ g o, some (g, o) ∈ L → w.heap[g]? = some o ∧ m.blk g = none
  nodup : (keys L).Nodup

theorem St.mk0 (w : World) : St ⟨fun g => w.heap[g]?, w.os, w.tape, w.output, w.heap.size⟩ [] w :=
  ⟨rfl, rfl, rfl, Nat.le_refl _, fun _ _ h => h, fun _ _ h => (by cases h), List.nodup_nil⟩

theorem heap_lt {w : World} {g : Nat} {o : Obj} (h : w.heap[g]? = some o) : g < w.heap.size := (Array.getElem?_eq_some_iff.1 h).1

theorem St.get {m : Mem} {L : Own} {w : World} (h : St m L w) {g : Nat} {o : Obj} (hg : some (g, o) ∈ L) : w.heap[g]? = some o := (h.own _ _ hg).1

/-- The world has turned in nothing that is told. -/
theorem St.same {m : Mem} {L : Own} {w w' : World} (h : St m L w) (h1 : w'.os = w.os) (h2 : w'.tape = w.tape) (h3 : w'.output = w.output) (h4 : w'.heap = w.heap) : St m L w' :=
  ⟨h1.trans h.os, h2.trans h.tape, h3.trans h.output, by rw [h4]; exact h.size, fun g o e => by rw [h4]; exact h.blk g o e, fun g o hx => by rw [h4]; exact h.own g o hx, h.nodup⟩
theorem St.drew {m : Mem} {L : Own} {w : World} (h : St m L w) (d : Nat) : St m L { w with drawn := d } := h.same rfl rfl rfl rfl

/-- What is below the heap's size lies as it lay. -/
theorem St.below {m : Mem} {L : Own} {w w' : World} (h : St m L w) (hb : Below w.heap.size w w') : St m L w' :=
  ⟨hb.os.trans h.os, hb.tape.trans h.tape, hb.output.trans h.output, Nat.le_trans h.size hb.size,
   fun g o e => (hb.block g (heap_lt (h.blk g o e))).trans (h.blk g o e),
   fun g o hx => ⟨(hb.block g (heap_lt (h.own g o hx).1)).trans (h.own g o hx).1, (h.own g o hx).2⟩, h.nodup⟩

/-- At the end of the outermost call. -/
theorem St.toBelow {m : Mem} {L : Own} {w w' : World} (hm : Mem.Le ⟨fun g => w.heap[g]?, w.os, w.tape, w.output, w.heap.size⟩ m) (h : St m L w') : Below w.heap.size w w' :=
  ⟨h.os.trans hm.os, h.tape.trans hm.tape, h.output.trans hm.output, by have := h.size; rw [hm.size] at this; exact this, fun k hk => by
    cases ho : w.heap[k]? with
    | none => rw [Array.getElem?_eq_none_iff] at ho; omega
    | some o => exact h.blk k o (hm.blk k o ho)⟩

theorem St.sub {m : Mem} {L L' : Own} {w : World} (h : St m L w) (hs : ∀ x, some x ∈ L' → some x ∈ L) (hn : (keys L').Nodup) : St m L' w :=
  ⟨h.os, h.tape, h.output, h.size, h.blk, fun g o hx => h.own g o (hs _ hx), hn⟩
theorem St.perm {m : Mem} {L L' : Own} {w : World} (h : St m L w) (hp : L.Perm L') : St m L' w :=
  h.sub (fun x hx => hp.mem_iff.2 hx) ((hp.filterMap _).nodup_iff.1 h.nodup)
theorem St.sublist {m : Mem} {L L' : Own} {w : World} (h : St m L w) (hs : L'.Sublist L) : St m L' w :=
  h.sub (fun x hx => hs.mem hx) (List.Sublist.nodup (hs.filterMap _) h.nodup)
theorem St.nil {m : Mem} {L : Own} {w : World} (h : St m L w) : St m [] w := h.sublist (List.nil_sublist _)
/-- Only the last blocks are wanted. -/
theorem St.back {m : Mem} {L L' : Own} {w : World} (h : St m (L' ++ L) w) : St m L w := h.sublist (List.sublist_append_right _ _)
theorem St.tail {m : Mem} {x : Option (Nat × Obj)} {L : Own} {w : World} (h : St m (x :: L) w) : St m L w := h.sublist (List.sublist_cons_self _ _)

theorem St.fresh {m : Mem} {L : Own} {w : World} (h : St m L w) {g : Nat} (hg : w.heap.size ≤ g) : m.blk g = none ∧ g ∉ keys L := by
  constructor
  · cases e : m.blk g with
    | none => rfl
    | some o => have := heap_lt (h.blk g o e); omega
  · intro hm
    obtain ⟨o, hx⟩ := mem_keys.1 hm
    have := heap_lt (h.own g o hx).1; omega

theorem keys_append (L R : Own) : keys (L ++ R) = keys L ++ keys R := by simp [keys]

/-- A new block, whatever else the step has done: what was told stands. -/
theorem St.add {m : Mem} {L : Own} {w w' : World} (h : St m L w) (h' : St m L w') {g : Nat} {o : Obj} (hg : w.heap.size ≤ g) (ho : w'.heap[g]? = some o) : St m (some (g, o) :: L) w' :=
  ⟨h'.os, h'.tape, h'.output, h'.size, h'.blk,
   fun k ok hx => by
    rcases List.mem_cons.1 hx with hx | hx
    · simp at hx
      obtain ⟨rfl, rfl⟩ := hx
      exact ⟨ho, (h.fresh hg).1⟩
    · exact h'.own k ok hx,
   List.nodup_cons.2 ⟨(h.fresh hg).2, h.nodup⟩⟩
theorem St.alloc {m : Mem} {L : Own} {w : World} (h : St m L w) (o : Obj) : St m (some (w.heap.size, o) :: L) (w.alloc o) :=
  h.add (h.below ((Below.refl _ w).alloc (Nat.le_refl _) o)) (Nat.le_refl _) (heap_alloc_new w o)

/-- 'L'' is L, block g turned from o to o'. -/
inductive Upd : Own → Nat → Obj → Obj → Own → Prop where
  | head {g : Nat} {o o' : Obj} {R : Own} : Upd (some (g, o) :: R) g o o' (some (g, o') :: R)
  | tail {x : Option (Nat × Obj)} {g : Nat} {o o' : Obj} {R R' : Own} (h : Upd R g o o' R') : Upd (x :: R) g o o' (x :: R')
theorem Upd.mem {L : Own} {g : Nat} {o o' : Obj} {L' : Own} (h : Upd L g o o' L') : some (g, o) ∈ L := by
  induction h with
  | head => exact List.mem_cons_self
  | tail _ ih => exact List.mem_cons_of_mem _ ih
theorem Upd.keys_eq {L : Own} {g : Nat} {o o' : Obj} {L' : Own} (h : Upd L g o o' L') : keys L' = keys L := by
  induction h with
  | head => rfl
  | tail _ ih => simp only [keys, List.filterMap_cons] at *; rw [ih]
theorem Upd.mem' {L : Own} {g : Nat} {o o' : Obj} {L' : Own} (h : Upd L g o o' L') (hn : (keys L).Nodup) {k : Nat} {u : Obj} (hx : some (k, u) ∈ L') : (k = g ∧ u = o') ∨ (some (k, u) ∈ L ∧ k ≠ g) := by
  induction h with
  | @head g o o' R =>
    have hn' : g ∉ keys R ∧ (keys R).Nodup := by
      have : keys (some (g, o) :: R) = g :: keys R := rfl
      rw [this] at hn; exact List.nodup_cons.1 hn
    rcases List.mem_cons.1 hx with e | hx
    · simp at e; exact .inl e
    · refine .inr ⟨List.mem_cons_of_mem _ hx, fun e => hn'.1 ?_⟩
      rw [← e]; exact mem_keys.2 ⟨_, hx⟩
  | @tail x g o o' R R' h ih =>
    have hn' : (keys R).Nodup := by
      cases x with
      | none => exact hn
      | some x => exact (List.nodup_cons.1 (show (x.1 :: keys R).Nodup from hn)).2
    rcases List.mem_cons.1 hx with e | hx
    · refine .inr ⟨by rw [e]; exact List.mem_cons_self, fun e2 => ?_⟩
      have : (k :: keys R).Nodup := by rw [← e] at hn; exact hn
      refine (List.nodup_cons.1 this).1 ?_
      rw [e2]; exact mem_keys.2 ⟨_, h.mem⟩
    · rcases ih hn' hx with h1 | ⟨h1, h2⟩
      · exact .inl h1
      · exact .inr ⟨List.mem_cons_of_mem _ h1, h2⟩
/-- Block g of the own ones has turned, and nothing else that is told. -/
theorem St.upd {m : Mem} {L L' : Own} {w w' : World} {g : Nat} {o o' : Obj} (h : St m L w) (hu : Upd L g o o' L') (h1 : w'.os = w.os) (h2 : w'.tape = w.tape) (h3 : w'.output = w.output)
    (h4 : w.heap.size ≤ w'.heap.size) (hg : w'.heap[g]? = some o') (hk : ∀ k, k < w.heap.size → k ≠ g → w'.heap[k]? = w.heap[k]?) : St m L' w' :=
  ⟨h1.trans h.os, h2.trans h.tape, h3.trans h.output, Nat.le_trans h.size h4,
   fun k ok e => by
    have hb := h.blk k ok e
    refine (hk k (heap_lt hb) ?_).trans hb
    rintro rfl
    (rw [(h.own _ _ hu.mem).2] at e; cases e),
   fun k ok hx => by
    rcases hu.mem' h.nodup hx with ⟨rfl, rfl⟩ | ⟨hx, hne⟩
    · exact ⟨hg, (h.own _ _ hu.mem).2⟩
    · exact ⟨(hk k (heap_lt (h.own k ok hx).1) hne).trans (h.own k ok hx).1, (h.own k ok hx).2⟩,
   by rw [hu.keys_eq]; exact h.nodup⟩

/-- 'L'' is L, entry e turned to e'. -/
inductive Rep1 : Own → Option (Nat × Obj) → Option (Nat × Obj) → Own → Prop where
  | head {e e' : Option (Nat × Obj)} {R : Own} : Rep1 (e :: R) e e' (e' :: R)
  | tail {x e e' : Option (Nat × Obj)} {R R' : Own} (h : Rep1 R e e' R') : Rep1 (x :: R) e e' (x :: R')
theorem Rep1.perm {L L' : Own} {e e' : Option (Nat × Obj)} (h : Rep1 L e e' L') : ∃ R, L.Perm (e :: R) ∧ L'.Perm (e' :: R) := by
  induction h with
  | @head e e' R => exact ⟨R, .refl _, .refl _⟩
  | @tail x e e' R R' _ ih =>
    obtain ⟨Q, h1, h2⟩ := ih
    exact ⟨x :: Q, (h1.cons _).trans (.swap _ _ _), (h2.cons _).trans (.swap _ _ _)⟩
/-- An entry is dropped. -/
theorem St.drop1 {m : Mem} {L L' : Own} {w : World} {e : Option (Nat × Obj)} (h : St m L w) (hr : Rep1 L e none L') : St m L' w := by
  obtain ⟨R, h1, h2⟩ := hr.perm
  have h3 := (h.perm h1).sublist (List.sublist_cons_self e R)
  have h4 : St m (none :: R) w := ⟨h3.os, h3.tape, h3.output, h3.size, h3.blk, fun g o hx => h3.own g o (by simpa using hx), h3.nodup⟩
  exact h4.perm h2.symm
/-- A block that will not be written any more. -/
theorem St.freeze {m : Mem} {L L' : Own} {w : World} {g : Nat} {o : Obj} (h : St m L w) (hr : Rep1 L (some (g, o)) none L') : m.Le (m.put g o) ∧ St (m.put g o) L' w := by
  obtain ⟨R, h1, h2⟩ := hr.perm
  have hp := h.perm h1
  have hg := hp.own g o List.mem_cons_self
  have hn := List.nodup_cons.1 (show (g :: keys R).Nodup from hp.nodup)
  refine ⟨Mem.le_put o hg.2, St.perm ?_ h2.symm⟩
  refine ⟨hp.os, hp.tape, hp.output, hp.size, fun k ok e => ?_, fun k ok hx => ?_, hn.2⟩
  · by_cases hk : k = g
    · subst hk; rw [Mem.put_same] at e; cases e; exact hg.1
    · rw [Mem.put_other m o hk] at e; exact hp.blk k ok e
  · have hx' : some (k, ok) ∈ R := by simpa using hx
    have := hp.own k ok (List.mem_cons_of_mem _ hx')
    refine ⟨this.1, ?_⟩
    rw [Mem.put_other m o]
    · exact this.2
    · rintro rfl
      exact hn.1 (mem_keys.2 ⟨_, hx'⟩)

/-! ### Slots -/
abbrev Env := List (Nat × Value)
def lk : Env → Nat → Option Value
  | [], _ => none
  | (k, v) :: R, s => bif Nat.beq k s then some v else lk R s
theorem lk_cons (k : Nat) (v : Value) (R : Env) (s : Nat) : lk ((k, v) :: R) s = if s = k then some v else lk R s := by
  simp only [lk]
  by_cases h : s = k
  · subst h; simp
  · have : Nat.beq k s = false := by
      cases e : Nat.beq k s with
      | false => rfl
      | true => exact absurd (Nat.eq_of_beq_eq_true e).symm h
    simp [this, h]
structure Rep (N : Nat) (E : Env) (a : Act) : Prop where
  size : a.tmps.size = N
  at_ : ∀ s v, lk E s = some v → a.tmps[s]? = some v

def evE (E : Env) : Operand → Option Value
  | .tmp t => lk E t
  | .const v => some v
  | .global g => some (.pointer (some ⟨g, 0, none⟩))
  | .func f => some (.func (.func f) #[] #[])

theorem Rep.eval {N : Nat} {E : Env} {a : Act} (h : Rep N E a) {x : Operand} {v : Value} (hx : evE E x = some v) : a.eval x = v := by
  cases x with
  | tmp t =>
    have := h.at_ t v hx
    simp [Act.eval, this]
  | const u => simpa [evE, Act.eval] using hx
  | global g => simpa [evE, Act.eval] using hx
  | func f => simpa [evE, Act.eval] using hx

def putE (d : Option Tmp) (v : Value) (E : Env) : Env :=
  match d with
  | some d => (d, v) :: E
  | none => E
def dstOk (N : Nat) (d : Option Tmp) : Bool := match d with | some d => decide (d < N) | none => true

theorem Rep.put {N : Nat} {E : Env} {a : Act} (h : Rep N E a) {d : Option Tmp} (hd : dstOk N d = true) (v : Value) : Rep N (putE d v E) (a.put d v) := by
  cases d with
  | none => exact h
  | some d =>
    have hd' : d < N := by simpa [dstOk] using hd
    refine ⟨by simp [Act.put, h.size], fun s u hs => ?_⟩
    simp only [putE, lk_cons] at hs
    by_cases e : s = d
    · subst e
      rw [if_pos rfl] at hs
      injection hs with hs
      subst hs
      simp [Act.put, h.size, hd']
    · rw [if_neg e] at hs
      simp only [Act.put]
      rw [Array.getElem?_setIfInBounds_ne (Ne.symm e)]
      exact h.at_ s u hs
theorem put_defers (a : Act) (d : Option Tmp) (v : Value) : (a.put d v).defers = a.defers := by cases d <;> rfl

theorem Rep.weaken {N : Nat} {E E' : Env} {a : Act} (h : Rep N E a) (hs : ∀ s v, lk E' s = some v → lk E s = some v) : Rep N E' a :=
  ⟨h.size, fun s v e => h.at_ s v (hs s v e)⟩

/-- All that E' tells E tells too: a test. -/
theorem lookup_of_all {E E' : Env} (h : ∀ x, x ∈ E' → lk E x.1 = some x.2) : ∀ s v, lk E' s = some v → lk E s = some v := by
  intro s v hs
  induction E' with
  | nil => cases hs
  | cons x R ih =>
    obtain ⟨k, u⟩ := x
    simp only [lk_cons] at hs
    by_cases e : s = k
    · subst e
      rw [if_pos rfl] at hs
      rw [h (s, u) List.mem_cons_self]; exact hs
    · rw [if_neg e] at hs
      exact ih (fun y hy => h y (List.mem_cons_of_mem _ hy)) hs

end Go.XC
/- The judgement on code: TC; regions in text order: TR; regions that draw: D, one walk for all orders. Nothing of a program. -/
set_option linter.unusedVariables false
namespace Go.XC
open Go Go.RowKit
variable {r : Option Nat} {P : Program} {N : Nat} {Df : List Deferred}

/-! ### What is asked at an end; code -/
def Post (N : Nat) (Df : List Deferred) (Q : Exit → Act → World → Prop) (e : Exit) (E : Env) (S : World → Prop) : Prop :=
  ∀ a w, Rep N E a → a.defers = Df → S w → Q e a w
def TC (r : Option Nat) (P : Program) (N : Nat) (Df : List Deferred) (c : Code) (E : Env) (S : World → Prop) (Q : Exit → Act → World → Prop) : Prop :=
  ∀ a w, Rep N E a → a.defers = Df → S w → c.wpIn (G r) 0 P Q a w

section
variable {Q : Exit → Act → World → Prop} {E E' : Env} {S S' : World → Prop} {x y c : Code} {K : Act → World → Prop} {id id' l : Nat}
theorem TC.skip (h : Post N Df Q .normal E S) : TC r P N Df .skip E S Q := fun a w ha hd hs => wpIn_skip (h a w ha hd hs)
theorem TC.ret (h : Post N Df Q .ret E S) : TC r P N Df .ret E S Q := fun a w ha hd hs => wpIn_ret (h a w ha hd hs)
theorem TC.exit (h : Post N Df Q (.exit id) E S) : TC r P N Df (.exit id) E S Q := fun a w ha hd hs => wpIn_exit (h a w ha hd hs)
theorem TC.label (h : Post N Df Q .normal E S) : TC r P N Df (.label l) E S Q := fun a w ha hd hs => wpIn_label (h a w ha hd hs)
theorem TC.seq (h : TC r P N Df x E S (Exit.then (y.wpIn (G r) 0 P Q) Q)) : TC r P N Df (.seq x y) E S Q := fun a w ha hd hs => wpIn_seq (h a w ha hd hs)
theorem TC.block (h : TC r P N Df c E S (Exit.inBlock id Q)) : TC r P N Df (.block id c) E S Q := fun a w ha hd hs => wpIn_block (h a w ha hd hs)
theorem TC.cond {o : Operand} (b : Bool) (hc : evE E o = some (.bool b)) (ht : b = true → TC r P N Df x E S Q) (hf : b = false → TC r P N Df y E S Q) :
    TC r P N Df (.cond o x y) E S Q := fun a w ha hd hs => wpIn_cond_split (ha.eval hc) (fun e => ht e a w ha hd hs) (fun e => hf e a w ha hd hs)
theorem wpIn_scope_straight {F : Fence} {n : Nat} {Q : Exit → Act → World → Prop} {a : Act} {w : World} {c : Code} (h : c.wpIn F n P (Exit.noGoto Q) a w) : (Code.scope c).wpIn F n P Q a w := by
  intro b k cs hro hb hr
  have h0 : (lone (b.atR a (.code (.scope c) :: k)) cs w).fenced P F := fenced_calm hb hr rfl
  have s1 : step P (lone (b.atR a (.code (.scope c) :: k)) cs w) = .next (lone (b.atR a (.code c :: .inScope c :: k)) cs w) := step_lone_go (by simp [stepG, stepG.exec, Frame.atR])
  obtain ⟨e, a₁, w₁, hq, harr⟩ := h b (.inScope c :: k) cs hro hb hr
  cases e with
  | normal =>
    have s2 : step P (lone (b.atR a₁ (.inScope c :: k)) cs w₁) = .next (lone (b.atR a₁ k) cs w₁) := step_lone_go (by simp [stepG, stepG.exec, Frame.atR])
    exact ⟨.normal, a₁, w₁, hq, .head h0 s1 (StepsIn.trans harr (.one (fenced_calm hb hr rfl) s2))⟩
  | exit id => exact ⟨.exit id, a₁, w₁, hq, fun k' hk => .head h0 s1 (harr.1 k' (by simp [exitTo, hk])),
      fun hr' hk => let ⟨k₁, h1, h2⟩ := harr.2 hr' (by simp [exitTo, hk]); ⟨k₁, h1, .head h0 s1 h2⟩⟩
  | goto l => exact hq.elim
  | ret => exact ⟨_, a₁, w₁, hq, .of_steps (.one h0 s1) harr⟩
  | panic ch => exact ⟨_, a₁, w₁, hq, .of_steps (.one h0 s1) harr⟩
  | outgrown => exact ⟨_, a₁, w₁, hq, .of_steps (.one h0 s1) harr⟩
theorem TC.scope (h : TC r P N Df c E S (Exit.noGoto Q)) : TC r P N Df (.scope c) E S Q := fun a w ha hd hs => wpIn_scope_straight (h a w ha hd hs)

theorem Post.then_normal (h : TC r P N Df y E S Q) : Post N Df (Exit.then (y.wpIn (G r) 0 P Q) Q) .normal E S := h
theorem Post.then_ret (h : Post N Df Q .ret E S) : Post N Df (Exit.then K Q) .ret E S := h
theorem Post.then_exit (h : Post N Df Q (.exit id) E S) : Post N Df (Exit.then K Q) (.exit id) E S := h
theorem Post.then_panic {ch} (h : Post N Df Q (.panic ch) E S) : Post N Df (Exit.then K Q) (.panic ch) E S := h
theorem Post.block_normal (h : Post N Df Q .normal E S) : Post N Df (Exit.inBlock id Q) .normal E S := h
theorem Post.block_ret (h : Post N Df Q .ret E S) : Post N Df (Exit.inBlock id Q) .ret E S := h
theorem Post.block_panic {ch} (h : Post N Df Q (.panic ch) E S) : Post N Df (Exit.inBlock id Q) (.panic ch) E S := h
theorem Post.block_here (h : Post N Df Q .normal E S) : Post N Df (Exit.inBlock id Q) (.exit id) E S := fun a w ha hd hs => by
  simp only [Exit.inBlock, if_true]; exact h a w ha hd hs
theorem Post.block_past (hne : id' ≠ id) (h : Post N Df Q (.exit id') E S) : Post N Df (Exit.inBlock id Q) (.exit id') E S := fun a w ha hd hs => by
  simp only [Exit.inBlock, if_neg hne]; exact h a w ha hd hs
theorem Post.scope_normal (h : Post N Df Q .normal E S) : Post N Df (Exit.noGoto Q) .normal E S := h
theorem Post.scope_ret (h : Post N Df Q .ret E S) : Post N Df (Exit.noGoto Q) .ret E S := h
theorem Post.scope_exit (h : Post N Df Q (.exit id) E S) : Post N Df (Exit.noGoto Q) (.exit id) E S := h
theorem Post.scope_panic {ch} (h : Post N Df Q (.panic ch) E S) : Post N Df (Exit.noGoto Q) (.panic ch) E S := h

/-- Forget slots, turn what is told of the world. -/
theorem TC.conseq (h : TC r P N Df c E' S' Q) (hE : ∀ s v, lk E' s = some v → lk E s = some v) (hS : ∀ w, S w → S' w) : TC r P N Df c E S Q :=
  fun a w ha hd hs => h a w (ha.weaken hE) hd (hS w hs)
theorem TC.of_exists {X : Type} {S' : X → World → Prop} (hS : ∀ w, S w → ∃ x, S' x w) (h : ∀ x, TC r P N Df c E (S' x) Q) : TC r P N Df c E S Q :=
  fun a w ha hd hs => let ⟨x, hx⟩ := hS w hs; h x a w ha hd hx
theorem Post.conseq {e : Exit} (h : Post N Df Q e E' S') (hE : ∀ s v, lk E' s = some v → lk E s = some v) (hS : ∀ w, S w → S' w) : Post N Df Q e E S :=
  fun a w ha hd hs => h a w (ha.weaken hE) hd (hS w hs)
end

/-! ### Loops: a ghost x tells the slots and the world, a number goes down -/
section
variable {Q : Exit → Act → World → Prop} {c : Code}
def LoopK {X : Type} (N : Nat) (Df : List Deferred) (E : X → Env) (S : X → World → Prop) (μ : X → Nat) (x : X) : Act → World → Prop :=
  fun a w => ∃ x', Rep N (E x') a ∧ a.defers = Df ∧ S x' w ∧ μ x' < μ x
theorem exists_least (p : Nat → Prop) (h : ∃ n, p n) : ∃ n, p n ∧ ∀ m, p m → n ≤ m := by
  obtain ⟨n, hn⟩ := h
  induction n using Nat.strongRecOn with
  | _ n ih =>
    by_cases h : ∃ m, m < n ∧ p m
    · obtain ⟨m, hm, hp⟩ := h
      exact ih m hm hp
    · exact ⟨n, hn, fun m hm => Nat.le_of_not_lt fun hlt => h ⟨m, hlt, hm⟩⟩
open Classical in
theorem TC.loop {X : Type} (E : X → Env) (S : X → World → Prop) (μ : X → Nat) (x0 : X) {E0 : Env} {S0 : World → Prop}
    (hE : ∀ s v, lk (E x0) s = some v → lk E0 s = some v) (hS : ∀ w, S0 w → S x0 w)
    (round : ∀ x, TC r P N Df c (E x) (S x) (Exit.then (LoopK N Df E S μ x) Q)) : TC r P N Df (.loop c) E0 S0 Q := by
  intro a w ha hd hs
  let I : Act → World → Prop := fun a w => ∃ x, Rep N (E x) a ∧ a.defers = Df ∧ S x w
  let H : Act → World → Prop := fun a w => ∃ j, ∃ x, μ x = j ∧ Rep N (E x) a ∧ a.defers = Df ∧ S x w
  let M : Act → World → Nat := fun a w => if h : H a w then Classical.choose (exists_least _ h) else 0
  have hM : ∀ a w x, Rep N (E x) a → a.defers = Df → S x w → M a w ≤ μ x := by
    intro a w x h1 h2 h3
    have h : H a w := ⟨μ x, x, rfl, h1, h2, h3⟩
    show (if h : H a w then Classical.choose (exists_least _ h) else 0) ≤ μ x
    rw [dif_pos h]
    exact (Classical.choose_spec (exists_least _ h)).2 _ ⟨x, rfl, h1, h2, h3⟩
  refine wpIn_loop I M ⟨x0, ha.weaken hE, hd, hS w hs⟩ ?_
  rintro a w ⟨x1, h1, h2, h3⟩
  have h : H a w := ⟨μ x1, x1, rfl, h1, h2, h3⟩
  have hm : M a w = Classical.choose (exists_least _ h) := dif_pos h
  obtain ⟨x, hx, g1, g2, g3⟩ := (Classical.choose_spec (exists_least _ h)).1
  refine wpIn_mono (round x a w g1 g2 g3) ?_
  intro e a' w' q
  cases e with
  | normal =>
    obtain ⟨x', k1, k2, k3, k4⟩ := q
    exact ⟨⟨x', k1, k2, k3⟩, by rw [hm, ← hx]; exact Nat.lt_of_le_of_lt (hM a' w' x' k1 k2 k3) k4⟩
  | _ => exact q
theorem Post.loop_next {X : Type} {E : X → Env} {S : X → World → Prop} {μ : X → Nat} {x : X} {E' : Env} {S' : World → Prop} (x' : X)
    (hE : ∀ s v, lk (E x') s = some v → lk E' s = some v) (hS : ∀ w, S' w → S x' w) (hμ : μ x' < μ x) : Post N Df (Exit.then (LoopK N Df E S μ x) Q) .normal E' S' :=
  fun a w ha hd hs => ⟨x', ha.weaken hE, hd, hS w hs, hμ⟩
/-- Where the next ghost hangs on the world. -/
theorem Post.loop_next' {X : Type} {E : X → Env} {S : X → World → Prop} {μ : X → Nat} {x : X} {E' : Env} {S' : World → Prop}
    (h : ∀ w, S' w → ∃ x', (∀ s v, lk (E x') s = some v → lk E' s = some v) ∧ S x' w ∧ μ x' < μ x) : Post N Df (Exit.then (LoopK N Df E S μ x) Q) .normal E' S' :=
  fun a w ha hd hs => let ⟨x', hE, hS, hμ⟩ := h w hs; ⟨x', ha.weaken hE, hd, hS, hμ⟩
end

/-! ### Operations -/
def Wd (N : Nat) (ops : Array Oper) (o : Oper) (E : Env) (b : Bool) : Prop := ∀ a, Rep N E a → Region.wanted o (yielded ops a.tmps) = b
theorem Wd.plain {ops : Array Oper} {o : Oper} {E : Env} (h : o.guard = none) : Wd N ops o E true := fun a _ => by simp [Region.wanted, h]
theorem Wd.guard {ops : Array Oper} {o : Oper} {E : Env} {j : Nat} {t : Tmp} {b want : Bool} (h : o.guard = some (j, want)) (ht : (ops[j]?).bind (·.dst) = some t)
    (hl : lk E t = some (.bool b)) : Wd N ops o E (b == want) := fun a ha => by
  simp only [Region.wanted, h, yielded, ht, Option.bind_some, ha.at_ t _ hl]
  cases b <;> cases want <;> rfl

def CRes (r : Option Nat) (P : Program) (K : Value → World → Prop) : Result Next → Prop
  | .ok (.value v) w' => K v w'
  | .ok .skip w' => K undef w'
  | .ok (.enter f args) w' => Calls P f args w' fun e w'' => ∃ v, e = .returned v ∧ K v w''
  | .ok (.round l f tmps assign body) w' => RoundIn (G r) 0 P l f tmps assign body w' fun e w'' => ∃ v, e = .returned v ∧ K v w''
  | _ => False

theorem CRes.mono {K K' : Value → World → Prop} {res : Result Next} (hk : ∀ v w, K v w → K' v w) (h : CRes r P K res) : CRes r P K' res := by
  cases res with
  | ok x w' =>
    cases x <;> simp only [CRes] at h ⊢ <;> first
      | exact hk _ _ h
      | exact Calls.mono h fun e w ⟨v, he, hv⟩ => ⟨v, he, hk _ _ hv⟩
      | exact RoundIn.mono h fun e w ⟨v, he, hv⟩ => ⟨v, he, hk _ _ hv⟩
  | halt x w' => cases x <;> exact h

theorem CRes.upon {K : Value → World → Prop} {res : Result Next} {o : Oper} {a : Act} {next : Act → World → Prop} {Q : Exit → Act → World → Prop} (h : CRes r P K res)
    (hk : ∀ v w, K v w → next (a.put o.dst v) w) : o.uponIn (G r) 0 P a next Q res := by
  cases res with
  | ok x w' =>
    cases x <;> simp only [CRes] at h <;> simp only [Oper.uponIn] <;> first
      | exact hk _ _ h
      | (refine ⟨fun hn => by simp [G] at hn, callsG.2 (Calls.mono h ?_)⟩
         rintro e w ⟨v, rfl, hv⟩
         exact hk _ _ hv)
      | (refine ⟨fun hn => by simp [G] at hn, RoundIn.mono h ?_⟩
         rintro e w ⟨v, rfl, hv⟩
         exact hk _ _ hv)
  | halt x w' => cases x <;> exact h.elim

def plainOp (o : Oper) : Bool := match o.op with | .defer _ => false | .select _ _ => false | _ => true
theorem semAt_plain {o : Oper} (h : plainOp o = true) (ro : Option Nat) (ρ : Operand → Value) : o.semAt ro ρ = execOp ρ o :=
  Oper.semAt_eq ro ρ o fun c hc => by simp [plainOp, hc] at h

theorem wpIn_of_CRes {K : Value → World → Prop} {o : Oper} {a : Act} {w : World} {next : Act → World → Prop} {Q : Exit → Act → World → Prop} (hp : plainOp o = true)
    (h : CRes r P K ((execOp a.eval o).run P w)) (hk : ∀ v w, K v w → next (a.put o.dst v) w) : o.wpIn (G r) 0 P a w next Q :=
  ⟨fun _ _ => trivial, by rw [semAt_plain hp]; exact h.upon hk⟩

/-- The operation comes to v whatever the world is of which Sb holds, and leaves it. -/
def EvS (P : Program) (N : Nat) (o : Oper) (E : Env) (Sb : World → Prop) (v : Value) : Prop :=
  ∀ a w, Rep N E a → Sb w → (execOp a.eval o).run P w = .ok (.value v) w
/-- The operation turns the world. -/
def EvC (r : Option Nat) (P : Program) (N : Nat) (o : Oper) (E : Env) (S : World → Prop) (K : Value → World → Prop) : Prop :=
  ∀ a w, Rep N E a → S w → CRes r P K ((execOp a.eval o).run P w)

/-! ### A region in text order -/
def WL (r : Option Nat) (P : Program) (ops : Array Oper) (Q : Exit → Act → World → Prop) : List Oper → Act → World → Prop
  | [], a, w => Q .normal a w
  | o :: rest, a, w => if Region.wanted o (yielded ops a.tmps) then o.wpIn (G r) 0 P a w (WL r P ops Q rest) Q else WL r P ops Q rest (a.put o.dst undef) w
theorem wpOpsIn_WL {ops : Array Oper} {Q : Exit → Act → World → Prop} (l : List Oper) : ∀ k, (∀ j, j < l.length → l[j]? = ops[k + j]?) → ∀ a w, WL r P ops Q l a w → wpOpsIn (G r) 0 P ops Q (List.range' k l.length) a w := by
  induction l with
  | nil => intro k _ a w h; simpa [wpOpsIn, WL] using h
  | cons o l ih =>
    intro k h a w hw
    have h0 : ops[k]? = some o := by simpa using (h 0 (by simp)).symm
    have ih' := ih (k + 1) (fun j hj => by have := h (j + 1) (by simpa using hj); simpa [Nat.add_assoc, Nat.add_comm 1 j] using this)
    simp only [List.length_cons, List.range'_succ, wpOpsIn, h0]
    simp only [WL] at hw
    split
    · rename_i hwd
      rw [if_pos hwd] at hw
      exact Oper.wpIn_mono ih' hw
    · rename_i hwd
      rw [if_neg hwd] at hw
      exact ⟨fun _ _ => trivial, ih' _ _ hw⟩

def TR (r : Option Nat) (P : Program) (N : Nat) (Df : List Deferred) (ops : Array Oper) (rest : List Oper) (E : Env) (S : World → Prop) (Q : Exit → Act → World → Prop) : Prop :=
  ∀ a w, Rep N E a → a.defers = Df → S w → WL r P ops Q rest a w

section
variable {Q : Exit → Act → World → Prop} {E E' : Env} {S S' : World → Prop} {ops : Array Oper} {o : Oper} {rest : List Oper}
theorem TC.region {id : Nat} {l : List Oper} (h : TR r P N Df l.toArray l E S Q) : TC r P N Df (.region id l.toArray false) E S Q := fun a w ha hd hs => by
  refine wpIn_region ?_
  have := wpOpsIn_WL (ops := l.toArray) l 0 (fun j _ => by simp) a w (h a w ha hd hs)
  rwa [← List.range_eq_range'] at this
theorem TR.nil (h : Post N Df Q .normal E S) : TR r P N Df ops [] E S Q := h
theorem TR.conseq (h : TR r P N Df ops rest E' S' Q) (hE : ∀ s v, lk E' s = some v → lk E s = some v) (hS : ∀ w, S w → S' w) : TR r P N Df ops rest E S Q :=
  fun a w ha hd hs => h a w (ha.weaken hE) hd (hS w hs)
theorem TR.of_exists {X : Type} {S' : X → World → Prop} (hS : ∀ w, S w → ∃ x, S' x w) (h : ∀ x, TR r P N Df ops rest E (S' x) Q) : TR r P N Df ops rest E S Q :=
  fun a w ha hd hs => let ⟨x, hx⟩ := hS w hs; h x a w ha hd hx
theorem TR.stable {v : Value} (hp : plainOp o = true) (hd' : dstOk N o.dst = true) (hw : Wd N ops o E true) (hv : EvS P N o E S v) (h : TR r P N Df ops rest (putE o.dst v E) S Q) :
    TR r P N Df ops (o :: rest) E S Q := fun a w ha hd hs => by
  simp only [WL]
  rw [if_pos (hw a ha)]
  refine wpIn_of_CRes (K := fun u w' => u = v ∧ w' = w) hp (by rw [hv a w ha hs]; exact ⟨rfl, rfl⟩) ?_
  rintro u w' ⟨rfl, rfl⟩
  exact h _ _ (ha.put hd' _) (by rw [put_defers]; exact hd) hs
theorem TR.skip (hd' : dstOk N o.dst = true) (hw : Wd N ops o E false) (h : TR r P N Df ops rest (putE o.dst undef E) S Q) : TR r P N Df ops (o :: rest) E S Q := fun a w ha hd hs => by
  simp only [WL]
  rw [if_neg (by rw [hw a ha]; simp)]
  exact h _ _ (ha.put hd' _) (by rw [put_defers]; exact hd) hs
theorem TR.chain {X : Type} {val : X → Value} {S' : X → World → Prop} (hp : plainOp o = true) (hd' : dstOk N o.dst = true) (hw : Wd N ops o E true)
    (hv : EvC r P N o E S (fun u w => ∃ x, u = val x ∧ S' x w)) (h : ∀ x, TR r P N Df ops rest (putE o.dst (val x) E) (S' x) Q) : TR r P N Df ops (o :: rest) E S Q := fun a w ha hd hs => by
  simp only [WL]
  rw [if_pos (hw a ha)]
  refine wpIn_of_CRes hp (hv a w ha hs) ?_
  rintro u w' ⟨x, rfl, hx⟩
  exact h x _ _ (ha.put hd' _) (by rw [put_defers]; exact hd) hx
/-- An operation with its own rule. -/
theorem TR.raw (h : ∀ a w, Rep N E a → a.defers = Df → S w → Region.wanted o (yielded ops a.tmps) = true ∧ o.wpIn (G r) 0 P a w (WL r P ops Q rest) Q) : TR r P N Df ops (o :: rest) E S Q := fun a w ha hd hs => by
  simp only [WL]
  rw [if_pos (h a w ha hd hs).1]
  exact (h a w ha hd hs).2
end

/-! ### A region that draws its order -/
inductive Kind where
  | st | sk | ch
  deriving DecidableEq
section
variable (r) (P) (N) (Df)
def D (ops : Array Oper) (B : List Oper) (Q : Exit → Act → World → Prop) (Sb : World → Prop) : List (Kind × Oper) → Env → (World → Prop) → Prop
  | [], E, S => TR r P N Df ops B E S Q
  | (.st, o) :: rest, E, S => ∃ v, Wd N ops o E true ∧ EvS P N o E Sb v ∧ D ops B Q Sb rest (putE o.dst v E) S
  | (.sk, o) :: rest, E, S => Wd N ops o E false ∧ D ops B Q Sb rest (putE o.dst undef E) S
  | (.ch, o) :: rest, E, S => ∃ (X : Type) (_ : Nonempty X) (val : X → Value) (S' : X → World → Prop), Wd N ops o E true ∧ (∀ x w, S' x w → Sb w) ∧
      EvC r P N o E S (fun u w => ∃ x, u = val x ∧ S' x w) ∧ ∀ x, D ops B Q Sb rest (putE o.dst (val x) E) (S' x)
end

section
variable {Q : Exit → Act → World → Prop} {E E' : Env} {S : World → Prop} {Sb : World → Prop} {ops : Array Oper} {B : List Oper}
theorem rep_reset (hk : ∃ a, Rep N E a) (T : List Tmp) (hT : ∀ t, t ∈ T → lk E t = lk E' t) {a : Act} (ha : Rep N E' a) :
    ∃ a', Rep N E a' ∧ ∀ t, t ∈ T → a'.tmps[t]? = a.tmps[t]? := by
  obtain ⟨a0, h0⟩ := hk
  refine ⟨{ tmps := Array.ofFn (n := N) fun s => if s.val ∈ T then a.tmps.getD s.val undef else (lk E s.val).getD undef, defers := [] }, ⟨by simp, fun s v hs => ?_⟩, fun t ht => ?_⟩
  · have hlt : s < N := by
      have := h0.at_ s v hs
      have := (Array.getElem?_eq_some_iff.1 this).1
      rw [h0.size] at this; exact this
    rw [Array.getElem?_ofFn, dif_pos hlt]
    by_cases hm : s ∈ T
    · simp only [hm, if_true]
      have := ha.at_ s v ((hT s hm).symm.trans hs)
      simp [this]
    · simp only [hm, if_false, hs, Option.getD_some]
  · rw [Array.getElem?_ofFn]
    by_cases hlt : t < N
    · rw [dif_pos hlt]
      simp only [ht, if_true]
      have : t < a.tmps.size := by rw [ha.size]; exact hlt
      simp [this]
    · rw [dif_neg hlt]
      symm
      rw [Array.getElem?_eq_none_iff, ha.size]; exact Nat.le_of_not_lt hlt

theorem eval_same {a a' : Act} {o : Oper} (hp : plainOp o = true) (h : ∀ t, t ∈ o.looksAt ops → a'.tmps[t]? = a.tmps[t]?) : execOp a'.eval o = execOp a.eval o := by
  refine execOp_congr o (fun cs b hc => by simp [plainOp, hc] at hp) fun x hx => ?_
  cases x with
  | tmp t =>
    have ht : t ∈ o.looksAt ops := List.mem_append_left _ (List.mem_filterMap.2 ⟨.tmp t, by simpa using hx, rfl⟩)
    simp [Act.eval, h t ht]
  | _ => rfl
theorem wanted_same {a a' : Act} {o : Oper} (h : ∀ t, t ∈ o.looksAt ops → a'.tmps[t]? = a.tmps[t]?) :
    Region.wanted o (yielded ops a'.tmps) = Region.wanted o (yielded ops a.tmps) := by
  unfold Region.wanted
  cases hg : o.guard with
  | none => rfl
  | some jw =>
    obtain ⟨j, want⟩ := jw
    have : yielded ops a'.tmps j = yielded ops a.tmps j := by
      unfold yielded
      cases ht : (ops[j]?).bind (·.dst) with
      | none => rfl
      | some t =>
        have hm : t ∈ o.looksAt ops := List.mem_append_right _ (by simp [hg, ht])
        simp only [Option.bind_some, h t hm]
    simp only [this]

theorem Wd.carry {o : Oper} {b : Bool} (hk : ∃ a, Rep N E a) (hT : ∀ t, t ∈ o.looksAt ops → lk E t = lk E' t) (h : Wd N ops o E b) : Wd N ops o E' b := fun a ha => by
  obtain ⟨a', h1, h2⟩ := rep_reset hk _ hT ha
  rw [← wanted_same h2]; exact h a' h1
theorem EvS.carry {o : Oper} {v : Value} (hp : plainOp o = true) (hk : ∃ a, Rep N E a) (hT : ∀ t, t ∈ o.looksAt ops → lk E t = lk E' t) (h : EvS P N o E Sb v) : EvS P N o E' Sb v := fun a w ha hs => by
  obtain ⟨a', h1, h2⟩ := rep_reset hk _ hT ha
  rw [← eval_same (ops := ops) hp h2]; exact h a' w h1 hs
theorem EvC.carry {o : Oper} {K : Value → World → Prop} (hp : plainOp o = true) (hk : ∃ a, Rep N E a) (hT : ∀ t, t ∈ o.looksAt ops → lk E t = lk E' t) (h : EvC r P N o E S K) : EvC r P N o E' S K := fun a w ha hs => by
  obtain ⟨a', h1, h2⟩ := rep_reset hk _ hT ha
  rw [← eval_same (ops := ops) hp h2]; exact h a' w h1 hs

theorem lookup_put_other {d : Option Tmp} {v : Value} {t : Tmp} (h : d ≠ some t) : lk (putE d v E) t = lk E t := by
  cases d with
  | none => rfl
  | some d =>
    have : t ≠ d := fun e => h (by rw [e])
    simp only [putE, lk_cons, if_neg this]
theorem lookup_put_congr {d : Option Tmp} {v : Value} (h : ∀ t, lk E t = lk E' t) (t : Tmp) : lk (putE d v E) t = lk (putE d v E') t := by
  cases d with
  | none => exact h t
  | some d => simp only [putE, lk_cons, h t]
theorem lookup_put_comm {d d' : Option Tmp} {v v' : Value} (h : ∀ t, d = some t → d' ≠ some t) (t : Tmp) : lk (putE d v (putE d' v' E)) t = lk (putE d' v' (putE d v E)) t := by
  cases d with
  | none => rfl
  | some d =>
    cases d' with
    | none => rfl
    | some d' =>
      have hne : d' ≠ d := fun e => h d rfl (by rw [e])
      simp only [putE, lk_cons]
      by_cases h1 : t = d
      · have h2 : t ≠ d' := fun e => hne (by rw [← e, h1])
        rw [if_pos h1, if_neg h2, if_pos h1]
      · rw [if_neg h1, if_neg h1]

theorem D.congr : ∀ (A : List (Kind × Oper)) (E E' : Env) (S : World → Prop), (∀ t, lk E t = lk E' t) → D r P N Df ops B Q Sb A E S → D r P N Df ops B Q Sb A E' S := by
  intro A
  induction A with
  | nil => exact fun E E' S he h a w ha hd hs => h a w (ha.weaken fun s v e => (he s).symm.trans e) hd hs
  | cons x A ih =>
    intro E E' S he h
    have hw : ∀ {o b}, Wd N ops o E b → Wd N ops o E' b := fun h a ha => h a (ha.weaken fun s v e => (he s).symm.trans e)
    obtain ⟨k, o⟩ := x
    cases k with
    | st =>
      obtain ⟨v, h1, h2, h3⟩ := h
      exact ⟨v, hw h1, fun a w ha hs => h2 a w (ha.weaken fun s v e => (he s).symm.trans e) hs, ih _ _ _ (lookup_put_congr he) h3⟩
    | sk => exact ⟨hw h.1, ih _ _ _ (lookup_put_congr he) h.2⟩
    | ch =>
      obtain ⟨X, hX, val, S', h1, h2, h3, h4⟩ := h
      exact ⟨X, hX, val, S', hw h1, h2, fun a w ha hs => h3 a w (ha.weaken fun s v e => (he s).symm.trans e) hs, fun x => ih _ _ _ (lookup_put_congr he) (h4 x)⟩

/-- x and y may be taken in either order. -/
def swapOk (N : Nat) (ops : Array Oper) (x y : Kind × Oper) : Prop := x.2.apart ops y.2 = true ∧ ¬ (x.1 = .ch ∧ y.1 = .ch) ∧ plainOp x.2 = true ∧ plainOp y.2 = true ∧ dstOk N x.2.dst = true ∧ dstOk N y.2.dst = true

theorem D.swap {p o : Kind × Oper} {C : List (Kind × Oper)} (hok : swapOk N ops p o) (hsat : ∃ a, Rep N E a) (hsb : ∃ w, Sb w) (h : D r P N Df ops B Q Sb (p :: o :: C) E S) :
    D r P N Df ops B Q Sb (o :: p :: C) E S := by
  obtain ⟨hap, hch, hpp, hpo, hdp, hdo⟩ := hok
  obtain ⟨q1, q2, q3⟩ := Oper.apart_spec hap
  obtain ⟨kp, p⟩ := p
  obtain ⟨ko, o⟩ := o
  simp only at *
  have sat : ∀ d v, dstOk N d = true → ∃ a, Rep N (putE d v E) a := fun d v hd => let ⟨a, ha⟩ := hsat; ⟨_, ha.put hd v⟩
  have lo : ∀ v t, t ∈ o.looksAt ops → lk (putE p.dst v E) t = lk E t := fun v t ht => lookup_put_other fun e => q1 t e ht
  have lp : ∀ v t, t ∈ p.looksAt ops → lk E t = lk (putE o.dst v E) t := fun v t ht => (lookup_put_other fun e => q3 t e ht).symm
  have cm : ∀ v u t, lk (putE o.dst v (putE p.dst u E)) t = lk (putE p.dst u (putE o.dst v E)) t := fun v u => lookup_put_comm fun t e e' => q2 t e' e
  cases kp with
  | st =>
    obtain ⟨vp, p1, p2, p3⟩ := h
    cases ko with
    | st =>
      obtain ⟨vo, o1, o2, o3⟩ := p3
      exact ⟨vo, o1.carry (sat _ _ hdp) (lo vp), o2.carry (ops := ops) hpo (sat _ _ hdp) (lo vp), vp, p1.carry hsat (lp vo), p2.carry (ops := ops) hpp hsat (lp vo), D.congr _ _ _ _ (cm vo vp) o3⟩
    | sk => exact ⟨p3.1.carry (sat _ _ hdp) (lo vp), vp, p1.carry hsat (lp undef), p2.carry (ops := ops) hpp hsat (lp undef), D.congr _ _ _ _ (cm undef vp) p3.2⟩
    | ch =>
      obtain ⟨X, hX, val, S', o1, o2, o3, o4⟩ := p3
      exact ⟨X, hX, val, S', o1.carry (sat _ _ hdp) (lo vp), o2, o3.carry (ops := ops) hpo (sat _ _ hdp) (lo vp), fun x => ⟨vp, p1.carry hsat (lp (val x)), p2.carry (ops := ops) hpp hsat (lp (val x)), D.congr _ _ _ _ (cm (val x) vp) (o4 x)⟩⟩
  | sk =>
    obtain ⟨p1, p3⟩ := h
    cases ko with
    | st =>
      obtain ⟨vo, o1, o2, o3⟩ := p3
      exact ⟨vo, o1.carry (sat _ _ hdp) (lo undef), o2.carry (ops := ops) hpo (sat _ _ hdp) (lo undef), p1.carry hsat (lp vo), D.congr _ _ _ _ (cm vo undef) o3⟩
    | sk => exact ⟨p3.1.carry (sat _ _ hdp) (lo undef), p1.carry hsat (lp undef), D.congr _ _ _ _ (cm undef undef) p3.2⟩
    | ch =>
      obtain ⟨X, hX, val, S', o1, o2, o3, o4⟩ := p3
      exact ⟨X, hX, val, S', o1.carry (sat _ _ hdp) (lo undef), o2, o3.carry (ops := ops) hpo (sat _ _ hdp) (lo undef), fun x => ⟨p1.carry hsat (lp (val x)), D.congr _ _ _ _ (cm (val x) undef) (o4 x)⟩⟩
  | ch =>
    obtain ⟨X, hX, val, S', p1, p2, p3, p4⟩ := h
    obtain ⟨x0⟩ := hX
    cases ko with
    | st =>
      obtain ⟨vo, o1, o2, _⟩ := p4 x0
      have e2 : EvS P N o E Sb vo := o2.carry (ops := ops) hpo (sat _ _ hdp) (lo (val x0))
      refine ⟨vo, o1.carry (sat _ _ hdp) (lo (val x0)), e2, X, ⟨x0⟩, val, S', p1.carry hsat (lp vo), p2, p3.carry (ops := ops) hpp hsat (lp vo), fun x => ?_⟩
      obtain ⟨vx, o1', o2', o3'⟩ := p4 x
      have e2' : EvS P N o E Sb vx := o2'.carry (ops := ops) hpo (sat _ _ hdp) (lo (val x))
      obtain ⟨a, ha⟩ := hsat
      obtain ⟨w, hw⟩ := hsb
      have : vx = vo := by
        have h1 := e2 a w ha hw
        have h2 := e2' a w ha hw
        rw [h1] at h2
        injection h2 with h2
        injection h2 with h2
        exact h2.symm
      subst this
      exact D.congr _ _ _ _ (cm vx (val x)) o3'
    | sk => exact ⟨(p4 x0).1.carry (sat _ _ hdp) (lo (val x0)), X, ⟨x0⟩, val, S', p1.carry hsat (lp undef), p2, p3.carry (ops := ops) hpp hsat (lp undef), fun x => D.congr _ _ _ _ (cm undef (val x)) (p4 x).2⟩
    | ch => exact absurd ⟨rfl, rfl⟩ hch

theorem D.head {o : Kind × Oper} {C2 : List (Kind × Oper)} (hsb : ∃ w, Sb w) : ∀ (C1 : List (Kind × Oper)) (E : Env) (S : World → Prop), (∀ p, p ∈ C1 → swapOk N ops p o) → (∃ a, Rep N E a) →
    D r P N Df ops B Q Sb (C1 ++ o :: C2) E S → D r P N Df ops B Q Sb (o :: (C1 ++ C2)) E S := by
  intro C1
  induction C1 with
  | nil => exact fun E S _ _ h => h
  | cons p C1 ih =>
    intro E S hok hsat h
    have hp := hok p List.mem_cons_self
    refine D.swap hp hsat hsb ?_
    have sat : ∀ v, ∃ a, Rep N (putE p.2.dst v E) a := fun v => let ⟨a, ha⟩ := hsat; ⟨_, ha.put hp.2.2.2.2.1 v⟩
    have ih' := fun E S => ih E S (fun q hq => hok q (List.mem_cons_of_mem _ hq))
    obtain ⟨kp, p⟩ := p
    cases kp with
    | st => obtain ⟨vp, p1, p2, p3⟩ := h; exact ⟨vp, p1, p2, ih' _ _ (sat vp) p3⟩
    | sk => exact ⟨h.1, ih' _ _ (sat undef) h.2⟩
    | ch => obtain ⟨X, hX, val, S', p1, p2, p3, p4⟩ := h; exact ⟨X, hX, val, S', p1, p2, p3, fun x => ih' _ _ (sat (val x)) (p4 x)⟩

/-! ### All orders -/
def ancC (ops : Array Oper) : Nat → Nat → Nat → Bool
  | 0, _, _ => false
  | f + 1, i, p => match ops[i]? with
    | some o => o.after.any fun e => Region.binds .any e && (e.on == p || ((e.ground == .chain || e.ground == .guard || e.on + 1 == i) && ancC ops f e.on p))
    | none => false
def isCh : Option (Kind × Oper) → Bool
  | some (.ch, _) => true
  | _ => false
def okDraw (N : Nat) (ops : Array Oper) (A : List (Kind × Oper)) : Bool :=
  (List.range ops.size).all fun i => match ops[i]? with
    | none => false
    | some o => dstOk N o.dst && plainOp o && (o.after.all fun e => !Region.binds .any e || decide (e.on < i)) &&
        (List.range i).all fun p => (decide (i < A.length) && (match ops[p]? with | some q => q.apart ops o | none => false) && !(isCh A[p]? && isCh A[i]?)) || ancC ops 8 i p

/-- What is listed has listed what it waits for. -/
def DC (ops : Array Oper) (L : Array Bool) : Prop := ∀ i o, L.getD i false = true → ops[i]? = some o → ∀ e, e ∈ o.after → Region.binds .any e = true → L.getD e.on false = true
theorem DC.anc {L : Array Bool} (h : DC ops L) : ∀ (f i p : Nat), L.getD i false = true → ancC ops f i p = true → L.getD p false = true := by
  intro f
  induction f with
  | zero => intro i p _ ha; simp [ancC] at ha
  | succ f ih =>
    intro i p hi ha
    simp only [ancC] at ha
    cases ho : ops[i]? with
    | none => simp [ho] at ha
    | some o =>
      simp only [ho] at ha
      obtain ⟨e, he, hb⟩ := Array.any_eq_true'.1 ha
      simp only [Bool.and_eq_true, Bool.or_eq_true, beq_iff_eq] at hb
      have hl := h i o hi ho e he hb.1
      rcases hb.2 with rfl | hc
      · exact hl
      · exact ih _ _ hl hc.2
theorem DC.ready_anc {L : Array Bool} (h : DC ops L) {f i p : Nat} {o : Oper} (ho : ops[i]? = some o) (hr : ∀ e, e ∈ o.after → Region.binds .any e = true → L.getD e.on false = true)
    (ha : ancC ops f i p = true) : L.getD p false = true := by
  cases f with
  | zero => simp [ancC] at ha
  | succ f =>
    simp only [ancC, ho] at ha
    obtain ⟨e, he, hb⟩ := Array.any_eq_true'.1 ha
    simp only [Bool.and_eq_true, Bool.or_eq_true, beq_iff_eq] at hb
    have hl := hr e he hb.1
    rcases hb.2 with rfl | hc
    · exact hl
    · exact h.anc _ _ _ hl hc.2

theorem mem_ready {L : Array Bool} {i : Nat} (hL : L.size = ops.size) : i ∈ Region.ready .any ops L ↔ ∃ o, ops[i]? = some o ∧ L.getD i false = false ∧ ∀ e, e ∈ o.after → Region.binds .any e = true → L.getD e.on false = true := by
  unfold Region.ready
  rw [List.mem_filter, List.mem_range]
  constructor
  · rintro ⟨hi, h⟩
    have ho : ops[i]? = some ops[i] := Array.getElem?_eq_getElem hi
    have hL' : i < L.size := by omega
    simp only [ho, Option.map_some, Option.getD_some, Bool.and_eq_true, Bool.not_eq_true'] at h
    refine ⟨_, ho, ?_, fun e he hb => ?_⟩
    · have := h.1
      simp only [Array.getD_eq_getD_getElem?, Array.getElem?_eq_getElem hL', Option.getD_some] at this ⊢
      exact this
    · have := Array.all_eq_true'.1 h.2 e he
      simpa [hb] using this
  · rintro ⟨o, ho, h1, h2⟩
    have hi : i < ops.size := (Array.getElem?_eq_some_iff.1 ho).1
    have hL' : i < L.size := by omega
    refine ⟨hi, ?_⟩
    simp only [ho, Option.map_some, Option.getD_some, Bool.and_eq_true, Bool.not_eq_true']
    refine ⟨?_, Array.all_eq_true'.2 fun e he => ?_⟩
    · simp only [Array.getD_eq_getD_getElem?, Array.getElem?_eq_getElem hL', Option.getD_some] at h1 ⊢
      exact h1
    · cases hb : Region.binds .any e with
      | false => simp
      | true => simpa using h2 e he hb

/-- The operations of A that are not listed, in text order; A's first has number k. -/
def left (L : Array Bool) : Nat → List (Kind × Oper) → List (Kind × Oper)
  | _, [] => []
  | k, x :: A => if L.getD k false then left L (k + 1) A else x :: left L (k + 1) A
theorem left_set_ne {L : Array Bool} {i : Nat} : ∀ (A : List (Kind × Oper)) (k : Nat), (i < k ∨ k + A.length ≤ i) → left (L.setIfInBounds i true) k A = left L k A := by
  intro A
  induction A with
  | nil => intro k _; rfl
  | cons x A ih =>
    intro k h
    have hne : i ≠ k := by simp at h; omega
    have e : (L.setIfInBounds i true).getD k false = L.getD k false := by simp [Array.getD_eq_getD_getElem?, Array.getElem?_setIfInBounds_ne hne]
    simp only [left, e, ih (k + 1) (by simp at h; omega)]
theorem left_split {L : Array Bool} {i : Nat} (hi : L.getD i false = false) (hL : i < L.size) : ∀ (A : List (Kind × Oper)) (k : Nat) (x : Kind × Oper), k ≤ i → A[i - k]? = some x →
    ∃ C1 C2, left L k A = C1 ++ x :: C2 ∧ left (L.setIfInBounds i true) k A = C1 ++ C2 ∧ ∀ p, p ∈ C1 → ∃ j, k ≤ j ∧ j < i ∧ L.getD j false = false ∧ A[j - k]? = some p := by
  intro A
  induction A with
  | nil => intro k x _ h; simp at h
  | cons y A ih =>
    intro k x hk hx
    by_cases e : i = k
    · subst e
      simp at hx
      subst hx
      have e1 : (L.setIfInBounds i true).getD i false = true := by simp [Array.getD_eq_getD_getElem?, hL]
      refine ⟨[], left L (i + 1) A, ?_, ?_, fun p hp => by cases hp⟩
      · simp only [left, hi]; simp
      · simp only [left, e1, if_true, List.nil_append]; exact left_set_ne A (i + 1) (.inl (by omega))
    · have e2 : (L.setIfInBounds i true).getD k false = L.getD k false := by simp [Array.getD_eq_getD_getElem?, Array.getElem?_setIfInBounds_ne e]
      have hx' : A[i - (k + 1)]? = some x := by
        have : i - k = (i - (k + 1)) + 1 := by omega
        rw [this] at hx; simpa using hx
      obtain ⟨C1, C2, h1, h2, h3⟩ := ih (k + 1) x (by omega) hx'
      have h3' : ∀ p, p ∈ C1 → ∃ j, k ≤ j ∧ j < i ∧ L.getD j false = false ∧ (y :: A)[j - k]? = some p := fun p hp => by
        obtain ⟨j, j1, j2, j3, j4⟩ := h3 p hp
        refine ⟨j, by omega, j2, j3, ?_⟩
        have : j - k = (j - (k + 1)) + 1 := by omega
        rw [this]; simpa using j4
      cases hk' : L.getD k false with
      | true => exact ⟨C1, C2, by simp only [left, hk', if_true]; exact h1, by simp only [left, e2, hk', if_true]; exact h2, h3'⟩
      | false =>
        refine ⟨y :: C1, C2, by simp only [left, hk']; simp [h1], by simp only [left, e2, hk']; simp [h2], fun p hp => ?_⟩
        rcases List.mem_cons.1 hp with rfl | hp
        · exact ⟨k, Nat.le_refl _, by omega, hk', by simp⟩
        · exact h3' p hp
theorem left_nil {L : Array Bool} : ∀ (A : List (Kind × Oper)) (k : Nat), (∀ j, k ≤ j → j < k + A.length → L.getD j false = true) → left L k A = [] := by
  intro A
  induction A with
  | nil => intro k _; rfl
  | cons x A ih =>
    intro k h
    simp only [left, h k (Nat.le_refl _) (by simp), if_true]
    exact ih (k + 1) fun j h1 h2 => h j (by omega) (by simp; omega)

def unl (L : Array Bool) (n : Nat) : Nat := ((List.range n).filter fun i => !L.getD i false).length
theorem filter_length_lt {α : Type} {p q : α → Bool} : ∀ {l : List α}, (∀ x, x ∈ l → q x = true → p x = true) → (∃ x, x ∈ l ∧ p x = true ∧ q x = false) → (l.filter q).length < (l.filter p).length := by
  intro l
  induction l with
  | nil => rintro _ ⟨x, hx, _⟩; cases hx
  | cons y l ih =>
    rintro h ⟨x, hx, hp, hq⟩
    have hle : ∀ l : List α, (∀ x, x ∈ l → q x = true → p x = true) → (l.filter q).length ≤ (l.filter p).length := by
      intro l
      induction l with
      | nil => intro _; simp
      | cons z l ih2 =>
        intro hz
        have := ih2 fun x hx => hz x (List.mem_cons_of_mem _ hx)
        have hz0 := hz z List.mem_cons_self
        simp only [List.filter_cons]
        by_cases q1 : q z = true
        · simp only [q1, hz0 q1, if_true, List.length_cons]; omega
        · by_cases p1 : p z = true
          · simp only [q1, p1, if_true, List.length_cons]; simp; omega
          · simp only [q1, p1]; simpa using this
    rcases List.mem_cons.1 hx with rfl | hx
    · simp only [List.filter_cons, hp, hq, if_true, List.length_cons]
      have := hle l fun z hz => h z (List.mem_cons_of_mem _ hz)
      simp; omega
    · have := ih (fun z hz => h z (List.mem_cons_of_mem _ hz)) ⟨x, hx, hp, hq⟩
      have h0 := h y List.mem_cons_self
      simp only [List.filter_cons]
      by_cases q1 : q y = true
      · simp only [q1, h0 q1, if_true, List.length_cons]; omega
      · by_cases p1 : p y = true
        · simp only [q1, p1, if_true, List.length_cons]; simp; omega
        · simp only [q1, p1]; simpa using this

theorem draw_any (A : List (Kind × Oper)) (hops : ops.toList = A.map Prod.snd ++ B) (hchk : okDraw N ops A = true) (hsb : ∃ w, Sb w) :
    ∀ (fuel : Nat) (L : Array Bool) (a : Act) (w : World), L.size = ops.size → DC ops L → unl L ops.size ≤ fuel →
      ((∃ E S, D r P N Df ops B Q Sb (left L 0 A) E S ∧ (∀ w, S w → Sb w) ∧ (∀ j, A.length ≤ j → L.getD j false = false) ∧ Rep N E a ∧ a.defers = Df ∧ S w) ∨
        (∃ j, j ≤ B.length ∧ (∀ i, L.getD i false = decide (i < A.length + j)) ∧ WL r P ops Q (B.drop j) a w)) →
      wpAnyIn (G r) 0 P .any ops Q fuel L a w := by
  have hlen : ops.size = A.length + B.length := by
    have := congrArg List.length hops
    simpa using this
  have hA : ∀ (i : Nat) (x : Kind × Oper), A[i]? = some x → ops[i]? = some x.2 := fun i x hx => by
    have hi : i < A.length := (List.getElem?_eq_some_iff.1 hx).1
    rw [← Array.getElem?_toList, hops, List.getElem?_append_left (by simpa using hi), List.getElem?_map, hx]; rfl
  have hB : ∀ i o, B[i]? = some o → ops[A.length + i]? = some o := fun i o ho => by
    rw [← Array.getElem?_toList, hops, List.getElem?_append_right (by simp)]
    simpa using ho
  have chk : ∀ i o, ops[i]? = some o → dstOk N o.dst = true ∧ plainOp o = true ∧ (∀ e, e ∈ o.after → Region.binds .any e = true → e.on < i) ∧
      ∀ p, p < i → ancC ops 8 i p = true ∨ (i < A.length ∧ (∃ q : Oper, ops[p]? = some q ∧ q.apart ops o = true) ∧ ¬ (isCh A[p]? = true ∧ isCh A[i]? = true)) := by
    intro i o ho
    have hi : i < ops.size := (Array.getElem?_eq_some_iff.1 ho).1
    have h := List.all_eq_true.1 hchk i (List.mem_range.2 hi)
    simp only [ho, Bool.and_eq_true] at h
    obtain ⟨⟨⟨h1, h2⟩, h3⟩, h4⟩ := h
    refine ⟨h1, h2, fun e he hb => ?_, fun p hp => ?_⟩
    · have := Array.all_eq_true'.1 h3 e he
      simpa [hb] using this
    · have := List.all_eq_true.1 h4 p (List.mem_range.2 hp)
      simp only [Bool.or_eq_true, Bool.and_eq_true, decide_eq_true_eq, Bool.not_eq_true'] at this
      rcases this with ⟨⟨h5, h6⟩, h7⟩ | h
      rotate_left
      · exact .inl h
      · refine .inr ⟨h5, ?_, fun ⟨x, y⟩ => by simp [x, y] at h7⟩
        cases hq : ops[p]? with
        | none => simp [hq] at h6
        | some q => exact ⟨q, rfl, by simpa [hq] using h6⟩
  -- somebody is ready while something is not listed
  have someone : ∀ L : Array Bool, L.size = ops.size → ∀ i, i < ops.size → L.getD i false = false → Region.ready .any ops L ≠ [] := by
    intro L hL i
    induction i using Nat.strongRecOn with
    | _ i ih =>
      intro hi hl
      by_cases h : ∃ p, p < i ∧ L.getD p false = false
      · obtain ⟨p, hp, hpl⟩ := h
        exact ih p hp (by omega) hpl
      · have ho : ops[i]? = some ops[i] := Array.getElem?_eq_getElem hi
        have : i ∈ Region.ready .any ops L := (mem_ready hL).2 ⟨_, ho, hl, fun e he hb => by
          have hlt := (chk i _ ho).2.2.1 e he hb
          cases hx : L.getD e.on false with
          | true => rfl
          | false => exact absurd ⟨e.on, hlt, hx⟩ h⟩
        intro hn
        rw [hn] at this; cases this
  have alldone : ∀ L : Array Bool, L.size = ops.size → Region.ready .any ops L = [] → ∀ i, i < ops.size → L.getD i false = true := by
    intro L hL hr i hi
    cases hx : L.getD i false with
    | true => rfl
    | false => exact absurd hr (someone L hL i hi hx)
  have fin : ∀ (L : Array Bool) (a : Act) (w : World), L.size = ops.size → Region.ready .any ops L = [] →
      ((∃ E S, D r P N Df ops B Q Sb (left L 0 A) E S ∧ (∀ w, S w → Sb w) ∧ (∀ j, A.length ≤ j → L.getD j false = false) ∧ Rep N E a ∧ a.defers = Df ∧ S w) ∨
        (∃ j, j ≤ B.length ∧ (∀ i, L.getD i false = decide (i < A.length + j)) ∧ WL r P ops Q (B.drop j) a w)) → Q .normal a w := by
    intro L a w hL hr h
    have hall := alldone L hL hr
    rcases h with ⟨E, S, hD, _, hBl, ha, hd, hs⟩ | ⟨j, hj, hLj, hT⟩
    · have hb : B = [] := by
        cases hB0 : B with
        | nil => rfl
        | cons b bs =>
          have h1 := hall A.length (by rw [hlen, hB0]; simp)
          rw [hBl _ (Nat.le_refl _)] at h1; cases h1
      rw [left_nil A 0 (fun j _ h2 => hall j (by omega))] at hD
      have := hD a w ha hd hs
      rw [hb] at this; exact this
    · have hjl : j = B.length := by
        by_cases e : j = B.length
        · exact e
        · have h1 := hall (A.length + j) (by omega)
          rw [hLj] at h1; simp at h1
      rw [hjl, List.drop_length] at hT; exact hT
  intro fuel
  induction fuel with
  | zero =>
    intro L a w hL hdc hu h
    have hr : Region.ready .any ops L = [] := by
      cases hr : Region.ready .any ops L with
      | nil => rfl
      | cons i is =>
        obtain ⟨o, ho, hl, _⟩ := (mem_ready hL).1 (hr ▸ List.mem_cons_self : i ∈ Region.ready .any ops L)
        have hi : i < ops.size := (Array.getElem?_eq_some_iff.1 ho).1
        have : i ∈ (List.range ops.size).filter fun i => !L.getD i false := List.mem_filter.2 ⟨List.mem_range.2 hi, by simp only [hl]; rfl⟩
        have hp := List.length_pos_of_mem this
        unfold unl at hu; omega
    exact ⟨hr, fin L a w hL hr h⟩
  | succ fuel ih =>
    intro L a w hL hdc hu h
    refine ⟨fun hr => fin L a w hL hr h, fun i hi => ?_⟩
    obtain ⟨o, ho, hl, hre⟩ := (mem_ready hL).1 hi
    have hi' : i < ops.size := (Array.getElem?_eq_some_iff.1 ho).1
    obtain ⟨c1, c2, c3, c4⟩ := chk i o ho
    have hL2 : (L.setIfInBounds i true).size = ops.size := by simpa using hL
    have hget : ∀ j, (L.setIfInBounds i true).getD j false = if j = i then true else L.getD j false := fun j => by
      by_cases e : j = i
      · subst e; simp [Array.getD_eq_getD_getElem?, hL, hi']
      · simp [Array.getD_eq_getD_getElem?, Array.getElem?_setIfInBounds_ne (Ne.symm e), e]
    have hdc2 : DC ops (L.setIfInBounds i true) := by
      intro j oj hj hoj e he hb
      rw [hget] at hj ⊢
      by_cases e2 : e.on = i
      · rw [if_pos e2]
      · rw [if_neg e2]
        by_cases e1 : j = i
        · subst e1; rw [ho] at hoj; cases hoj; exact hre e he hb
        · rw [if_neg e1] at hj; exact hdc j oj hj hoj e he hb
    have hu2 : unl (L.setIfInBounds i true) ops.size ≤ fuel := by
      have : unl (L.setIfInBounds i true) ops.size < unl L ops.size := by
        refine filter_length_lt (fun x _ hx => ?_) ⟨i, List.mem_range.2 hi', by rw [hl]; rfl, by rw [hget]; simp⟩
        rw [hget] at hx
        by_cases e : x = i
        · simp [e] at hx
        · rwa [if_neg e] at hx
      omega
    have anc : ∀ p, ancC ops 8 i p = true → L.getD p false = true := fun p hp => hdc.ready_anc ho hre hp
    have stepB : ∀ j, j ≤ B.length → (∀ i, L.getD i false = decide (i < A.length + j)) → WL r P ops Q (B.drop j) a w → wpOpIn (G r) 0 P ops Q i (wpAnyIn (G r) 0 P .any ops Q fuel (L.setIfInBounds i true)) a w := by
      intro j hj hLj hT
      have hige : A.length + j ≤ i := by
        have := hl
        rw [hLj] at this
        simpa using this
      have hij : i = A.length + j := by
        by_cases e : i = A.length + j
        · exact e
        · have hlt : A.length + j < i := by omega
          rcases c4 _ hlt with hc | ⟨h5, _⟩
          · have := anc _ hc
            rw [hLj] at this; simp at this
          · omega
      have hjB : j < B.length := by omega
      have hob : B[j] = o := by
        have := hB j _ (List.getElem?_eq_getElem hjB)
        rw [← hij, ho] at this; injection this with this; exact this.symm
      rw [List.drop_eq_getElem_cons hjB, hob] at hT
      have next : ∀ a' w', WL r P ops Q (B.drop (j + 1)) a' w' → wpAnyIn (G r) 0 P .any ops Q fuel (L.setIfInBounds i true) a' w' := fun a' w' h' => by
        refine ih (L.setIfInBounds i true) a' w' hL2 hdc2 hu2 (.inr ⟨j + 1, by omega, fun x => ?_, h'⟩)
        rw [hget, hLj]
        by_cases e : x = i
        · rw [if_pos e]; symm; rw [decide_eq_true_eq]; omega
        · rw [if_neg e]
          by_cases e2 : x < A.length + j
          · simp only [e2, decide_true]; symm; rw [decide_eq_true_eq]; omega
          · simp only [e2, decide_false]; symm; rw [decide_eq_false_iff_not]; omega
      unfold wpOpIn
      simp only [ho]
      simp only [WL] at hT
      split
      · rename_i hwd
        rw [if_pos hwd] at hT
        exact Oper.wpIn_mono next hT
      · rename_i hwd
        rw [if_neg hwd] at hT
        exact ⟨fun _ _ => trivial, next _ _ hT⟩
    rcases h with ⟨E, S, hD, hSb, hBl, ha, hd, hs⟩ | ⟨j, hj, hLj, hT⟩
    · by_cases hiA : i < A.length
      · -- an operation of A
        obtain ⟨x, hx⟩ : ∃ x, A[i]? = some x := ⟨_, List.getElem?_eq_getElem hiA⟩
        have hxo : x.2 = o := by
          have := hA i x hx
          rw [ho] at this; injection this with this; exact this.symm
        obtain ⟨C1, C2, h1, h2, h3⟩ := left_split hl (by omega) A 0 x (Nat.zero_le _) (by simpa using hx)
        have hok : ∀ p, p ∈ C1 → swapOk N ops p x := fun p hp => by
          obtain ⟨j, _, hji, hjl, hjA⟩ := h3 p hp
          have hjA : A[j]? = some p := by simpa using hjA
          have hop := hA j p hjA
          obtain ⟨d1, d2, _, _⟩ := chk j p.2 hop
          rcases c4 j hji with hc | ⟨_, ⟨q, hq, hap⟩, hch⟩
          · rw [anc j hc] at hjl; cases hjl
          · rw [hop] at hq; injection hq with hq; subst hq
            refine ⟨by rw [hxo]; exact hap, fun ⟨k1, k2⟩ => hch ⟨?_, ?_⟩, d2, by rw [hxo]; exact c2, d1, by rw [hxo]; exact c1⟩
            · rw [hjA]; obtain ⟨kp, op⟩ := p; simp only at k1; subst k1; rfl
            · rw [hx]; obtain ⟨kx, ox⟩ := x; simp only at k2; subst k2; rfl
        rw [h1] at hD
        have hH := D.head hsb C1 E S hok ⟨a, ha⟩ hD
        have hBl2 : ∀ j, A.length ≤ j → (L.setIfInBounds i true).getD j false = false := fun j hj => by
          rw [hget, if_neg (by omega)]; exact hBl j hj
        unfold wpOpIn
        simp only [ho]
        obtain ⟨k, ox⟩ := x
        simp only at hxo
        subst hxo
        cases k with
        | st =>
          obtain ⟨v, g1, g2, g3⟩ := hH
          rw [if_pos (g1 a ha)]
          refine wpIn_of_CRes (K := fun u w' => u = v ∧ w' = w) c2 (by rw [g2 a w ha (hSb w hs)]; exact ⟨rfl, rfl⟩) ?_
          rintro u w' ⟨rfl, rfl⟩
          exact ih _ _ _ hL2 hdc2 hu2 (.inl ⟨_, _, by rw [h2]; exact g3, hSb, hBl2, ha.put c1 _, by rw [put_defers]; exact hd, hs⟩)
        | sk =>
          rw [if_neg (by rw [hH.1 a ha]; simp)]
          exact ⟨fun _ _ => trivial, ih _ _ _ hL2 hdc2 hu2 (.inl ⟨_, _, by rw [h2]; exact hH.2, hSb, hBl2, ha.put c1 _, by rw [put_defers]; exact hd, hs⟩)⟩
        | ch =>
          obtain ⟨X, hX, val, S', g1, g2, g3, g4⟩ := hH
          rw [if_pos (g1 a ha)]
          refine wpIn_of_CRes c2 (g3 a w ha hs) ?_
          rintro u w' ⟨y, rfl, hy⟩
          exact ih _ _ _ hL2 hdc2 hu2 (.inl ⟨_, _, by rw [h2]; exact g4 y, g2 y, hBl2, ha.put c1 _, by rw [put_defers]; exact hd, hy⟩)
      · -- the first of B: all of A is listed
        have hlow : ∀ p, p < i → L.getD p false = true := fun p hp => by
          rcases c4 p hp with hc | ⟨h5, _⟩
          · exact anc p hc
          · omega
        have hiA' : i = A.length := by
          by_cases e : i = A.length
          · exact e
          · have := hlow A.length (by omega)
            rw [hBl _ (Nat.le_refl _)] at this; cases this
        rw [left_nil A 0 (fun j _ h2 => hlow j (by omega))] at hD
        refine stepB 0 (Nat.zero_le _) (fun x => ?_) (hD a w ha hd hs)
        by_cases e : x < A.length
        · rw [hlow x (by omega)]; symm; rw [decide_eq_true_eq]; omega
        · rw [hBl x (by omega)]; symm; rw [decide_eq_false_iff_not]; omega
    · exact stepB j hj hLj hT
end

section
variable {Q : Exit → Act → World → Prop} {E : Env} {S : World → Prop} {Sb : World → Prop}
theorem left_all (n : Nat) : ∀ (A : List (Kind × Oper)) (k : Nat), left (Array.replicate n false) k A = A := by
  intro A
  induction A with
  | nil => intro k; rfl
  | cons x A ih =>
    intro k
    have : (Array.replicate n false).getD k false = false := by
      simp only [Array.getD_eq_getD_getElem?, Array.getElem?_replicate]; split <;> rfl
    simp only [left, this, ih]; simp
/-- A REGION THAT DRAWS: walked once, in text order; A: what may come in several orders; B: what comes behind all else. -/
theorem TC.draw {id : Nat} {l : List Oper} (A : List (Kind × Oper)) (B : List Oper) (hm : P.follows .mixedOrders = true) (hops : l = A.map Prod.snd ++ B) (hchk : okDraw N l.toArray A = true)
    (Sb : World → Prop) (hSb : ∀ w, S w → Sb w) (hdr : ∀ w d, S w → S { w with drawn := d }) (h : D r P N Df l.toArray B Q Sb A E S) : TC r P N Df (.region id l.toArray true) E S Q := fun a w ha hd hs => by
  refine wpIn_region_any hm ?_
  have hf : ∀ i, (Array.replicate l.toArray.size false).getD i false = false := fun i => by
    simp only [Array.getD_eq_getD_getElem?, Array.getElem?_replicate]; split <;> rfl
  refine draw_any A (by simpa using hops) hchk ⟨w, hSb w hs⟩ _ _ a _ (by simp) (fun i o hi => by rw [hf] at hi; cases hi) ?_ (.inl ⟨E, S, by rw [left_all]; exact h, hSb, fun j _ => hf j, ha, hd, hdr _ _ hs⟩)
  unfold unl
  exact Nat.le_trans (List.length_filter_le _ _) (by simp)
end
end Go.XC
/- The operations, one lemma a kind. Nothing of a program. -/
set_option linter.unusedVariables false
namespace Go.XC
open Go Go.RowKit
variable {r : Option Nat} {P : Program} {N : Nat} {Df : List Deferred}

/-! ### Closed facts on types -/
class ScalarT (P : Program) (t : TypeId) : Prop where
  h : (match P.underlying t with | some (.struct _) | some (.array _ _) => false | some _ => true | none => false) = true
  s : (P.info? t).map (·.size) = some 1
class AggT (P : Program) (t : TypeId) (n : outParam Nat) : Prop where
  h : (match P.underlying t with | some (.struct _) | some (.array _ _) => true | _ => false) = true
  s : (P.info? t).map (·.size) = some n
def fieldOff (P : Program) (s i : Nat) : Option Nat :=
  match P.underlying s with
  | some (.struct fs) => match fs[i]? with
    | some f => match (P.info? f.type).map (·.size) with
      | some (_ + 1) => some f.offset
      | _ => none
    | none => none
  | _ => none
class FieldOff (P : Program) (s i : Nat) (off : outParam Nat) : Prop where
  h : fieldOff P s i = some off
class SliceT (P : Program) (t : TypeId) (e : outParam TypeId) (sz : outParam Nat) : Prop where
  h : P.underlying t = some (.slice e)
  s : (P.info? e).map (·.size) = some sz
class ArrayT (P : Program) (t : TypeId) (n : outParam Nat) (e : outParam TypeId) (sz : outParam Nat) : Prop where
  h : P.underlying t = some (.array n e)
  s : (P.info? e).map (·.size) = some sz
class ZeroV (P : Program) (t : TypeId) (z : outParam Value) : Prop where
  h : (P.info? t).bind (·.zero) = some z
class BytesT (P : Program) (t : TypeId) (b : outParam Nat) : Prop where
  h : (P.info? t).map (·.bytes) = some b
class EntersF (P : Program) (f : FuncId) : Prop where
  h : ∀ args w, (callFunc f args).run P w = .ok (.enter f args) w
theorem enters' {f : FuncId} {fn : Func} {c : Code} (hf : P.funcs[f]? = some fn) (hname : (fn.name == "runtime.NumGoroutine") = false) (hb : fn.body = some c) : ∀ args w, (callFunc f args).run P w = .ok (.enter f args) w := by
  intro args w
  have h1 : fn.name ≠ "runtime.NumGoroutine" := by simpa using hname
  simp [callFunc, hf, h1, hb, mark]
class IfaceT (P : Program) (t : TypeId) : Prop where
  h : (match P.underlying t with | some (.interface _) => true | _ => false) = true
class PlainT (P : Program) (t : TypeId) : Prop where
  h : (match P.underlying t with | some (.interface _) => false | some _ => true | _ => false) = true

theorem run_isAgg_scalar {t : TypeId} [h : ScalarT P t] (w : World) : (isAgg t).run P w = .ok false w := by
  have := h.h
  cases hu : P.underlying t with
  | none => simp [hu] at this
  | some d =>
    unfold isAgg
    rw [Sem.run_bind, run_underlying hu w]
    cases d <;> simp_all
theorem run_isAgg_agg {t : TypeId} {n : Nat} [h : AggT P t n] (w : World) : (isAgg t).run P w = .ok true w := by
  have := h.h
  cases hu : P.underlying t with
  | none => simp [hu] at this
  | some d =>
    unfold isAgg
    rw [Sem.run_bind, run_underlying hu w]
    cases d <;> simp_all
theorem run_sizeOf_of {t : TypeId} {n : Nat} (h : (P.info? t).map (·.size) = some n) (w : World) : (sizeOf t).run P w = .ok n w := by
  cases hq : P.info? t with
  | none => simp [hq] at h
  | some i =>
    have : i.size = n := by simpa [hq] using h
    simp [sizeOf, typeInfo, hq, this]
theorem run_zeroValue_of {t : TypeId} {z : Value} [h : ZeroV P t z] (w : World) : (zeroValue t).run P w = .ok z w := by
  have := h.h
  cases hq : P.info? t with
  | none => simp [hq] at this
  | some i =>
    have : i.zero = some z := by simpa [hq] using this
    simp [zeroValue, typeInfo, hq, this]

/-! ### What a world reads -/
def Reads (S : World → Prop) (g : Nat) (o : Obj) : Prop := ∀ w, S w → w.heap[g]? = some o
theorem Reads.mem {m : Mem} {L : Own} {g : Nat} {o : Obj} (h : m.blk g = some o) : Reads (St m L) g o := fun w hs => hs.blk g o h
theorem Reads.own {m : Mem} {L : Own} {g : Nat} {o : Obj} (h : some (g, o) ∈ L) : Reads (St m L) g o := fun w hs => hs.get h
/-- Own blocks Lb stand, whatever others come; what is told of m stands. -/
def StX (m : Mem) (Lb : Own) (w : World) : Prop := ∃ m' L', m.Le m' ∧ St m' (L' ++ Lb) w
theorem StX.of {m : Mem} {Lb L' : Own} {w : World} (h : St m (L' ++ Lb) w) : StX m Lb w := ⟨m, L', Mem.Le.refl m, h⟩
theorem StX.of0 {m : Mem} {Lb : Own} {w : World} (h : St m Lb w) : StX m Lb w := ⟨m, [], Mem.Le.refl m, h⟩
theorem StX.of1 {m : Mem} {x : Option (Nat × Obj)} {Lb : Own} {w : World} (h : St m (x :: Lb) w) : StX m Lb w := ⟨m, [x], Mem.Le.refl m, h⟩
theorem StX.of2 {m : Mem} {x y : Option (Nat × Obj)} {Lb : Own} {w : World} (h : St m (x :: y :: Lb) w) : StX m Lb w := ⟨m, [x, y], Mem.Le.refl m, h⟩
theorem StX.of3 {m : Mem} {x y z : Option (Nat × Obj)} {Lb : Own} {w : World} (h : St m (x :: y :: z :: Lb) w) : StX m Lb w := ⟨m, [x, y, z], Mem.Le.refl m, h⟩
theorem StX.of_le {m m' : Mem} {Lb L' : Own} {w : World} (hm : m.Le m') (h : St m' (L' ++ Lb) w) : StX m Lb w := ⟨m', L', hm, h⟩
theorem StX.le {m m' : Mem} {Lb : Own} {w : World} (hm : m.Le m') (h : StX m' Lb w) : StX m Lb w := let ⟨m2, L', h1, h2⟩ := h; ⟨m2, L', hm.trans h1, h2⟩
theorem Reads.memX {m : Mem} {L : Own} {g : Nat} {o : Obj} (h : m.blk g = some o) : Reads (StX m L) g o := fun w ⟨m', L', hm, hs⟩ => hs.blk g o (hm.blk g o h)
theorem Reads.ownX {m : Mem} {L : Own} {g : Nat} {o : Obj} (h : some (g, o) ∈ L) : Reads (StX m L) g o := fun w ⟨m', L', hm, hs⟩ => hs.get (List.mem_append_right _ h)

theorem cell_of {w : World} {g o : Nat} {cs : Array Value} {T : TypeId} {fr : Nat × Nat} (h : w.heap[g]? = some (.cells cs T fr)) : w.cell? ⟨g, o, none⟩ = cs[o]? := cell_of_row w g o cs T fr h

def evArgs (E : Env) : List Operand → Option (List Value)
  | [] => some []
  | x :: r => match evE E x, evArgs E r with
    | some v, some vs => some (v :: vs)
    | _, _ => none
theorem Rep.evals {E : Env} {a : Act} (h : Rep N E a) : ∀ {xs : List Operand} {vs : List Value}, evArgs E xs = some vs → xs.map a.eval = vs
  | [], vs, hx => by simp [evArgs] at hx; simp [hx]
  | x :: r, vs, hx => by
    simp only [evArgs] at hx
    cases h1 : evE E x with
    | none => simp [h1] at hx
    | some v =>
      cases h2 : evArgs E r with
      | none => simp [h1, h2] at hx
      | some us =>
        simp [h1, h2] at hx
        rw [List.map_cons, h.eval h1, h.evals h2, hx]

section
variable {E : Env} {Sb : World → Prop} {d : Option Tmp} {ty t : TypeId} {pos : String} {aft : Array Edge} {gd : Option (Nat × Bool)} {x y z : Operand} {v u : Value} {g o n : Nat}

/-! ### Operations that leave the world -/
theorem EvS.move (hx : evE E x = some v) : EvS P N ⟨d, .move x, ty, pos, aft, gd⟩ E Sb v := fun a w ha _ => by simp [execOp, ha.eval hx]
theorem EvS.assign (hx : evE E x = some v) : EvS P N ⟨d, .assign x, ty, pos, aft, gd⟩ E Sb v := fun a w ha _ => by simp [execOp, ha.eval hx]
theorem EvS.pick {b : Bool} (hx : evE E x = some (.bool b)) (hy : b = true → evE E y = some v) (hz : b = false → evE E z = some v) : EvS P N ⟨d, .pick x y z, ty, pos, aft, gd⟩ E Sb v := fun a w ha _ => by
  cases b with
  | true => simp [execOp, ha.eval hx, asBool, ha.eval (hy rfl)]
  | false => simp [execOp, ha.eval hx, asBool, ha.eval (hz rfl)]
theorem EvS.pick_t (hx : evE E x = some (.bool true)) (hy : evE E y = some v) : EvS P N ⟨d, .pick x y z, ty, pos, aft, gd⟩ E Sb v := EvS.pick hx (fun _ => hy) (fun h => by cases h)
theorem EvS.pick_f (hx : evE E x = some (.bool false)) (hz : evE E z = some v) : EvS P N ⟨d, .pick x y z, ty, pos, aft, gd⟩ E Sb v := EvS.pick hx (fun h => by cases h) (fun _ => hz)
theorem EvS.makeFunc {fn : Fn} {fs cs : Array Operand} {vs us : List Value} (h1 : evArgs E fs.toList = some vs) (h2 : evArgs E cs.toList = some us) :
    EvS P N ⟨d, .makeFunc fn fs cs, ty, pos, aft, gd⟩ E Sb (.func fn vs.toArray us.toArray) := fun a w ha _ => by
  have e1 : fs.map a.eval = vs.toArray := Array.ext' (by rw [← ha.evals h1, Array.toList_map])
  have e2 : cs.map a.eval = us.toArray := Array.ext' (by rw [← ha.evals h2, Array.toList_map])
  simp [execOp, Instr.makeFunc, e1, e2]
theorem EvS.nilCheck {A : Addr} (hx : evE E x = some (.pointer (some A))) : EvS P N ⟨d, .nilCheck x, ty, pos, aft, gd⟩ E Sb (.pointer (some A)) := fun a w ha _ => by
  simp [execOp, ha.eval hx]
theorem EvS.unOp_ {op : UnOp} (hx : evE E x = some v) (hr : ∀ w, (Op.unary op v).run P w = .ok u w) : EvS P N ⟨d, .unOp op t x, ty, pos, aft, gd⟩ E Sb u := fun a w ha _ => by
  simp [execOp, ha.eval hx, hr w]
theorem EvS.not {b : Bool} (hx : evE E x = some (.bool b)) : EvS P N ⟨d, .unOp .not t x, ty, pos, aft, gd⟩ E Sb (.bool !b) := EvS.unOp_ hx fun w => rfl
def noGd : Value → Value → Bool
  | .nilIface, .nilIface => false
  | .agg _, .agg _ => false
  | _, _ => true
theorem run_eqGuard {op : BinOp} {x y : Operand} {a b : Value} (h : noGd a b = true) (w : World) :
    (eqGuard op t x y a b).run P w = .ok () w := by
  unfold eqGuard
  cases a <;> cases b <;> simp_all [noGd] <;> cases op <;> simp
theorem EvS.binOp {op : BinOp} {yT : TypeId} {b c : Value} (hx : evE E x = some b) (hy : evE E y = some c)
    (hg : noGd b c = true) (hr : ∀ w, (Go.binOp op t b c).run P w = .ok u w) :
    EvS P N ⟨d, .binOp op t x y yT, ty, pos, aft, gd⟩ E Sb u := fun a w ha _ => by
  simp only [execOp, ha.eval hx, ha.eval hy, Sem.run_bind, run_eqGuard hg w, Result.andThen_ok, hr w]
  rfl
section ints
variable {k : IntKind} {p q : Int} {yT : TypeId}
theorem EvS.eqI (hx : evE E x = some (.int k p)) (hy : evE E y = some (.int k q)) : EvS P N ⟨d, .binOp .eql t x y yT, ty, pos, aft, gd⟩ E Sb (.bool (p == q)) := EvS.binOp hx hy rfl fun w => by simp [Go.binOp, Op.intCmp]
theorem EvS.neI (hx : evE E x = some (.int k p)) (hy : evE E y = some (.int k q)) : EvS P N ⟨d, .binOp .neq t x y yT, ty, pos, aft, gd⟩ E Sb (.bool (p != q)) := EvS.binOp hx hy rfl fun w => by simp [Go.binOp, Op.intCmp]
theorem EvS.ltI (hx : evE E x = some (.int k p)) (hy : evE E y = some (.int k q)) : EvS P N ⟨d, .binOp .lss t x y yT, ty, pos, aft, gd⟩ E Sb (.bool (decide (p < q))) := EvS.binOp hx hy rfl fun w => by simp [Go.binOp, Op.intCmp]
theorem EvS.leI (hx : evE E x = some (.int k p)) (hy : evE E y = some (.int k q)) : EvS P N ⟨d, .binOp .leq t x y yT, ty, pos, aft, gd⟩ E Sb (.bool (decide (p ≤ q))) := EvS.binOp hx hy rfl fun w => by simp [Go.binOp, Op.intCmp]
theorem EvS.gtI (hx : evE E x = some (.int k p)) (hy : evE E y = some (.int k q)) : EvS P N ⟨d, .binOp .gtr t x y yT, ty, pos, aft, gd⟩ E Sb (.bool (decide (p > q))) := EvS.binOp hx hy rfl fun w => by simp [Go.binOp, Op.intCmp]
theorem EvS.geI (hx : evE E x = some (.int k p)) (hy : evE E y = some (.int k q)) : EvS P N ⟨d, .binOp .geq t x y yT, ty, pos, aft, gd⟩ E Sb (.bool (decide (p ≥ q))) := EvS.binOp hx hy rfl fun w => by simp [Go.binOp, Op.intCmp]
theorem wrap_i64_id {a : Int} (h : -9223372036854775808 ≤ a ∧ a ≤ 9223372036854775807) : IntKind.i64.wrap a = a := by rw [IntKind.wrap_i64]; omega
theorem EvS.addI (hx : evE E x = some (.int .i64 p)) (hy : evE E y = some (.int .i64 q)) (h : -9223372036854775808 ≤ p + q ∧ p + q ≤ 9223372036854775807) :
    EvS P N ⟨d, .binOp .add t x y yT, ty, pos, aft, gd⟩ E Sb (.int .i64 (p + q)) := EvS.binOp hx hy rfl fun w => by simp [Go.binOp, Op.intArith, wrap_i64_id h]
theorem EvS.subI (hx : evE E x = some (.int .i64 p)) (hy : evE E y = some (.int .i64 q)) (h : -9223372036854775808 ≤ p - q ∧ p - q ≤ 9223372036854775807) :
    EvS P N ⟨d, .binOp .sub t x y yT, ty, pos, aft, gd⟩ E Sb (.int .i64 (p - q)) := EvS.binOp hx hy rfl fun w => by simp [Go.binOp, Op.intArith, wrap_i64_id h]
theorem EvS.mulI (hx : evE E x = some (.int .i64 p)) (hy : evE E y = some (.int .i64 q)) (h : -9223372036854775808 ≤ p * q ∧ p * q ≤ 9223372036854775807) :
    EvS P N ⟨d, .binOp .mul t x y yT, ty, pos, aft, gd⟩ E Sb (.int .i64 (p * q)) := EvS.binOp hx hy rfl fun w => by simp [Go.binOp, Op.intArith, wrap_i64_id h]
theorem EvS.arith {op : BinOp} (hop : op = .add ∨ op = .sub ∨ op = .mul) (hx : evE E x = some (.int k p)) (hy : evE E y = some (.int k q)) (f : Int) (hf : f = (match op with | .add => k.wrap (p + q) | .sub => k.wrap (p - q) | _ => k.wrap (p * q))) :
    EvS P N ⟨d, .binOp op t x y yT, ty, pos, aft, gd⟩ E Sb (.int k f) := EvS.binOp hx hy rfl fun w => by
  subst hf
  rcases hop with rfl | rfl | rfl <;> simp [Go.binOp, Op.intArith]
end ints

theorem wrap_u64 (n : Int) : IntKind.u64.wrap n = n % 18446744073709551616 := by simp [IntKind.wrap, IntKind.signed, IntKind.bits]
/-! u64 as BitVec 64 -/
def U64 (v : Value) (b : BitVec 64) : Prop := v = .int .u64 (b.toNat : Int)
theorem U64.var (b : BitVec 64) : U64 (.int .u64 (b.toNat : Int)) b := rfl
theorem U64.lit {n : Nat} (h : Nat.blt n 18446744073709551616 = true) : U64 (.int .u64 (OfNat.ofNat n)) (BitVec.ofNat 64 n) := by
  unfold U64
  have hn : n < 18446744073709551616 := Nat.le_of_ble_eq_true h
  rw [BitVec.toNat_ofNat, Nat.mod_eq_of_lt hn]
  rfl
theorem wrap_u64_nat (b : BitVec 64) : IntKind.u64.wrap (b.toNat : Int) = (b.toNat : Int) := by
  have := b.isLt
  rw [wrap_u64]; omega
theorem ofInt_toNat (b : BitVec 64) : BitVec.ofInt 64 (b.toNat : Int) = b := by simp
section words
variable {p q : BitVec 64} {b c : Value} {yT : TypeId}
theorem EvS.bits64 {op : BinOp} {f : BitVec 64} (hop : op = .and ∨ op = .or ∨ op = .xor ∨ op = .andNot) (hx : evE E x = some b) (hy : evE E y = some c) (hb : U64 b p) (hc : U64 c q)
    (hf : f = match op with | .and => p &&& q | .or => p ||| q | .xor => p ^^^ q | _ => p &&& ~~~q) : EvS P N ⟨d, .binOp op t x y yT, ty, pos, aft, gd⟩ E Sb (.int .u64 (f.toNat : Int)) := by
  have hb' : b = _ := hb
  have hc' : c = _ := hc
  subst hb' hc' hf
  refine EvS.binOp hx hy rfl fun w => ?_
  rcases hop with rfl | rfl | rfl | rfl <;>
    (simp only [Go.binOp, Op.intBits, ne_eq, not_true_eq_false, if_false]
     show Result.ok (Value.int .u64 (IntKind.u64.wrap _)) w = _
     rw [show IntKind.u64.bits = 64 from rfl]
     simp only [ofInt_toNat, wrap_u64_nat])
theorem EvS.and64 (hx : evE E x = some b) (hy : evE E y = some c) (hb : U64 b p) (hc : U64 c q) : EvS P N ⟨d, .binOp .and t x y yT, ty, pos, aft, gd⟩ E Sb (.int .u64 ((p &&& q).toNat : Int)) := EvS.bits64 (by simp) hx hy hb hc rfl
theorem EvS.or64 (hx : evE E x = some b) (hy : evE E y = some c) (hb : U64 b p) (hc : U64 c q) : EvS P N ⟨d, .binOp .or t x y yT, ty, pos, aft, gd⟩ E Sb (.int .u64 ((p ||| q).toNat : Int)) := EvS.bits64 (by simp) hx hy hb hc rfl
theorem EvS.xor64 (hx : evE E x = some b) (hy : evE E y = some c) (hb : U64 b p) (hc : U64 c q) : EvS P N ⟨d, .binOp .xor t x y yT, ty, pos, aft, gd⟩ E Sb (.int .u64 ((p ^^^ q).toNat : Int)) := EvS.bits64 (by simp) hx hy hb hc rfl
theorem EvS.andNot64 (hx : evE E x = some b) (hy : evE E y = some c) (hb : U64 b p) (hc : U64 c q) : EvS P N ⟨d, .binOp .andNot t x y yT, ty, pos, aft, gd⟩ E Sb (.int .u64 ((p &&& ~~~q).toNat : Int)) := EvS.bits64 (by simp) hx hy hb hc rfl
theorem EvS.eq64 (hx : evE E x = some b) (hy : evE E y = some c) (hb : U64 b p) (hc : U64 c q) : EvS P N ⟨d, .binOp .eql t x y yT, ty, pos, aft, gd⟩ E Sb (.bool (p == q)) := by
  have hb' : b = _ := hb
  have hc' : c = _ := hc
  subst hb' hc'
  refine EvS.binOp hx hy rfl fun w => ?_
  have : ((p.toNat : Int) == (q.toNat : Int)) = (p == q) := by
    rw [Bool.eq_iff_iff]
    simp only [beq_iff_eq]
    constructor
    · intro h; exact BitVec.eq_of_toNat_eq (by omega)
    · rintro rfl; rfl
  simp [Go.binOp, Op.intCmp, this]
theorem EvS.ne64 (hx : evE E x = some b) (hy : evE E y = some c) (hb : U64 b p) (hc : U64 c q) : EvS P N ⟨d, .binOp .neq t x y yT, ty, pos, aft, gd⟩ E Sb (.bool (p != q)) := by
  have hb' : b = _ := hb
  have hc' : c = _ := hc
  subst hb' hc'
  refine EvS.binOp hx hy rfl fun w => ?_
  have : ((p.toNat : Int) != (q.toNat : Int)) = (p != q) := by
    rw [Bool.eq_iff_iff]
    simp only [bne_iff_ne]
    constructor
    · intro h e; subst e; exact h rfl
    · intro h e; exact h (BitVec.eq_of_toNat_eq (by omega))
  simp [Go.binOp, Op.intCmp, this]
theorem EvS.sub64 (hx : evE E x = some b) (hy : evE E y = some c) (hb : U64 b p) (hc : U64 c q) : EvS P N ⟨d, .binOp .sub t x y yT, ty, pos, aft, gd⟩ E Sb (.int .u64 ((p - q).toNat : Int)) := by
  have hb' : b = _ := hb
  have hc' : c = _ := hc
  subst hb' hc'
  refine EvS.binOp hx hy rfl fun w => ?_
  have h : IntKind.u64.wrap ((p.toNat : Int) - (q.toNat : Int)) = ((p - q).toNat : Int) := by
    rw [wrap_u64, BitVec.toNat_sub]
    have := p.isLt; have := q.isLt
    omega
  simp [Go.binOp, Op.intArith, h]
theorem EvS.add64 (hx : evE E x = some b) (hy : evE E y = some c) (hb : U64 b p) (hc : U64 c q) : EvS P N ⟨d, .binOp .add t x y yT, ty, pos, aft, gd⟩ E Sb (.int .u64 ((p + q).toNat : Int)) := by
  have hb' : b = _ := hb
  have hc' : c = _ := hc
  subst hb' hc'
  refine EvS.binOp hx hy rfl fun w => ?_
  have h : IntKind.u64.wrap ((p.toNat : Int) + (q.toNat : Int)) = ((p + q).toNat : Int) := by
    rw [wrap_u64, BitVec.toNat_add]
    have := p.isLt; have := q.isLt
    omega
  simp [Go.binOp, Op.intArith, h]
theorem EvS.shl64 {k : IntKind} {i : Int} (hx : evE E x = some b) (hy : evE E y = some (.int k i)) (hb : U64 b p) (hi : 0 ≤ i) : EvS P N ⟨d, .binOp .shl t x y yT, ty, pos, aft, gd⟩ E Sb (.int .u64 ((p <<< i.toNat).toNat : Int)) := by
  have hb' : b = _ := hb
  subst hb'
  refine EvS.binOp hx hy rfl fun w => ?_
  have hni : ¬ i < 0 := by omega
  have h : IntKind.u64.wrap ((p.toNat : Int) * 2 ^ (min i.toNat IntKind.u64.bits)) = ((p <<< i.toNat).toNat : Int) := by
    rw [wrap_u64, BitVec.toNat_shiftLeft, Nat.shiftLeft_eq]
    rw [show IntKind.u64.bits = 64 from rfl]
    by_cases h64 : i.toNat ≤ 64
    · rw [Nat.min_eq_left h64]; simp
    · rw [Nat.min_eq_right (by omega)]
      have e1 : (2 ^ i.toNat : Nat) = 2 ^ 64 * 2 ^ (i.toNat - 64) := by rw [← Nat.pow_add]; congr 1; omega
      rw [e1, ← Nat.mul_assoc, Nat.mul_comm (p.toNat) (2 ^ 64), Nat.mul_assoc, Nat.mul_mod_right]
      have : ((p.toNat : Int) * 2 ^ 64) = 18446744073709551616 * (p.toNat : Int) := by
        rw [Int.mul_comm]; rfl
      rw [this]; omega
  simp [Go.binOp, Op.shift, hni, h]
theorem EvS.shr64 {k : IntKind} {i : Int} (hx : evE E x = some b) (hy : evE E y = some (.int k i)) (hb : U64 b p) (hi : 0 ≤ i) : EvS P N ⟨d, .binOp .shr t x y yT, ty, pos, aft, gd⟩ E Sb (.int .u64 ((p >>> i.toNat).toNat : Int)) := by
  have hb' : b = _ := hb
  subst hb'
  refine EvS.binOp hx hy rfl fun w => ?_
  have hni : ¬ i < 0 := by omega
  have h : Int.fdiv (p.toNat : Int) (2 ^ (min i.toNat IntKind.u64.bits)) = ((p >>> i.toNat).toNat : Int) := by
    rw [BitVec.toNat_ushiftRight, Nat.shiftRight_eq_div_pow]
    rw [show IntKind.u64.bits = 64 from rfl]
    have hp : (0 : Int) ≤ 2 ^ (min i.toNat 64) := Int.pow_nonneg (by decide)
    rw [Int.fdiv_eq_ediv_of_nonneg _ hp]
    by_cases h64 : i.toNat ≤ 64
    · rw [Nat.min_eq_left h64]; simp
    · rw [Nat.min_eq_right (by omega)]
      have hlt := p.isLt
      have e1 : (2 : Nat) ^ 64 ≤ 2 ^ i.toNat := Nat.pow_le_pow_right (by decide) (by omega)
      rw [Nat.div_eq_of_lt (by omega)]
      have e2 : ((2 : Int) ^ 64) = 18446744073709551616 := rfl
      rw [e2]; omega
  simp [Go.binOp, Op.shift, hni, h]
end words
end
end Go.XC
/- The operations on memory, calls, append. Nothing of a program. -/
set_option linter.unusedVariables false
namespace Go.XC
open Go Go.RowKit
variable {r : Option Nat} {P : Program} {N : Nat} {Df : List Deferred}

def nthL : List Value → Nat → Option Value
  | [], _ => none
  | v :: _, 0 => some v
  | _ :: l, k + 1 => nthL l k
theorem nthL_eq (l : List Value) : ∀ k, nthL l k = l[k]? := by
  induction l with
  | nil => intro k; rfl
  | cons a l ih => intro k; cases k with | zero => rfl | succ k => simp [nthL, ih]
theorem nthL_arr {cs : Array Value} {o : Nat} {v : Value} (h : nthL cs.toList o = some v) : cs[o]? = some v := by
  rw [nthL_eq] at h; simpa using h

section
variable {E : Env} {Sb : World → Prop} {m : Mem} {L L' : Own} {d : Option Tmp} {ty t : TypeId} {pos : String} {aft : Array Edge} {gd : Option (Nat × Bool)} {x y z : Operand} {v u : Value} {g o n : Nat}
  {cs : Array Value} {T : TypeId} {fr : Nat × Nat}

/-! ### Addresses and loads -/
theorem EvS.fieldAddr {s i off : Nat} [h : FieldOff P s i off] (hx : evE E x = some (.pointer (some ⟨g, o, none⟩))) : EvS P N ⟨d, .fieldAddr s x i, ty, pos, aft, gd⟩ E Sb (.pointer (some ⟨g, o + off, none⟩)) := fun a w ha _ => by
  have hf := h.h
  unfold fieldOff at hf
  split at hf
  · rename_i fs hu
    split at hf
    · rename_i f hfi
      split at hf
      · rename_i k hs
        injection hf with hf
        subst hf
        simp only [execOp, ha.eval hx, Instr.fieldAt, Sem.run_bind, run_underlying hu, Result.andThen_ok, hfi, Instr.sureAddr, Sem.run_pure, fieldPlace, run_sizeOf_of hs]
        simp [Addr.add_lit]
      · cases hf
    · cases hf
  · cases hf
theorem run_indexAt_slice {t e : TypeId} {sz : Nat} [h : SliceT P t e sz] {A : Option Addr} {c : Nat} {k : IntKind} {i : Int} (hA : A = some ⟨g, o, none⟩) (hi : 0 ≤ i ∧ i < n) (w : World) :
    (Instr.indexAt t (.slice A n c) (.int k i)).run P w = .ok (.pointer (some ⟨g, o + i.toNat * sz, none⟩)) w := by
  subst hA
  simp only [Instr.indexAt, asIntOf, Sem.run_bind, Sem.run_pure, Result.andThen_ok, run_underlying h.h, if_pos hi, run_sizeOf_of h.s, Addr.add_lit]
theorem EvS.indexAddr {e : TypeId} {sz : Nat} [h : SliceT P t e sz] {A : Option Addr} {c : Nat} {k : IntKind} {i : Int} (hx : evE E x = some (.slice A n c)) (hy : evE E y = some (.int k i)) (hA : A = some ⟨g, o, none⟩)
    (hi : 0 ≤ i ∧ i < n) : EvS P N ⟨d, .indexAddr t x y, ty, pos, aft, gd⟩ E Sb (.pointer (some ⟨g, o + i.toNat * sz, none⟩)) := fun a w ha _ => by
  simp only [execOp, ha.eval hx, ha.eval hy, Sem.run_bind, run_indexAt_slice hA hi, Result.andThen_ok, Sem.run_pure]
theorem EvS.indexAddrA {e : TypeId} {len sz : Nat} [h : ArrayT P t len e sz] {k : IntKind} {i : Int} (hx : evE E x = some (.pointer (some ⟨g, o, none⟩))) (hy : evE E y = some (.int k i))
    (hi : 0 ≤ i ∧ i < len) : EvS P N ⟨d, .indexAddr t x y, ty, pos, aft, gd⟩ E Sb (.pointer (some ⟨g, o + i.toNat * sz, none⟩)) := fun a w ha _ => by
  simp only [execOp, ha.eval hx, ha.eval hy, Instr.indexAt, asIntOf, Sem.run_bind, Sem.run_pure, Result.andThen_ok, run_underlying h.h, Instr.sureAddr, if_pos hi, run_sizeOf_of h.s, Addr.add_lit]

theorem run_load_of {w : World} {a : Addr} (h : w.cell? a = some v) : (load a).run P w = .ok v w := by simp [load, Sem.run, h]
theorem run_loadVar1 [ScalarT P t] {w : World} (hg : w.heap[g]? = some (.cells cs T fr)) (hv : cs[o]? = some v) : (loadVar t ⟨g, o, none⟩).run P w = .ok v w := by
  have hc : w.cell? ⟨g, o, none⟩ = some v := (cell_of hg).trans hv
  unfold loadVar
  rw [Sem.run_bind, run_isAgg_scalar, Result.andThen_ok]
  simp [run_load_of hc]
theorem run_loadVarN {n : Nat} [h : AggT P t n] {vs : Array Value} {w : World} (hg : w.heap[g]? = some (.cells cs T fr)) (hn : vs.size = n) (hv : ∀ j u, vs[j]? = some u → cs[o + j]? = some u) :
    (loadVar t ⟨g, o, none⟩).run P w = .ok (.agg vs) w := by
  have hl := run_loadCells_list (P := P) w ⟨g, o, none⟩ vs.toList (fun j u hu => by
    rw [Addr.add_lit, cell_of hg]; exact hv j u (by simpa using hu))
  unfold loadVar
  rw [Sem.run_bind, run_isAgg_agg, Result.andThen_ok]
  have hn' : vs.toList.length = n := by simpa using hn
  rw [hn'] at hl
  simp [Sem.run_bind, run_sizeOf_of h.s, hl]
theorem EvS.load1 [ScalarT P t] (hx : evE E x = some (.pointer (some ⟨g, o, none⟩))) (hb : Reads Sb g (.cells cs T fr)) (hv : cs[o]? = some v) : EvS P N ⟨d, .load t x, ty, pos, aft, gd⟩ E Sb v := fun a w ha hs => by
  simp only [execOp, ha.eval hx, Instr.loadAt, Instr.sureAddr, Sem.run_bind, Sem.run_pure, Result.andThen_ok, run_loadVar1 (hb w hs) hv]
/-- Of cells that are written out. -/
theorem EvS.load1L [ScalarT P t] (hx : evE E x = some (.pointer (some ⟨g, o, none⟩))) (hb : Reads Sb g (.cells cs T fr)) (hv : nthL cs.toList o = some v) : EvS P N ⟨d, .load t x, ty, pos, aft, gd⟩ E Sb v :=
  EvS.load1 hx hb (nthL_arr hv)
theorem EvS.loadN {n : Nat} [AggT P t n] (vs : Array Value) (hx : evE E x = some (.pointer (some ⟨g, o, none⟩))) (hb : Reads Sb g (.cells cs T fr)) (hn : vs.size = n) (hv : ∀ j u, vs[j]? = some u → cs[o + j]? = some u) :
    EvS P N ⟨d, .load t x, ty, pos, aft, gd⟩ E Sb (.agg vs) := fun a w ha hs => by
  simp only [execOp, ha.eval hx, Instr.loadAt, Instr.sureAddr, Sem.run_bind, Sem.run_pure, Result.andThen_ok, run_loadVarN (hb w hs) hn hv]
/-- A whole block. -/
theorem EvS.loadW {n : Nat} [AggT P t n] (hx : evE E x = some (.pointer (some ⟨g, 0, none⟩))) (hb : Reads Sb g (.cells cs T fr)) (hn : cs.size = n) :
    EvS P N ⟨d, .load t x, ty, pos, aft, gd⟩ E Sb (.agg cs) := EvS.loadN cs hx hb hn fun j u h => by simpa using h
theorem EvS.len {e : TypeId} {sz : Nat} [h : SliceT P t e sz] {A : Option Addr} {c : Nat} (hx : evE E x = some (.slice A n c)) :
    EvS P N ⟨d, .call { callee := .builtin .len, args := #[x], argTypes := #[t] }, ty, pos, aft, gd⟩ E Sb (.int .i64 (n : Int)) := fun a w ha _ => by
  simp [execOp, resolve, invoke, builtin, ha.eval hx, Builtin.len_, run_underlying h.h, goInt]
theorem EvS.extract {vs : Array Value} {i : Nat} (hx : evE E x = some (.tuple vs)) (hv : vs[i]? = some v) : EvS P N ⟨d, .extract x i, ty, pos, aft, gd⟩ E Sb v := fun a w ha _ => by
  simp [execOp, ha.eval hx, Instr.extract, hv]
theorem EvS.makeInterface [h : PlainT P t] (hx : evE E x = some v) : EvS P N ⟨d, .makeInterface t x, ty, pos, aft, gd⟩ E Sb (.iface t v) := fun a w ha _ => by
  have := h.h
  cases hu : P.underlying t with
  | none => simp [hu] at this
  | some dd => cases dd <;> simp_all [execOp, ha.eval hx, Instr.makeInterface, run_underlying hu]
/-- A struct, or an array, out of parts: what it comes to is asked of the operation itself. -/
theorem EvS.build {parts : Array (Nat × Operand)} {us : Array (Nat × Value)} (hp : parts.map (fun x => (x.1, evE E x.2)) = us.map (fun x => (x.1, some x.2))) (hr : ∀ w, (Instr.build t us).run P w = .ok v w) :
    EvS P N ⟨d, .build t parts, ty, pos, aft, gd⟩ E Sb v := fun a w ha _ => by
  have e : parts.map (fun (i, x) => (i, a.eval x)) = us := by
    apply Array.ext'
    have h1 := congrArg Array.toList hp
    simp only [Array.toList_map] at h1 ⊢
    have : ∀ (l : List (Nat × Operand)) (k : List (Nat × Value)), l.map (fun x => (x.1, evE E x.2)) = k.map (fun x => (x.1, some x.2)) → l.map (fun (i, x) => (i, a.eval x)) = k := by
      intro l
      induction l with
      | nil => intro k hk; cases k <;> simp_all
      | cons p l ih =>
        intro k hk
        cases k with
        | nil => simp at hk
        | cons q k =>
          simp only [List.map_cons, List.cons.injEq, Prod.mk.injEq] at hk
          simp only [List.map_cons, ih k hk.2, ha.eval hk.1.2, hk.1.1]
    exact this _ _ h1
  simp only [execOp, e, Sem.run_bind, hr w, Result.andThen_ok, Sem.run_pure]

/-! ### Operations that turn the world -/
theorem EvC.alloc {zz : Value} [ZeroV P t zz] : EvC r P N ⟨d, .alloc t, ty, pos, aft, gd⟩ E (St m L) (fun u w => ∃ g : Nat, u = .pointer (some ⟨g, 0, none⟩) ∧ St m (some (g, .cells zz.cells t) :: L) w) := fun a w ha hs => by
  have h : (Instr.alloc t true (.tuple #[])).run P w = .ok (.pointer (some ⟨w.heap.size, 0, none⟩)) (w.alloc (.cells zz.cells t)) := by
    unfold Instr.alloc
    rw [Sem.run_bind, run_zeroValue_of, Result.andThen_ok]
    rfl
  simp only [execOp, Sem.run_bind, h, Result.andThen_ok, Sem.run_pure, CRes]
  exact ⟨_, rfl, hs.alloc _⟩
theorem EvC.box (hx : evE E x = some v) : EvC r P N ⟨d, .box t x, ty, pos, aft, gd⟩ E (St m L) (fun u w => ∃ g : Nat, u = .pointer (some ⟨g, 0, none⟩) ∧ St m (some (g, .cells v.cells t) :: L) w) := fun a w ha hs => by
  have h : (Instr.box t v).run P w = .ok (.pointer (some ⟨w.heap.size, 0, none⟩)) (w.alloc (.cells v.cells t)) := rfl
  simp only [execOp, ha.eval hx, Sem.run_bind, h, Result.andThen_ok, Sem.run_pure, CRes]
  exact ⟨_, rfl, hs.alloc _⟩

theorem cells_one (h : v.oneCell' = true) : v.cells = #[v] := by cases v <;> first | rfl | (simp [Value.oneCell'] at h)
theorem EvC.box1 (hx : evE E x = some v) (h1 : v.oneCell' = true) : EvC r P N ⟨d, .box t x, ty, pos, aft, gd⟩ E (St m L) (fun u w => ∃ g : Nat, u = .pointer (some ⟨g, 0, none⟩) ∧ St m (some (g, .cells #[v] t) :: L) w) := by
  have h := EvC.box (r := r) (P := P) (N := N) (d := d) (t := t) (ty := ty) (pos := pos) (aft := aft) (gd := gd) (m := m) (L := L) hx
  rwa [cells_one h1] at h
theorem EvC.boxA {vs : Array Value} (hx : evE E x = some (.agg vs)) : EvC r P N ⟨d, .box t x, ty, pos, aft, gd⟩ E (St m L) (fun u w => ∃ g : Nat, u = .pointer (some ⟨g, 0, none⟩) ∧ St m (some (g, .cells vs t) :: L) w) :=
  EvC.box hx

theorem St.setCell {w : World} (h : St m L w) (hu : Upd L g (.cells cs T (0, 0)) (.cells (cs.setIfInBounds o v) T (0, 0)) L') : St m L' (w.setCell ⟨g, o, none⟩ v) :=
  h.upd hu rfl rfl rfl (by simp) (heap_setCell_same w g o cs T v (h.get hu.mem)) (fun k _ hne => heap_setCell_other w ⟨g, o, none⟩ k v hne)
theorem St.setRow {w : World} {cs' : Array Value} (h : St m L w) (hu : Upd L g (.cells cs T (0, 0)) (.cells cs' T (0, 0)) L') : St m L' (w.setRow g cs') :=
  h.upd hu rfl rfl rfl (by simp) (setRow_heap w g cs cs' T (0, 0) (h.get hu.mem)) (fun k _ hne => setRow_other w g k cs' hne)

theorem run_storeVar1 [hT : ScalarT P t] {w : World} (h1 : v.oneCell' = true) (hg : w.heap[g]? = some (.cells cs T (0, 0))) (ho : o < cs.size) :
    (storeVar t ⟨g, o, none⟩ v).run P w = .ok () (w.setCell ⟨g, o, none⟩ v) := by
  have hc : w.cell? ⟨g, o, none⟩ = some cs[o] := (cell_of hg).trans (Array.getElem?_eq_getElem ho)
  have hf : w.frozen? ⟨g, o, none⟩ = false := by simp [World.frozen?, hg]
  unfold storeVar
  rw [Sem.run_bind, run_sizeOf_of hT.s, Result.andThen_ok]
  have hst : (store ⟨g, o, none⟩ v).run P w = .ok () (w.setCell ⟨g, o, none⟩ v) := by rw [run_store P w _ v _ h1, hc]; simp [hf]
  simp [cells_one h1, storeCells, Sem.run_bind, Addr.add_lit, hst]
theorem EvC.store1 [ScalarT P t] (hx : evE E x = some (.pointer (some ⟨g, o, none⟩))) (hy : evE E y = some v) (h1 : v.oneCell' = true)
    (hu : Upd L g (.cells cs T (0, 0)) (.cells (cs.setIfInBounds o v) T (0, 0)) L') (ho : o < cs.size) :
    EvC r P N ⟨d, .store t x y, ty, pos, aft, gd⟩ E (St m L) (fun u w => ∃ _ : Unit, u = undef ∧ St m L' w) := fun a w ha hs => by
  simp only [execOp, ha.eval hx, ha.eval hy, Instr.storeAt, Instr.sureAddr, Sem.run_bind, Sem.run_pure, Result.andThen_ok, run_storeVar1 h1 (hs.get hu.mem) ho]
  exact ⟨(), rfl, hs.setCell hu⟩
/-- Several cells into a block. -/
def spl (cs : Array Value) (o : Nat) (vs : Array Value) : Array Value := (cs.toList.take o ++ vs.toList ++ cs.toList.drop (o + vs.toList.length)).toArray
theorem spl_whole {cs vs : Array Value} (h : vs.size = cs.size) : spl cs 0 vs = vs := by
  unfold spl
  have : cs.toList.drop (0 + vs.toList.length) = [] := List.drop_eq_nil_of_le (by simp; omega)
  rw [this]; simp
theorem EvC.storeN {n : Nat} [hT : AggT P t n] {vs : Array Value} (hx : evE E x = some (.pointer (some ⟨g, o, none⟩))) (hy : evE E y = some (.agg vs)) (hn : vs.size = n) (h1 : ∀ v, v ∈ vs.toList → v.oneCell' = true)
    (hu : Upd L g (.cells cs T (0, 0)) (.cells (spl cs o vs) T (0, 0)) L') (ho : o + n ≤ cs.size) :
    EvC r P N ⟨d, .store t x y, ty, pos, aft, gd⟩ E (St m L) (fun u w => ∃ _ : Unit, u = undef ∧ St m L' w) := fun a w ha hs => by
  have h := run_storeCells_at (P := P) g o T vs.toList 0 cs w (hs.get hu.mem) (by simp; omega) h1
  have hv : (storeVar t ⟨g, o, none⟩ (.agg vs)).run P w = .ok () (w.setRow g (spl cs o vs)) := by
    unfold storeVar
    rw [Sem.run_bind, run_sizeOf_of hT.s, Result.andThen_ok]
    have : (Value.agg vs).cells.size = n := hn
    simp only [this, ne_eq, not_true_eq_false, if_false]
    exact h
  simp only [execOp, ha.eval hx, ha.eval hy, Instr.storeAt, Instr.sureAddr, Sem.run_bind, Sem.run_pure, Result.andThen_ok, hv]
  exact ⟨(), rfl, hs.setRow hu⟩
/-- A whole block anew. -/
theorem EvC.storeW {n : Nat} [hT : AggT P t n] {vs : Array Value} (hx : evE E x = some (.pointer (some ⟨g, 0, none⟩))) (hy : evE E y = some (.agg vs)) (hn : vs.size = n) (h1 : ∀ v, v ∈ vs.toList → v.oneCell' = true)
    (hu : Upd L g (.cells cs T (0, 0)) (.cells vs T (0, 0)) L') (ho : cs.size = n) :
    EvC r P N ⟨d, .store t x y, ty, pos, aft, gd⟩ E (St m L) (fun u w => ∃ _ : Unit, u = undef ∧ St m L' w) :=
  EvC.storeN hx hy hn h1 (by rw [spl_whole (cs := cs) (vs := vs) (by omega)]; exact hu) (by omega)

/-- A literal slice of one element. -/
theorem EvC.buildSlice1 {e : TypeId} {sz : Nat} {zz : Value} [hT : SliceT P t e sz] [hz : ZeroV P e zz] (hx : evE E x = some v) (hv : v.cells.size = sz) (hzz : zz.cells.size = sz) (hsz : 0 < sz) (hsm : sz ≤ 1000) :
    EvC r P N ⟨d, .buildSlice t 1 #[(0, x)], ty, pos, aft, gd⟩ E (St m L) (fun u w => ∃ g : Nat, u = .slice (some ⟨g, 0, none⟩) 1 1 ∧ St m (some (g, .cells v.cells e) :: L) w) := fun a w ha hs => by
  have hfill : Instr.fill (fun i => some (i * sz, sz)) ((Array.range (1 * sz)).map (zz.cells[· % zz.cells.size]!)) [(0, v)] = some v.cells := by
    simp only [Instr.fill, hv, ne_eq, not_true_eq_false, decide_false, Bool.false_or, Nat.zero_mul, Nat.zero_add, Array.size_map, Array.size_range, Nat.one_mul, Nat.lt_irrefl, gt_iff_lt, if_false, Bool.false_eq_true]
    congr 1
    have key : ∀ (l : List (Value × Nat)) (base : Array Value), (∀ p, p ∈ l → v.cells[p.2]? = some p.1) → (l.foldl (fun cs (x : Value × Nat) => cs.setIfInBounds x.2 x.1) base).size = base.size ∧
        ∀ i, (l.foldl (fun cs (x : Value × Nat) => cs.setIfInBounds x.2 x.1) base)[i]? = if (∃ p, p ∈ l ∧ p.2 = i) ∧ i < base.size then v.cells[i]? else base[i]? := by
      intro l
      induction l with
      | nil => intro base _; exact ⟨rfl, fun i => by simp⟩
      | cons p l ih =>
        intro base hp
        obtain ⟨h1, h2⟩ := ih (base.setIfInBounds p.2 p.1) fun q hq => hp q (List.mem_cons_of_mem _ hq)
        refine ⟨by simpa using h1, fun i => ?_⟩
        rw [List.foldl_cons, h2 i]
        by_cases hi : i < base.size
        · by_cases hpi : p.2 = i
          · subst hpi
            have := hp p List.mem_cons_self
            by_cases hex : ∃ q, q ∈ l ∧ q.2 = p.2
            · rw [if_pos ⟨hex, by simpa using hi⟩, if_pos ⟨⟨p, List.mem_cons_self, rfl⟩, hi⟩]
            · rw [if_neg (fun h => hex h.1), if_pos ⟨⟨p, List.mem_cons_self, rfl⟩, hi⟩, this]
              simp [hi]
          · have hiff : (∃ q, q ∈ p :: l ∧ q.2 = i) ↔ (∃ q, q ∈ l ∧ q.2 = i) := by
              constructor
              · rintro ⟨q, hq, e⟩
                rcases List.mem_cons.1 hq with rfl | hq
                · exact absurd e hpi
                · exact ⟨q, hq, e⟩
              · rintro ⟨q, hq, e⟩; exact ⟨q, List.mem_cons_of_mem _ hq, e⟩
            simp only [hiff, Array.size_setIfInBounds]
            split
            · rfl
            · exact Array.getElem?_setIfInBounds_ne hpi
        · rw [if_neg (fun h => hi (by simpa using h.2)), if_neg (fun h => hi h.2)]
          rw [Array.getElem?_eq_none_iff.2 (by simp; omega), Array.getElem?_eq_none_iff.2 (by omega)]
    obtain ⟨h1, h2⟩ := key v.cells.zipIdx.toList ((Array.range sz).map (zz.cells[· % zz.cells.size]!)) (fun p hp => by
      have := Array.mem_zipIdx (x := p.1) (i := p.2) (Array.mem_toList_iff.1 hp)
      obtain ⟨_, h2, h3⟩ := this
      simp only [Nat.zero_add, Nat.sub_zero] at h2 h3
      rw [Array.getElem?_eq_getElem h2, h3])
    rw [← Array.foldl_toList]
    apply Array.ext_getElem?
    intro i
    rw [h2 i]
    by_cases hi : i < sz
    · rw [if_pos]
      refine ⟨⟨(v.cells[i]'(by omega), i), ?_, rfl⟩, by simpa using hi⟩
      rw [Array.mem_toList_iff, Array.mem_zipIdx_iff_getElem?]
      simp only [Array.getElem?_eq_getElem (show i < v.cells.size by omega)]
    · rw [if_neg (fun h => hi (by simpa using h.2))]
      rw [Array.getElem?_eq_none_iff.2 (by simp; omega), Array.getElem?_eq_none_iff.2 (by omega)]
  have hrun : (Instr.buildSlice t 1 #[(0, v)]).run P w = .ok (.slice (some ⟨w.heap.size, 0, none⟩) 1 1) (w.alloc (.cells v.cells e)) := by
    unfold Instr.buildSlice
    have hne : ¬ sz = 0 := by omega
    have hle : ¬ 1 * sz > 2 ^ 24 := by omega
    simp only [Sem.run_bind, run_underlying hT.h, Result.andThen_ok, run_sizeOf_of hT.s, if_neg hle, Nat.one_mul, if_neg hne, run_zeroValue_of, Sem.run_pure]
    have hfill' := hfill
    rw [Nat.one_mul] at hfill'
    have hle' : ¬ sz > 2 ^ 24 := by omega
    simp only [if_neg hle', Sem.run_bind, run_zeroValue_of, Result.andThen_ok, Sem.run_pure, hfill']
    rfl
  simp only [execOp, Sem.run_bind]
  have hparts : (#[(0, x)] : Array (Nat × Operand)).map (fun (i, x) => (i, a.eval x)) = #[(0, v)] := by simp [ha.eval hx]
  rw [hparts]
  simp only [hrun, Result.andThen_ok, Sem.run_pure, CRes]
  exact ⟨_, rfl, hs.alloc _⟩

/-! ### Calls -/
theorem EvC.call {f : FuncId} {fo : Operand} {fs cap : Array Value} {args : Array Operand} {ats : Array TypeId} {vs : List Value} {X : Type} {val : X → Value} {S S' : X → World → Prop} {S0 : World → Prop} [hf : EntersF P f]
    (hfo : evE E fo = some (.func (.func f) fs cap)) (hargs : evArgs E args.toList = some vs)
    (hc : ∀ w, S0 w → Calls P f (fs ++ vs.toArray ++ cap) w (fun e w' => ∃ x, e = .returned (val x) ∧ S' x w')) :
    EvC r P N ⟨d, .call { callee := .value fo, args := args, argTypes := ats }, ty, pos, aft, gd⟩ E S0 (fun u w => ∃ x, u = val x ∧ S' x w) := fun a w ha hs => by
  have e1 : args.map a.eval = vs.toArray := Array.ext' (by rw [← ha.evals hargs, Array.toList_map])
  simp only [execOp, resolve, ha.eval hfo, e1, Deferred.ofValue, Sem.run_bind, Sem.run_pure, Result.andThen_ok, invoke, hf.h]
  simp only [CRes]
  refine (hc w hs).mono ?_
  rintro e w' ⟨x, rfl, hx⟩
  exact ⟨_, rfl, x, rfl, hx⟩

/-! ### A slice that the call owns -/
/-- v is a slice that owns the cells xs (n elements of sz cells), at the entry e. -/
def OwnRow (v : Value) (T : TypeId) (sz n : Nat) (xs : List Value) (e : Option (Nat × Obj)) : Prop :=
  (v = .slice none 0 0 ∧ n = 0 ∧ xs = [] ∧ e = none) ∨
  ∃ g cap junk, v = .slice (some ⟨g, 0, none⟩) n cap ∧ n ≤ cap ∧ cap ≤ maxLen ∧ xs.length = n * sz ∧ (xs ++ junk).length = cap * sz ∧ e = some (g, .cells (xs ++ junk).toArray T)
theorem OwnRow.nil {T : TypeId} {sz : Nat} : OwnRow (.slice none 0 0) T sz 0 [] none := .inl ⟨rfl, rfl, rfl, rfl⟩
theorem OwnRow.lit {T : TypeId} {sz n : Nat} {cs : Array Value} (h : cs.size = n * sz) (hn : n ≤ maxLen) : OwnRow (.slice (some ⟨g, 0, none⟩) n n) T sz n cs.toList (some (g, .cells cs T)) :=
  .inr ⟨g, n, [], rfl, Nat.le_refl _, hn, by simpa using h, by simpa using h, by simp⟩
/-- What an append reads. -/
def RdC (S : World → Prop) (A : Option Addr) (news : List Value) : Prop := news = [] ∨ ∃ g o cs T fr, A = some ⟨g, o, none⟩ ∧ Reads S g (.cells cs T fr) ∧ ∀ j u, news[j]? = some u → cs[o + j]? = some u
theorem RdC.whole {S : World → Prop} {cs : Array Value} (h : Reads S g (.cells cs T fr)) : RdC S (some ⟨g, 0, none⟩) cs.toList := .inr ⟨g, 0, cs, T, fr, rfl, h, fun j u hj => by simpa using hj⟩

theorem run_append_row {T : TypeId} {sz bytes : Nat} {zz : Value} [hT : SliceT P t T sz] [hz : ZeroV P T zz] [hb : BytesT P T bytes] (hzz : zz.cells.size = sz) (hsz : 0 < sz) {w : World} {e : Option (Nat × Obj)} {Lr : Own}
    (hs : St m L w) (hr : Rep1 L e none Lr) {n k c : Nat} {xs news : List Value} (hv : OwnRow v T sz n xs e) {A : Option Addr} (hA : RdC (St m L) A news) (hl : news.length = k * sz) (h1 : ∀ u, u ∈ news → u.oneCell' = true)
    (hbig : (n + k) * (bytes + 1) ≤ 140737488355328) :
    ∃ v' e' w', (Builtin.append_ #[t, t] ty #[v, .slice A k c]).run P w = .ok v' w' ∧ OwnRow v' T sz (n + k) (xs ++ news) e' ∧ ∀ L', Rep1 L e e' L' → St m L' w' := by
  obtain ⟨i, hi⟩ : ∃ i, P.info? T = some i := by
    have := hT.s
    cases hq : P.info? T with
    | none => simp [hq] at this
    | some i => exact ⟨i, rfl⟩
  have hi1 : i.size = sz := by have := hT.s; simpa [hi] using this
  have hi2 : i.bytes = bytes := by have := hb.h; simpa [hi] using this
  have hi3 : i.zero = some zz := by have := hz.h; simpa [hi] using this
  have hb1 : (n + k) * bytes ≤ 140737488355328 := Nat.le_trans (Nat.mul_le_mul_left _ (Nat.le_succ _)) hbig
  have hb2 : n + k ≤ 140737488355328 := by
    have : (n + k) * 1 ≤ (n + k) * (bytes + 1) := Nat.mul_le_mul_left _ (by omega)
    omega
  have hown : w.ownsRow 0 T sz v n xs := by
    rcases hv with ⟨rfl, rfl, rfl, rfl⟩ | ⟨g, cap, junk, rfl, h2, h3, h4, h5, rfl⟩
    · exact World.ownsRow_nil w 0 T sz
    · obtain ⟨R, p1, _⟩ := hr.perm
      have hg := (hs.perm p1).get List.mem_cons_self
      exact ⟨h4, .inr ⟨g, cap, _, rfl, Nat.zero_le _, hg, h2, h3, by simpa using h5, by simp [← h4]⟩⟩
  -- the run
  have hrun : ∃ v' w', (Builtin.append_ #[t, t] ty #[v, .slice A k c]).run P w = .ok v' w' ∧ w'.ownsRow 0 T sz v' (n + k) (xs ++ news) ∧ w.grownBy w' v.ownBlock ∧ (v'.ownBlock = v.ownBlock ∨ v'.ownBlock = some w.heap.size) := by
    rcases A with _ | ad
    · have hn : news = [] := by
        rcases hA with h | ⟨_, _, _, _, _, h, _⟩
        · exact h
        · cases h
      subst hn
      have hk : k = 0 := by
        rcases Nat.eq_zero_or_pos k with h | h
        · exact h
        · have := Nat.mul_pos h hsz
          simp at hl; omega
      subst hk
      refine ⟨v, w, ?_, by simpa using hown, World.grownBy.refl w _, .inl rfl⟩
      rcases hown.2 with ⟨rfl, rfl⟩ | ⟨g, cap, cur, rfl, _, _, hnc, _⟩
      · simp [Builtin.append_, run_underlying hT.h, sizeOf, typeInfo, hi, Builtin.lenOf, Builtin.firstCells]
      · simp [Builtin.append_, run_underlying hT.h, sizeOf, typeInfo, hi, Builtin.lenOf, Builtin.firstCells, hnc, storeCells]
    · have hcells : ∀ j u, news[j]? = some u → w.cell? (ad.add j) = some u := by
        intro j u hu
        rcases hA with h | ⟨g, o, cs, T', fr, h, hb, hc⟩
        · subst h; simp at hu
        · injection h with h
          subst h
          rw [Addr.add_lit, cell_of (hb w hs)]
          exact hc j u hu
      obtain ⟨v', w', hrun, h2, h3, _, h5⟩ := run_append_own_at (P := P) w 0 t ty T i zz sz bytes hT.h hi hi3 hi1 hi2 hzz hsz v n xs hown ad k c news hl hcells h1 (by simp only [maxLen]; omega) hb1 (Nat.zero_le _)
      exact ⟨v', w', hrun, h2, h3, h5⟩
  obtain ⟨v', w', h1', h2', h3', h4'⟩ := hrun
  obtain ⟨R, p1, _⟩ := hr.perm
  have hsp := hs.perm p1
  have hother : ∀ g o, some (g, o) ∈ R → w'.heap[g]? = some o := by
    intro g o hgo
    have hg := hsp.get (List.mem_cons_of_mem _ hgo)
    refine (h3'.block g (heap_lt hg) ?_).trans hg
    intro hx
    rcases hv with ⟨rfl, _, _, rfl⟩ | ⟨g', cap, junk, rfl, _, _, _, _, rfl⟩
    · simp [Value.ownBlock] at hx
    · simp [Value.ownBlock] at hx
      subst hx
      exact (List.nodup_cons.1 (show (g :: keys R).Nodup from hsp.nodup)).1 (mem_keys.2 ⟨_, hgo⟩)
  have hmem : ∀ g o, m.blk g = some o → w'.heap[g]? = some o := by
    intro g o hgo
    have hg := hs.blk g o hgo
    refine (h3'.block g (heap_lt hg) ?_).trans hg
    intro hx
    rcases hv with ⟨rfl, _, _, rfl⟩ | ⟨g', cap, junk, rfl, _, _, _, _, rfl⟩
    · simp [Value.ownBlock] at hx
    · simp [Value.ownBlock] at hx
      subst hx
      have := (hsp.own _ _ List.mem_cons_self).2
      rw [hgo] at this; cases this
  have base : St m (none :: R) w' := by
    have hR : St m R w := hsp.sublist (List.sublist_cons_self _ _)
    exact ⟨h3'.os.trans hs.os, h3'.tape.trans hs.tape, h3'.output.trans hs.output, Nat.le_trans hs.size h3'.size, hmem, fun g o hgo => by
      have hgo' : some (g, o) ∈ R := by simpa using hgo
      exact ⟨hother g o hgo', (hR.own g o hgo').2⟩, hR.nodup⟩
  have perm' : ∀ e' L', Rep1 L e e' L' → L'.Perm (e' :: R) := by
    intro e' L' hre
    obtain ⟨R', q1, q2⟩ := hre.perm
    have : R'.Perm R := by
      have := q1.symm.trans p1
      exact List.Perm.cons_inv this
    exact q2.trans (this.cons _)
  rcases h2'.2 with ⟨hv', hnk⟩ | ⟨g, cap, cur, hv', _, hgc, hnc, hcm, hcs, htake⟩
  · refine ⟨v', none, w', h1', .inl ⟨hv', hnk, ?_, rfl⟩, fun L' hre => base.perm (perm' _ _ hre).symm⟩
    exact List.eq_nil_of_length_eq_zero (by have := h2'.1; rw [hnk] at this; simpa using this)
  · refine ⟨v', some (g, .cells cur T), w', h1', .inr ⟨g, cap, cur.toList.drop ((n + k) * sz), hv', hnc, hcm, h2'.1, ?_, ?_⟩, fun L' hre => ?_⟩
    · rw [← htake, List.take_append_drop]; simpa using hcs
    · rw [← htake, List.take_append_drop]
    · refine St.perm ?_ (perm' _ _ hre).symm
      have hb' := base
      have hg1 : m.blk g = none ∧ g ∉ keys R := by
        rcases h4' with h | h
        · rw [hv'] at h
          rcases hv with ⟨rfl, _, _, rfl⟩ | ⟨g', cap', junk, rfl, _, _, _, _, rfl⟩
          · simp [Value.ownBlock] at h
          · simp [Value.ownBlock] at h
            subst h
            exact ⟨(hsp.own _ _ List.mem_cons_self).2, (List.nodup_cons.1 (show (g :: keys R).Nodup from hsp.nodup)).1⟩
        · rw [hv'] at h
          simp [Value.ownBlock] at h
          have hR : St m R w := hsp.sublist (List.sublist_cons_self _ _)
          exact hR.fresh (by omega)
      exact ⟨hb'.os, hb'.tape, hb'.output, hb'.size, hb'.blk, fun k' o' hx => by
        rcases List.mem_cons.1 hx with hx | hx
        · simp at hx; obtain ⟨rfl, rfl⟩ := hx; exact ⟨hgc, hg1.1⟩
        · exact hb'.own k' o' (List.mem_cons_of_mem _ hx), List.nodup_cons.2 ⟨hg1.2, hb'.nodup⟩⟩

theorem EvC.append {T : TypeId} {sz bytes : Nat} {zz : Value} [hT : SliceT P t T sz] [hz : ZeroV P T zz] [hb : BytesT P T bytes] {e : Option (Nat × Obj)} {Lr : Own} {n k c : Nat} {xs news : List Value} {A : Option Addr}
    (hx : evE E x = some v) (hy : evE E y = some (.slice A k c)) (hv : OwnRow v T sz n xs e) (hr : Rep1 L e none Lr) (hA : RdC (St m L) A news) (hl : news.length = k * sz) (h1 : ∀ u, u ∈ news → u.oneCell' = true)
    (hzz : zz.cells.size = sz) (hsz : 0 < sz) (hbig : (n + k) * (bytes + 1) ≤ 140737488355328) (put : Option (Nat × Obj) → Own) (hput : ∀ e', Rep1 L e e' (put e')) :
    EvC r P N ⟨d, .call { callee := .builtin .append, args := #[x, y], argTypes := #[t, t] }, ty, pos, aft, gd⟩ E (St m L)
      (fun u w => ∃ p : { p : Value × Option (Nat × Obj) // OwnRow p.1 T sz (n + k) (xs ++ news) p.2 }, u = p.1.1 ∧ St m (put p.1.2) w) := fun a w ha hs => by
  obtain ⟨v', e', w', h1, h2, h3⟩ := run_append_row (P := P) (t := t) (T := T) (sz := sz) (bytes := bytes) (zz := zz) (ty := ty) (c := c) hzz hsz hs hr hv hA hl h1 hbig
  have hres : (execOp a.eval ⟨d, .call { callee := .builtin .append, args := #[x, y], argTypes := #[t, t] }, ty, pos, aft, gd⟩).run P w = .ok (.value v') w' := by
    simp only [execOp, resolve, invoke, builtin, Sem.run_bind, Sem.run_pure, Result.andThen_ok, List.map_toArray, List.map_cons, List.map_nil, ha.eval hx, ha.eval hy, h1]
  rw [hres]
  exact ⟨⟨(v', e'), h2⟩, rfl, h3 _ (hput _)⟩
end
end Go.XC
/- Entry and exit of a function; the words of a region that draws. Nothing of a program. -/
set_option linter.unusedVariables false
namespace Go.XC
open Go Go.RowKit
variable {r : Option Nat} {P : Program} {N : Nat} {Df : List Deferred}

/-! ### Entry -/
def argE : Nat → List Value → Env
  | _, [] => []
  | k, v :: r => (k, v) :: argE (k + 1) r
theorem lk_argE : ∀ (l : List Value) (k s : Nat) (v : Value), lk (argE k l) s = some v → k ≤ s ∧ l[s - k]? = some v := by
  intro l
  induction l with
  | nil => intro k s v h; cases h
  | cons u l ih =>
    intro k s v h
    simp only [argE, lk_cons] at h
    by_cases e : s = k
    · subst e; rw [if_pos rfl] at h; exact ⟨Nat.le_refl _, by simpa using h⟩
    · rw [if_neg e] at h
      obtain ⟨h1, h2⟩ := ih (k + 1) s v h
      refine ⟨by omega, ?_⟩
      have : s - k = (s - (k + 1)) + 1 := by omega
      rw [this]; simpa using h2
theorem calls_of_TC {f : FuncId} {fn : Func} {c : Code} {args : List Value} {w : World} {R : Ending → World → Prop} {S : World → Prop} (hf : P.funcs[f]? = some fn) (hb : fn.body = some c) (hN : fn.ntmps = N)
    (hle : args.length ≤ N) (hS : S w) (h : TC none P N [] c (argE 0 args) S (bodyPostM (G none) 0 P fn R)) : Calls P f args.toArray w R := by
  refine callsG.1 (callsIn_of_wp_marks (F := G none) (n := 0) hf hb trivial (h _ _ ⟨?_, fun s v hs => ?_⟩ rfl hS))
  · simp [hN]; omega
  · obtain ⟨_, h2⟩ := lk_argE args 0 s v hs
    simp only [Nat.sub_zero] at h2
    have hlt : s < args.length := (List.getElem?_eq_some_iff.1 h2).1
    rw [Array.getElem?_append_left (by simpa using hlt)]
    simpa using h2

/-! ### Exit -/
/-- What a result variable holds. -/
def ResV (P : Program) (E : Env) (S : World → Prop) (x : ResultVar) (v : Value) : Prop :=
  match x with
  | .tmp t => lk E t = some v
  | .cell t ty => ∃ g o, lk E t = some (.pointer (some ⟨g, o, none⟩)) ∧ ∀ w, S w → (loadVar ty ⟨g, o, none⟩).run P w = .ok v w
theorem ResV.tmp {E : Env} {S : World → Prop} {t : Tmp} {v : Value} (h : lk E t = some v) : ResV P E S (.tmp t) v := h
theorem ResV.cell1 {E : Env} {S : World → Prop} {t : Tmp} {ty : TypeId} {v : Value} {g o : Nat} {cs : Array Value} {T : TypeId} {fr : Nat × Nat} [ScalarT P ty] (h : lk E t = some (.pointer (some ⟨g, o, none⟩)))
    (hb : Reads S g (.cells cs T fr)) (hv : cs[o]? = some v) : ResV P E S (.cell t ty) v := ⟨g, o, h, fun w hs => run_loadVar1 (hb w hs) hv⟩
theorem ResV.cellW {E : Env} {S : World → Prop} {t : Tmp} {ty : TypeId} {g n : Nat} {cs : Array Value} {T : TypeId} {fr : Nat × Nat} [AggT P ty n] (h : lk E t = some (.pointer (some ⟨g, 0, none⟩)))
    (hb : Reads S g (.cells cs T fr)) (hn : cs.size = n) : ResV P E S (.cell t ty) (.agg cs) := ⟨g, 0, h, fun w hs => run_loadVarN (hb w hs) hn fun j u e => by simpa using e⟩
theorem ResV.split {E : Env} {S : World → Prop} {x : ResultVar} {v : Value} {a : Act} {w : World} (h : ResV P E S x v) (ha : Rep N E a) (hs : S w) :
    (∃ t, x = .tmp t ∧ a.tmps[t]? = some v) ∨ (∃ t ty g o, x = .cell t ty ∧ a.tmps[t]? = some (.pointer (some ⟨g, o, none⟩)) ∧ (loadVar ty ⟨g, o, none⟩).run P w = .ok v w) := by
  cases x with
  | tmp t => exact .inl ⟨t, rfl, ha.at_ t v h⟩
  | cell t ty =>
    obtain ⟨g, o, h1, h2⟩ := h
    exact .inr ⟨t, ty, g, o, rfl, ha.at_ t _ h1, h2 w hs⟩
/-- The results of a function, in order. -/
def ResL (P : Program) (fn : Func) (E : Env) (S : World → Prop) (v : Value) : Prop := ∀ a w, Rep N E a → S w → (results fn a.tmps).run P w = .ok v w
theorem ResL.zero {fn : Func} {E : Env} {S : World → Prop} (h : fn.results = #[]) : ResL (N := N) P fn E S (.tuple #[]) := fun a w ha hs => by simp [results, h]
theorem ResL.one {fn : Func} {E : Env} {S : World → Prop} {x : ResultVar} {v : Value} (h : fn.results = #[x]) (hx : ResV P E S x v) : ResL (N := N) P fn E S v := fun a w ha hs => by
  have k0 := hx.split ha hs
  rcases k0 with ⟨t0, rfl, e0⟩ | ⟨t0, ty0, g0, o0, rfl, e0, f0⟩
  all_goals simp_all [results, asAddr]
theorem ResL.two {fn : Func} {E : Env} {S : World → Prop} {x y : ResultVar} {v u : Value} (h : fn.results = #[x, y]) (hx : ResV P E S x v) (hy : ResV P E S y u) : ResL (N := N) P fn E S (.tuple #[v, u]) := fun a w ha hs => by
  have k0 := hx.split ha hs
  have k1 := hy.split ha hs
  rcases k0 with ⟨t0, rfl, e0⟩ | ⟨t0, ty0, g0, o0, rfl, e0, f0⟩
  all_goals rcases k1 with ⟨t1, rfl, e1⟩ | ⟨t1, ty1, g1, o1, rfl, e1, f1⟩
  all_goals simp_all [results, asAddr]
theorem ResL.three {fn : Func} {E : Env} {S : World → Prop} {x y z : ResultVar} {v u t : Value} (h : fn.results = #[x, y, z]) (hx : ResV P E S x v) (hy : ResV P E S y u) (hz : ResV P E S z t) : ResL (N := N) P fn E S (.tuple #[v, u, t]) := fun a w ha hs => by
  have k0 := hx.split ha hs
  have k1 := hy.split ha hs
  have k2 := hz.split ha hs
  rcases k0 with ⟨t0, rfl, e0⟩ | ⟨t0, ty0, g0, o0, rfl, e0, f0⟩
  all_goals rcases k1 with ⟨t1, rfl, e1⟩ | ⟨t1, ty1, g1, o1, rfl, e1, f1⟩
  all_goals rcases k2 with ⟨t2, rfl, e2⟩ | ⟨t2, ty2, g2, o2, rfl, e2, f2⟩
  all_goals simp_all [results, asAddr]
theorem ResL.four {fn : Func} {E : Env} {S : World → Prop} {x y z q : ResultVar} {v u t s : Value} (h : fn.results = #[x, y, z, q]) (hx : ResV P E S x v) (hy : ResV P E S y u) (hz : ResV P E S z t) (hq : ResV P E S q s) : ResL (N := N) P fn E S (.tuple #[v, u, t, s]) := fun a w ha hs => by
  have k0 := hx.split ha hs
  have k1 := hy.split ha hs
  have k2 := hz.split ha hs
  have k3 := hq.split ha hs
  rcases k0 with ⟨t0, rfl, e0⟩ | ⟨t0, ty0, g0, o0, rfl, e0, f0⟩
  all_goals rcases k1 with ⟨t1, rfl, e1⟩ | ⟨t1, ty1, g1, o1, rfl, e1, f1⟩
  all_goals rcases k2 with ⟨t2, rfl, e2⟩ | ⟨t2, ty2, g2, o2, rfl, e2, f2⟩
  all_goals rcases k3 with ⟨t3, rfl, e3⟩ | ⟨t3, ty3, g3, o3, rfl, e3, f3⟩
  all_goals simp_all [results, asAddr]
theorem Post.body_ret {fn : Func} {R : Ending → World → Prop} {E : Env} {S : World → Prop} (v : Value) (hr : ResL (N := N) P fn E S v) (hR : ∀ w, S w → R (.returned v) w) :
    Post N [] (bodyPostM (G none) 0 P fn R) .ret E S := fun a w ha hd hs => by
  show LeavesInM (G none) 0 P fn a.tmps R a.defers .returning w
  rw [hd]
  exact ⟨v, hr a w ha hs, hR w hs⟩
theorem Post.body_end {fn : Func} {R : Ending → World → Prop} {E : Env} {S : World → Prop} (v : Value) (hr : ResL (N := N) P fn E S v) (hR : ∀ w, S w → R (.returned v) w) :
    Post N [] (bodyPostM (G none) 0 P fn R) .normal E S := fun a w ha hd hs => by
  show LeavesInM (G none) 0 P fn a.tmps R a.defers .returning w
  rw [hd]
  exact ⟨v, hr a w ha hs, hR w hs⟩

/-! ### Conditions that are known; the words of D -/
section
variable {Q : Exit → Act → World → Prop} {E : Env} {S S' : World → Prop} {x y : Code} {ops : Array Oper} {o : Oper} {rest : List Oper} {B : List Oper} {Sb : World → Prop} {A : List (Kind × Oper)}
theorem TC.cond_t {c : Operand} (hc : evE E c = some (.bool true)) (h : TC r P N Df x E S Q) : TC r P N Df (.cond c x y) E S Q := TC.cond true hc (fun _ => h) (fun e => by cases e)
theorem TC.cond_f {c : Operand} (hc : evE E c = some (.bool false)) (h : TC r P N Df y E S Q) : TC r P N Df (.cond c x y) E S Q := TC.cond false hc (fun e => by cases e) (fun _ => h)
theorem D.st_ {v : Value} (hw : Wd N ops o E true) (hv : EvS P N o E Sb v) (h : D r P N Df ops B Q Sb A (putE o.dst v E) S) : D r P N Df ops B Q Sb ((.st, o) :: A) E S := ⟨v, hw, hv, h⟩
theorem D.sk_ (hw : Wd N ops o E false) (h : D r P N Df ops B Q Sb A (putE o.dst undef E) S) : D r P N Df ops B Q Sb ((.sk, o) :: A) E S := ⟨hw, h⟩
theorem D.ch_ {X : Type} [hX : Nonempty X] {val : X → Value} {S' : X → World → Prop} (hw : Wd N ops o E true) (hv : EvC r P N o E S (fun u w => ∃ x, u = val x ∧ S' x w)) (hSb : ∀ x w, S' x w → Sb w)
    (h : ∀ x, D r P N Df ops B Q Sb A (putE o.dst (val x) E) (S' x)) : D r P N Df ops B Q Sb ((.ch, o) :: A) E S := ⟨X, hX, val, S', hw, hSb, hv, h⟩
theorem D.tail_ (h : TR r P N Df ops B E S Q) : D r P N Df ops B Q Sb [] E S := h
/-- The kinds in text order; what stands behind them comes last. -/
theorem TC.draw_ {id : Nat} {l : List Oper} {m : Mem} {L : Own} (ks : List Kind) (hm : P.follows .mixedOrders = true) (hops : l = (ks.zip l).map Prod.snd ++ l.drop ks.length) (hchk : okDraw N l.toArray (ks.zip l) = true)
    (h : D r P N Df l.toArray (l.drop ks.length) Q (StX m L) (ks.zip l) E (St m L)) : TC r P N Df (.region id l.toArray true) E (St m L) Q :=
  TC.draw (ks.zip l) (l.drop ks.length) hm hops hchk (StX m L) (fun w hs => StX.of0 hs) (fun w d hs => hs.drew d) h
/-- The same, where some own blocks may turn on the way: L is L1 and Lb. -/
theorem TC.draw' {id : Nat} {l : List Oper} {m : Mem} {Lb L1 : Own} (ks : List Kind) (hm : P.follows .mixedOrders = true) (hops : l = (ks.zip l).map Prod.snd ++ l.drop ks.length) (hchk : okDraw N l.toArray (ks.zip l) = true)
    (h : D r P N Df l.toArray (l.drop ks.length) Q (StX m Lb) (ks.zip l) E (St m (L1 ++ Lb))) : TC r P N Df (.region id l.toArray true) E (St m (L1 ++ Lb)) Q :=
  TC.draw (ks.zip l) (l.drop ks.length) hm hops hchk (StX m Lb) (fun w hs => StX.of hs) (fun w d hs => hs.drew d) h

/-! The same with the slot written out. -/
def dOk (N d : Nat) : Bool := Nat.blt d N
theorem dstOk_some {d : Tmp} (hd : o.dst = some d) (hN : dOk N d = true) : dstOk N o.dst = true := by
  rw [hd]; simp only [dstOk, decide_eq_true_eq]; exact Nat.le_of_ble_eq_true hN
theorem putE_some {d : Tmp} (hd : o.dst = some d) (v : Value) (E : Env) : putE o.dst v E = (d, v) :: E := by rw [hd]; rfl
theorem TR.st1 {d : Tmp} {v : Value} (hd : o.dst = some d) (hN : dOk N d = true) (hp : plainOp o = true) (hw : Wd N ops o E true) (hv : EvS P N o E S v) (h : TR r P N Df ops rest ((d, v) :: E) S Q) :
    TR r P N Df ops (o :: rest) E S Q := TR.stable hp (dstOk_some hd hN) hw hv (by rw [putE_some hd]; exact h)
theorem TR.sk1 {d : Tmp} (hd : o.dst = some d) (hN : dOk N d = true) (hw : Wd N ops o E false) (h : TR r P N Df ops rest ((d, undef) :: E) S Q) : TR r P N Df ops (o :: rest) E S Q :=
  TR.skip (dstOk_some hd hN) hw (by rw [putE_some hd]; exact h)
theorem TR.sk0 (hd : o.dst = none) (hw : Wd N ops o E false) (h : TR r P N Df ops rest E S Q) : TR r P N Df ops (o :: rest) E S Q :=
  TR.skip (by rw [hd]; rfl) hw (by rw [hd]; exact h)
theorem TR.ch1 {d : Tmp} {X : Type} {val : X → Value} {S' : X → World → Prop} (hd : o.dst = some d) (hN : dOk N d = true) (hp : plainOp o = true) (hw : Wd N ops o E true)
    (hv : EvC r P N o E S (fun u w => ∃ x, u = val x ∧ S' x w)) (h : ∀ x, TR r P N Df ops rest ((d, val x) :: E) (S' x) Q) : TR r P N Df ops (o :: rest) E S Q :=
  TR.chain hp (dstOk_some hd hN) hw hv (fun x => by rw [putE_some hd]; exact h x)
theorem TR.ch0 {X : Type} {val : X → Value} {S' : X → World → Prop} (hd : o.dst = none) (hp : plainOp o = true) (hw : Wd N ops o E true)
    (hv : EvC r P N o E S (fun u w => ∃ x, u = val x ∧ S' x w)) (h : ∀ x, TR r P N Df ops rest E (S' x) Q) : TR r P N Df ops (o :: rest) E S Q :=
  TR.chain hp (by rw [hd]; rfl) hw hv (fun x => by rw [hd]; exact h x)
theorem D.st1 {d : Tmp} {v : Value} (hd : o.dst = some d) (hw : Wd N ops o E true) (hv : EvS P N o E Sb v) (h : D r P N Df ops B Q Sb A ((d, v) :: E) S) : D r P N Df ops B Q Sb ((.st, o) :: A) E S :=
  D.st_ hw hv (by rw [putE_some hd]; exact h)
theorem D.sk1 {d : Tmp} (hd : o.dst = some d) (hw : Wd N ops o E false) (h : D r P N Df ops B Q Sb A ((d, undef) :: E) S) : D r P N Df ops B Q Sb ((.sk, o) :: A) E S :=
  D.sk_ hw (by rw [putE_some hd]; exact h)
theorem D.ch1 {d : Tmp} {X : Type} [hX : Nonempty X] {val : X → Value} {S' : X → World → Prop} (hd : o.dst = some d) (hw : Wd N ops o E true) (hv : EvC r P N o E S (fun u w => ∃ x, u = val x ∧ S' x w)) (hSb : ∀ x w, S' x w → Sb w)
    (h : ∀ x, D r P N Df ops B Q Sb A ((d, val x) :: E) (S' x)) : D r P N Df ops B Q Sb ((.ch, o) :: A) E S :=
  D.ch_ hw hv hSb (fun x => by rw [putE_some hd]; exact h x)
theorem D.chx {d : Tmp} {X : Type} {val : X → Value} {S' : X → World → Prop} (hd : o.dst = some d) (hw : Wd N ops o E true) (hv : EvC r P N o E S (fun u w => ∃ x, u = val x ∧ S' x w)) (hX : Nonempty X) (hSb : ∀ x w, S' x w → Sb w)
    (h : ∀ x, D r P N Df ops B Q Sb A ((d, val x) :: E) (S' x)) : D r P N Df ops B Q Sb ((.ch, o) :: A) E S := D.ch1 hd hw hv hSb h
theorem D.ch0 {X : Type} [hX : Nonempty X] {val : X → Value} {S' : X → World → Prop} (hd : o.dst = none) (hw : Wd N ops o E true) (hv : EvC r P N o E S (fun u w => ∃ x, u = val x ∧ S' x w)) (hSb : ∀ x w, S' x w → Sb w)
    (h : ∀ x, D r P N Df ops B Q Sb A E (S' x)) : D r P N Df ops B Q Sb ((.ch, o) :: A) E S :=
  D.ch_ hw hv hSb (fun x => by rw [hd]; exact h x)
theorem Wd.on {j : Nat} {t : Tmp} {want : Bool} (h : o.guard = some (j, want)) (ht : (ops[j]?).bind (·.dst) = some t) (hl : lk E t = some (.bool want)) : Wd N ops o E true := by
  have := Wd.guard (N := N) h ht hl
  rwa [beq_self_eq_true] at this
theorem Wd.off {j : Nat} {t : Tmp} {b want : Bool} (h : o.guard = some (j, want)) (ht : (ops[j]?).bind (·.dst) = some t) (hl : lk E t = some (.bool b)) (hne : (b == want) = false) : Wd N ops o E false := by
  have := Wd.guard (N := N) h ht hl
  rwa [hne] at this
/-- A bool that guards what follows: the ways part. -/
def guardUsed (ops : Array Oper) (rest : List Oper) (d : Tmp) : Bool := rest.any fun o => match o.guard with
  | some (j, _) => match ops[j]? with
    | some q => match q.dst with
      | some t => Nat.beq t d
      | none => false
    | none => false
  | none => false
theorem TR.gs {d : Tmp} {b : Bool} (hd : o.dst = some d) (hN : dOk N d = true) (hp : plainOp o = true) (hu : guardUsed ops rest d = true) (hw : Wd N ops o E true) (hv : EvS P N o E S (.bool b))
    (h1 : b = true → TR r P N Df ops rest ((d, .bool true) :: E) S Q) (h0 : b = false → TR r P N Df ops rest ((d, .bool false) :: E) S Q) : TR r P N Df ops (o :: rest) E S Q := by
  cases b with
  | true => exact TR.st1 hd hN hp hw hv (h1 rfl)
  | false => exact TR.st1 hd hN hp hw hv (h0 rfl)
theorem D.gs {d : Tmp} {b : Bool} (hd : o.dst = some d) (hw : Wd N ops o E true) (hv : EvS P N o E Sb (.bool b))
    (h1 : b = true → D r P N Df ops B Q Sb A ((d, .bool true) :: E) S) (h0 : b = false → D r P N Df ops B Q Sb A ((d, .bool false) :: E) S) : D r P N Df ops B Q Sb ((.st, o) :: A) E S := by
  cases b with
  | true => exact D.st1 hd hw hv (h1 rfl)
  | false => exact D.st1 hd hw hv (h0 rfl)
/-- The ways part on a bool before a region. -/
theorem TC.split {c : Code} (b : Bool) (h1 : b = true → TC r P N Df c E S Q) (h0 : b = false → TC r P N Df c E S Q) : TC r P N Df c E S Q := by
  cases b with
  | true => exact h1 rfl
  | false => exact h0 rfl
theorem TC.cond_bt {c : Operand} {b : Bool} (hc : evE E c = some (.bool b)) (hb : b = true) (h : TC r P N Df x E S Q) : TC r P N Df (.cond c x y) E S Q := by subst hb; exact TC.cond_t hc h
theorem TC.cond_bf {c : Operand} {b : Bool} (hc : evE E c = some (.bool b)) (hb : b = false) (h : TC r P N Df y E S Q) : TC r P N Df (.cond c x y) E S Q := by subst hb; exact TC.cond_f hc h
theorem TR.gs_t {d : Tmp} {b : Bool} (hd : o.dst = some d) (hN : dOk N d = true) (hp : plainOp o = true) (hu : guardUsed ops rest d = true) (hw : Wd N ops o E true) (hv : EvS P N o E S (.bool b)) (hb : b = true)
    (h1 : TR r P N Df ops rest ((d, .bool true) :: E) S Q) : TR r P N Df ops (o :: rest) E S Q := by subst hb; exact TR.st1 hd hN hp hw hv h1
theorem TR.gs_f {d : Tmp} {b : Bool} (hd : o.dst = some d) (hN : dOk N d = true) (hp : plainOp o = true) (hu : guardUsed ops rest d = true) (hw : Wd N ops o E true) (hv : EvS P N o E S (.bool b)) (hb : b = false)
    (h1 : TR r P N Df ops rest ((d, .bool false) :: E) S Q) : TR r P N Df ops (o :: rest) E S Q := by subst hb; exact TR.st1 hd hN hp hw hv h1
end

/-! A loop whose ghost keeps an invariant. -/
def LoopP {X : Type} (N : Nat) (Df : List Deferred) (I : X → Prop) (E : X → Env) (S : X → World → Prop) (μ : X → Nat) (x : X) : Act → World → Prop :=
  fun a w => ∃ x', I x' ∧ Rep N (E x') a ∧ a.defers = Df ∧ S x' w ∧ μ x' < μ x
theorem TC.loopP {X : Type} {Q : Exit → Act → World → Prop} {c : Code} (I : X → Prop) (E : X → Env) (S : X → World → Prop) (μ : X → Nat) (x0 : X) {E0 : Env} {S0 : World → Prop} (h0 : I x0)
    (hE : ∀ s v, lk (E x0) s = some v → lk E0 s = some v) (hS : ∀ w, S0 w → S x0 w)
    (round : ∀ x, I x → TC r P N Df c (E x) (S x) (Exit.then (LoopP N Df I E S μ x) Q)) : TC r P N Df (.loop c) E0 S0 Q := by
  refine TC.loop (X := { x : X // I x }) (fun x => E x.1) (fun x => S x.1) (fun x => μ x.1) ⟨x0, h0⟩ hE hS fun x a w ha hd hs => ?_
  refine wpIn_mono (round x.1 x.2 a w ha hd hs) ?_
  intro e a' w' q
  cases e with
  | normal => obtain ⟨x', h1, h2, h3, h4, h5⟩ := q; exact ⟨⟨x', h1⟩, h2, h3, h4, h5⟩
  | _ => exact q
theorem Post.nextP {X : Type} {Q : Exit → Act → World → Prop} {I : X → Prop} {E : X → Env} {S : X → World → Prop} {μ : X → Nat} {x : X} {E' : Env} {S' : World → Prop} (x' : X) (hI : I x')
    (hE : ∀ s v, lk (E x') s = some v → lk E' s = some v) (hS : ∀ w, S' w → S x' w) (hμ : μ x' < μ x) : Post N Df (Exit.then (LoopP N Df I E S μ x) Q) .normal E' S' :=
  fun a w ha hd hs => ⟨x', hI, ha.weaken hE, hd, hS w hs, hμ⟩
/-- Where the next ghost hangs on the world. -/
theorem Post.nextW {X : Type} {Q : Exit → Act → World → Prop} {I : X → Prop} {E : X → Env} {S : X → World → Prop} {μ : X → Nat} {x : X} {E' : Env} {S' : World → Prop}
    (h : ∀ w, S' w → ∃ x', I x' ∧ (∀ s v, lk (E x') s = some v → lk E' s = some v) ∧ S x' w ∧ μ x' < μ x) : Post N Df (Exit.then (LoopP N Df I E S μ x) Q) .normal E' S' :=
  fun a w ha hd hs => let ⟨x', hI, hE, hS, hμ⟩ := h w hs; ⟨x', hI, ha.weaken hE, hd, hS, hμ⟩
/-- What the world tells besides may be taken out. -/
theorem TC.pull {p : Prop} {c : Code} {E : Env} {S : World → Prop} {Q : Exit → Act → World → Prop} (hp : ∀ w, S w → p) (h : p → TC r P N Df c E S Q) : TC r P N Df c E S Q := fun a w ha hd hs => h (hp w hs) a w ha hd hs
theorem TR.pull {p : Prop} {ops : Array Oper} {rest : List Oper} {E : Env} {S : World → Prop} {Q : Exit → Act → World → Prop} (hp : ∀ w, S w → p) (h : p → TR r P N Df ops rest E S Q) : TR r P N Df ops rest E S Q := fun a w ha hd hs => h (hp w hs) a w ha hd hs
theorem Post.pull {p : Prop} {e : Exit} {E : Env} {S : World → Prop} {Q : Exit → Act → World → Prop} (hp : ∀ w, S w → p) (h : p → Post N Df Q e E S) : Post N Df Q e E S := fun a w ha hd hs => h (hp w hs) a w ha hd hs
end Go.XC
