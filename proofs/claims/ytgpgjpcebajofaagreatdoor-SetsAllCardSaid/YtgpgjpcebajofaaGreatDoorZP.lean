/- From a law's row to its call, and back: what an argument reads as, taken apart; the post of a law. Nothing of a program. -/
import Derived.Deep.Slices
import Derived.Lib.SmallJoins
import Derived.Lib.LaidTab
import Derived.LaidMore
import Derived.OpenVars
import Derived.ProofKit
import Derived.OpenShut
import Derived.SizedLaws
import Derived.Stop.Joined
import Derived.Test.YtgpgjpcebajofaaGreatDoorZB
import Derived.Test.YtgpgjpcebajofaaGreatDoorZC
import Derived.Test.YtgpgjpcebajofaaGreatDoorZO
import Derived.Test.YtgpgjpcebajofaaGreatDoorTie
import Derived.Test.YtgpgjpcebajofaaGreatDoorCards
import Derived.SevenTiedAt
set_option linter.unusedVariables false
set_option linter.unusedSimpArgs false
set_option linter.all false
set_option linter.unusedVariables false
namespace Go.XC
open Go Go.ChangeShapes Go.WideShapes Go.Deep Go.RowKit

/-- The memory of a world, all of it fixed. -/
def memOf (w : World) : Mem := ⟨fun g => w.heap[g]?, w.os, w.tape, w.output, w.heap.size⟩

/-- Each slice, string and map that it reads lies within the form's reach. -/
def Wb {H : Type} (P : Program) (t : TypeId) (d : DataW H) : Prop := ∀ n, n ∈ d.weights P t → n ≤ reachBytes
theorem Wb.of_each {H : Type} {P : Program} {ts : List TypeId} {ds : List (DataW H)} (h : (DataW.weightsEach P ts ds).all (· ≤ reachBytes) = true) {j : Nat} {t : TypeId} {d : DataW H} (ht : ts[j]? = some t) (hd : ds[j]? = some d) : Wb P t d := fun n hn => by
  simpa using List.all_eq_true.1 h n (DataW.weights_mem_each ht hd n hn)
theorem weightsAll_mem {H : Type} {P : Program} {e : TypeId} : ∀ {l : List (DataW H)} {d : DataW H}, d ∈ l → ∀ n ∈ d.weights P e, n ∈ DataW.weightsAll P e l
  | [], _, h, _, _ => by cases h
  | x :: l, d, h, n, hn => by
    simp only [DataW.weightsAll, List.mem_append]
    rcases List.mem_cons.1 h with rfl | h
    · exact .inl hn
    · exact .inr (weightsAll_mem h n hn)

theorem exists_list {α : Type} {p : Nat → α → Prop} : ∀ (n : Nat), (∀ i, i < n → ∃ x, p i x) → ∃ l : List α, l.length = n ∧ ∀ i x, l[i]? = some x → p i x := by
  intro n
  induction n with
  | zero => exact fun _ => ⟨[], rfl, fun i x h => by simp at h⟩
  | succ n ih =>
    intro h
    obtain ⟨l, hl, hp⟩ := ih fun i hi => h i (by omega)
    obtain ⟨x, hx⟩ := h n (by omega)
    refine ⟨l ++ [x], by simp [hl], fun i y hy => ?_⟩
    by_cases hi : i < n
    · rw [List.getElem?_append_left (by omega)] at hy; exact hp i y hy
    · have : i = n := by
        have := (List.getElem?_eq_some_iff.1 hy).1; simp at this; omega
      subst this
      rw [List.getElem?_append_right (by omega)] at hy
      simp [hl] at hy; subst hy; exact hx
theorem exists_map {α β : Type} {f : α → β} {l : List β} (h : ∀ y, y ∈ l → ∃ x, y = f x) : ∃ r : List α, l = r.map f := by
  induction l with
  | nil => exact ⟨[], rfl⟩
  | cons y l ih =>
    obtain ⟨x, rfl⟩ := h y List.mem_cons_self
    obtain ⟨r, rfl⟩ := ih fun z hz => h z (List.mem_cons_of_mem _ hz)
    exact ⟨x :: r, rfl⟩
theorem exists_rel {α β : Type} {R : α → β → Prop} {l : List β} (h : ∀ y, y ∈ l → ∃ x, R x y) : ∃ r : List α, l.length = r.length ∧ ∀ (i : Nat) (x : α) (y : β), r[i]? = some x → l[i]? = some y → R x y := by
  induction l with
  | nil => exact ⟨[], rfl, fun i x y h => by simp at h⟩
  | cons y l ih =>
    obtain ⟨x, hx⟩ := h y List.mem_cons_self
    obtain ⟨r, h1, h2⟩ := ih fun z hz => h z (List.mem_cons_of_mem _ hz)
    refine ⟨x :: r, by simp [h1], fun i a b ha hb => ?_⟩
    cases i with
    | zero => simp at ha hb; subst ha hb; exact hx
    | succ i => exact h2 i a b (by simpa using ha) (by simpa using hb)

section
variable {H : Type} {enc : TypeId × Value → H} {P : Program} {w : World} {held : Bool}
/-- A cell that reads so. -/
def Rd (enc : TypeId × Value → H) (P : Program) (w : World) (t : TypeId) (cs : List Value) : Prop := ∃ fu y, DataW.trod enc P w 0 (fun _ => true) true fu t cs = some y ∧ Wb P t y.1

theorem Rd.int {t : TypeId} {k : IntKind} {cs : List Value} (ht : P.underlying t = some (.int k)) (h : Rd enc P w t cs) : ∃ n, cs = [.int k n] ∧ (Lit.int k n).wf = true := by
  obtain ⟨fu, y, h1, _⟩ := h
  obtain ⟨n, h2, _, h3⟩ := DataW.trod_int ht h1
  exact ⟨n, h2, h3⟩
theorem Rd.bool {t : TypeId} {cs : List Value} (ht : P.underlying t = some .bool) (h : Rd enc P w t cs) : ∃ b, cs = [.bool b] := by
  obtain ⟨fu, y, h1, _⟩ := h
  obtain ⟨n, h2, _⟩ := DataW.trod_bool ht h1
  exact ⟨n, h2⟩
theorem Rd.string {t : TypeId} {cs : List Value} (ht : P.underlying t = some .string) (h : Rd enc P w t cs) : ∃ s : ByteArray, cs = [.string s] ∧ s.size ≤ reachBytes := by
  obtain ⟨fu, y, h1, hw⟩ := h
  obtain ⟨s, h2, h3, _⟩ := DataW.trod_string ht h1
  refine ⟨s, h2, ?_⟩
  rw [h3] at hw
  exact hw _ (by simp [DataW.weights])
/-- A slice: its cells, element for element. -/
theorem Rd.slice {t e : TypeId} {sz : Nat} {cs0 : List Value} (ht : P.underlying t = some (.slice e)) (hsz : P.cellsOf e = sz) (hpos : 0 < sz) (hby : 0 < P.bytesOf e) (h : Rd enc P w t cs0) :
    ∃ A n c css, cs0 = [.slice A n c] ∧ css.length = n ∧ n ≤ c ∧ c * P.bytesOf e ≤ reachBytes ∧ Sl (memOf w) sz A css ∧ ∀ cs, cs ∈ css → Rd enc P w e cs := by
  subst hsz
  obtain ⟨fu, x, hx0, hw⟩ := h
  rcases open_slice ht hx0 with ⟨rfl, rfl⟩ | ⟨a, len, cap, m, n, D, Pl, rfl, hb, hl, hm, hmm, rfl, hi⟩
  · exact ⟨none, 0, 0, [], rfl, rfl, Nat.le_refl _, by simp, Sl.nil, fun cs h => by cases h⟩
  · simp only [if_true] at hmm
    subst hmm
    have hcap : m * P.bytesOf e ≤ reachBytes := by
      have := hw (len * P.bytesOf e + (m - len) * P.bytesOf e) (by
        simp only [DataW.weights, ht, List.length_map, List.length_range]
        rw [← Nat.add_mul]
        exact List.mem_cons_self)
      rw [← Nat.add_mul] at this
      rwa [show len + (m - len) = m by omega] at this
    have hlen : len ≤ 140737488355328 := by
      have h1 : reachBytes < 140737488355328 := by decide
      have h2 : m * 1 ≤ m * P.bytesOf e := Nat.mul_le_mul (Nat.le_refl _) hby
      omega
    obtain ⟨css, hcl, hcp⟩ := exists_list (p := fun i cs' => w.cells? 0 (a.add (i * P.cellsOf e)) (P.cellsOf e) = some cs' ∧ DataW.trod enc P w 0 (fun _ => true) true n e cs' = some (D i, Pl i)) len (fun i h => hi i (by omega))
    refine ⟨some a, len, m, css, rfl, hcl, hl, hcap, ⟨?_, by omega, ?_⟩, ?_⟩
    · intro cs hcs
      obtain ⟨i, hi'⟩ := List.mem_iff_getElem?.1 hcs
      exact (World.cells?_some (hcp i cs hi').1).2.1
    · intro hne
      obtain ⟨c0, hc0⟩ : ∃ c, css[0]? = some c := by
        cases css with
        | nil => exact absurd rfl hne
        | cons c _ => exact ⟨c, rfl⟩
      have hz := World.cells?_some (hcp 0 c0 hc0).1
      have hz0 := hz.2.2 0 hpos
      obtain ⟨u, hu⟩ : ∃ u, c0[0]? = some u := ⟨c0[0]'(by omega), List.getElem?_eq_getElem _⟩
      rw [hu, Nat.zero_mul] at hz0
      have e0 : (a.add 0).add 0 = a := by simp [Addr.add]
      rw [e0] at hz0
      have hsp := World.cell?_spot hz0
      obtain ⟨g, o, sp⟩ := a
      simp only at hsp
      subst hsp
      have hblk : ∃ blk T fr, w.heap[g]? = some (.cells blk T fr) := by
        unfold World.cell? at hz0
        simp only at hz0
        split at hz0
        · rename_i c T fr hh; exact ⟨c, T, fr, hh⟩
        · cases hz0
      obtain ⟨blk, T, fr, hblk⟩ := hblk
      refine ⟨g, o, blk, T, fr, rfl, hblk, fun i cs hi' j v hj => ?_⟩
      have h1 := World.cells?_some (hcp i cs hi').1
      have h2 := h1.2.2 j (by rw [← h1.2.1]; exact (List.getElem?_eq_some_iff.1 hj).1)
      rw [hj, add_add] at h2
      unfold World.cell? Addr.add at h2
      by_cases h0 : i * P.cellsOf e + j = 0
      · rw [if_pos h0] at h2
        simp only [hblk] at h2
        rw [show o + i * P.cellsOf e + j = o by omega]; exact h2
      · rw [if_neg h0] at h2
        simp only [hblk] at h2
        rw [show o + i * P.cellsOf e + j = o + (i * P.cellsOf e + j) by omega]; exact h2
    · intro cs hcs
      obtain ⟨i, hi'⟩ := List.mem_iff_getElem?.1 hcs
      refine ⟨n, _, (hcp i cs hi').2, fun k hk => hw k ?_⟩
      have hil : i < len := by rw [← hcl]; exact (List.getElem?_eq_some_iff.1 hi').1
      simp only [DataW.weights, ht]
      exact List.mem_cons_of_mem _ (List.mem_append_left _ (weightsAll_mem (List.mem_map.2 ⟨i, List.mem_range.2 hil, rfl⟩) k hk))
/-- A struct: field for field. -/
theorem Rd.struct {t : TypeId} {fs : Array Field} {cs : List Value} (ht : P.underlying t = some (.struct fs)) (h : Rd enc P w t cs) :
    cs.length = P.cellsOf t ∧ ∀ (i : Nat) (f : Field), fs[i]? = some f → Rd enc P w f.type ((cs.drop f.offset).take (P.cellsOf f.type)) := by
  obtain ⟨fu, y, h1, hw⟩ := h
  obtain ⟨xs, n, _, rfl, hl, hxl, hf⟩ := DataW.trod_struct ht h1
  refine ⟨hl, fun i f hi => ?_⟩
  have h2 := hf i f hi
  have hlt : i < fs.size := (Array.getElem?_eq_some_iff.1 hi).1
  have h3 : xs[i]? = some (xs[i]'(by omega)) := List.getElem?_eq_getElem _
  rw [h3] at h2
  refine ⟨n, _, h2, fun k hk => hw k ?_⟩
  simp only [DataW.weights, ht]
  exact DataW.weights_mem_each (j := i) (t := f.type) (d := (xs[i]'(by omega)).1) (by simp [hi]) (by simp [h3]) k hk
theorem Rd.fld {fs : Array Field} {cs : List Value} (hf : ∀ (i : Nat) (f : Field), fs[i]? = some f → Rd enc P w f.type ((cs.drop f.offset).take (P.cellsOf f.type))) (i : Nat) {t off n : Nat}
    (hi : (fs[i]?).map (fun f => (f.type, f.offset)) = some (t, off)) (hc : P.cellsOf t = n) : Rd enc P w t ((cs.drop off).take n) := by
  cases hq : fs[i]? with
  | none => rw [hq] at hi; cases hi
  | some f =>
    rw [hq] at hi
    simp only [Option.map_some, Option.some.injEq, Prod.mk.injEq] at hi
    obtain ⟨rfl, rfl⟩ := hi
    rw [← hc]; exact hf i f hq
theorem Rd.of_trod {ts : List TypeId} {ds : List (DataW H)} (hsz : (DataW.weightsEach P ts ds).all (· ≤ reachBytes) = true) {j : Nat} {t : TypeId} {d : DataW H} {v : Value} {p : List MemPlace} (ht : ts[j]? = some t) (hd : ds[j]? = some d)
    (h : DataW.Trod enc P w 0 (fun _ => true) true t v d p) : Rd enc P w t v.cells.toList :=
  let ⟨fu, h1⟩ := h; ⟨fu, _, h1, Wb.of_each hsz ht hd⟩

/-- Arguments that nothing of what was there was turned for read as they did. -/
theorem trodAll_below {W W' : World} (hl : laidOutB P = true) (hb : Below W.heap.size W W') : ∀ {ts : List TypeId} {vs : List Value} {ds : List (DataW H)} {ps : List MemPlace}, (ts.all fun t => P.readableRec t && decide (t < P.types.size)) = true →
    (∀ x ∈ ps, x.block < W.heap.size) → DataW.TrodAll enc P W 0 (fun _ => true) true ts vs ds ps → DataW.TrodAll enc P W' 0 (fun b => decide (b < W.heap.size)) true ts vs ds ps
  | [], [], [], _, _, _, h => h
  | t :: ts, v :: vs, d :: ds, ps, hr, hlt, h => by
    obtain ⟨p, q, h1, h2, rfl⟩ := h
    simp only [List.all_cons, Bool.and_eq_true, decide_eq_true_eq] at hr
    exact ⟨p, q, Below.trod hl hr.1.1 hr.1.2 h1 hb (fun x hx => hlt x (List.mem_append_left _ hx)), trodAll_below hl hb (by simpa using hr.2) (fun x hx => hlt x (List.mem_append_right _ hx)) h2, rfl⟩
  | [], _ :: _, _, _, _, _, h => h.elim
  | [], [], _ :: _, _, _, _, h => h.elim
  | _ :: _, [], _, _, _, _, h => h.elim
  | _ :: _, _ :: _, [], _, _, _, h => h.elim

/-- A law that answered true, and left what was there. -/
theorem post_true {f : Func} {s : ChangeSpec} {fresh handsOn : Bool} {W W' : World} {args : Array Value} {ds : List (DataW H)} {before : List MemPlace} {tb : TypeId} (hl : laidOutB P = true) (hr : (f.params.toList.all fun t => P.readableRec t && decide (t < P.types.size)) = true)
    (hrt : f.resultTypes = #[tb]) (htb : P.underlying tb = some .bool) (hv : s.vars = [])
    (hW : DataW.Whole enc P f.params.toList s.vars false W args.toList ds [] before) (hfn : (s.fn H (ds ++ [])) = { results := [.lit (.bool true)], args := ds }) (hb : Below W.heap.size W W') :
    s.post enc P f false fresh handsOn false W args (.bool true) W' := by
  have hlt : ∀ p ∈ before, p.block < W.heap.size := fun p hp => hW.lt p hp
  have hW0 := hW
  obtain ⟨p, q, h1, h2, rfl, hz, _⟩ := hW
  rw [hv] at h2
  have hq : q = [] := h2
  subst hq
  refine ⟨ds, [], p ++ [], [], p, [], hW0, ?_, ?_, ?_, World.keptBut_mono (fun p hp => ⟨hp, .inr (.inl ?_)⟩) (hb.frame (· ∈ p ++ [])), fun h => by cases h⟩
  · rw [hfn, hrt]; exact trodAll_mk1 (shut_bool htb true)
  · rw [hfn]; exact trodAll_below hl hb hr (fun x hx => hlt x (by simp [hx])) h1
  · rw [hfn, hv]; rfl
  · simpa using hp
end
end Go.XC
/- What a problem of package sets reads as. -/
set_option linter.unusedVariables false
set_option maxRecDepth 100000
namespace Go.Proofs.YtgpgjpcebajofaaGreatDoor
open Go Go.XC Go.RowKit Go.SetsP Go.ChangeShapes Go.WideShapes
section
variable {H : Type} {enc : TypeId × Value → H} {w : World}
theorem c_int : Tryz.prog.cellsOf 3 = 1 := by kernel_rfl
theorem c_u64 : Tryz.prog.cellsOf 39 = 1 := by kernel_rfl
theorem c_kind : Tryz.prog.cellsOf 60 = 1 := by kernel_rfl
theorem c_ints : Tryz.prog.cellsOf 41 = 1 := by kernel_rfl
theorem c_bound : Tryz.prog.cellsOf 53 = 2 := by kernel_rfl
theorem c_bounds : Tryz.prog.cellsOf 22 = 1 := by kernel_rfl
theorem c_rule : Tryz.prog.cellsOf 62 = 4 := by kernel_rfl
theorem c_rules : Tryz.prog.cellsOf 23 = 1 := by kernel_rfl
theorem c_prob : Tryz.prog.cellsOf 25 = 2 := by kernel_rfl
theorem b_int : 0 < Tryz.prog.bytesOf 3 := Nat.le_of_ble_eq_true (by kernel_rfl)
theorem b_bound : 0 < Tryz.prog.bytesOf 53 := Nat.le_of_ble_eq_true (by kernel_rfl)
theorem b_rule : 0 < Tryz.prog.bytesOf 62 := Nat.le_of_ble_eq_true (by kernel_rfl)
theorem u64_of {n : Int} (h : (Lit.int .u64 n).wf = true) : ∃ x : BV, n = (x.toNat : Int) := by
  have := bounds_u64 h
  refine ⟨BitVec.ofNat 64 n.toNat, ?_⟩
  rw [BitVec.toNat_ofNat, Nat.mod_eq_of_lt (by omega)]; omega
theorem four {α : Type} {l : List α} (h : l.length = 4) : ∃ a b c d, l = [a, b, c, d] := by
  match l, h with
  | [a, b, c, d], _ => exact ⟨a, b, c, d, rfl⟩
theorem two {α : Type} {l : List α} (h : l.length = 2) : ∃ a b, l = [a, b] := by
  match l, h with
  | [a, b], _ => exact ⟨a, b, rfl⟩
theorem rd_bound {cs : List Value} (h : Rd enc Tryz.prog w 53 cs) : ∃ x, cs = bdC x := by
  obtain ⟨hl, hf⟩ := h.struct Tryz.underlying53
  rw [c_bound] at hl
  obtain ⟨a, b, rfl⟩ := two hl
  have h0 := Rd.fld hf 0 (off := 0) rfl c_u64
  have h1 := Rd.fld hf 1 (off := 1) rfl c_u64
  simp only [List.drop_zero, List.drop_succ_cons, List.take_succ_cons, List.take_zero] at h0 h1
  obtain ⟨x, hx, wx⟩ := h0.int Tryz.underlying39
  obtain ⟨y, hy, wy⟩ := h1.int Tryz.underlying39
  obtain ⟨x, rfl⟩ := u64_of wx
  obtain ⟨y, rfl⟩ := u64_of wy
  simp only [List.cons.injEq, and_true] at hx hy
  subst hx hy
  exact ⟨⟨x, y⟩, rfl⟩
theorem rd_ints {cs0 : List Value} (h : Rd enc Tryz.prog w 41 cs0) : ∃ A c l, cs0 = [.slice A l.length c] ∧ l.length ≤ c ∧ Sl (memOf w) 1 A (ints l) := by
  obtain ⟨A, n, c, css, rfl, hn, hc, _, hA, hel⟩ := h.slice Tryz.underlying41 c_int (by decide) b_int
  obtain ⟨l, rfl⟩ := exists_map (f := fun x : Int => [Value.int .i64 x]) fun cs hcs => by
    obtain ⟨n, rfl, _⟩ := (hel cs hcs).int Tryz.underlying3
    exact ⟨n, rfl⟩
  simp only [List.length_map] at hn
  subst hn
  exact ⟨A, c, l, rfl, hc, hA⟩
theorem rd_rule {cs : List Value} (h : Rd enc Tryz.prog w 62 cs) : ∃ r, RlC (memOf w) r cs := by
  obtain ⟨hl, hf⟩ := h.struct Tryz.underlying62
  rw [c_rule] at hl
  obtain ⟨a, b, c, d, rfl⟩ := four hl
  have h0 := Rd.fld hf 0 (off := 0) rfl c_kind
  have h1 := Rd.fld hf 1 (off := 1) rfl c_ints
  have h2 := Rd.fld hf 2 (off := 2) rfl c_int
  have h3 := Rd.fld hf 3 (off := 3) rfl c_int
  simp only [List.drop_zero, List.drop_succ_cons, List.take_succ_cons, List.take_zero] at h0 h1 h2 h3
  obtain ⟨k, hk, _⟩ := h0.int Tryz.underlying60
  obtain ⟨A, c', l, hA, hc, hlS⟩ := rd_ints h1
  obtain ⟨lo, hlo, _⟩ := h2.int Tryz.underlying3
  obtain ⟨hi, hhi, _⟩ := h3.int Tryz.underlying3
  simp only [List.cons.injEq, and_true] at hk hA hlo hhi
  subst hk hA hlo hhi
  exact ⟨⟨k, l, lo, hi⟩, A, c', rfl, hlS, hc⟩
theorem rd_prob {v : Value} (hv : v.cells.toList.length = 2 → ∃ cs, v = .agg cs) (h : Rd enc Tryz.prog w 25 v.cells.toList) : ∃ p pcs, v = .agg pcs ∧ PbC (memOf w) p pcs := by
  obtain ⟨hl, hf⟩ := h.struct Tryz.underlying25
  rw [c_prob] at hl
  obtain ⟨cs, rfl⟩ := hv hl
  obtain ⟨a, b, hab⟩ := two hl
  rw [hab] at hf
  have h0 := Rd.fld hf 0 (off := 0) rfl c_bounds
  have h1 := Rd.fld hf 1 (off := 1) rfl c_rules
  simp only [List.drop_zero, List.drop_succ_cons, List.take_succ_cons, List.take_zero] at h0 h1
  obtain ⟨A, n, c, css, hA, hn, hc, _, hA', hel⟩ := h0.slice Tryz.underlying22 c_bound (by decide) b_bound
  obtain ⟨B, n', c', css', hB, hn', hc', _, hB', hel'⟩ := h1.slice Tryz.underlying23 c_rule (by decide) b_rule
  obtain ⟨bs, rfl⟩ := exists_map (f := bdC) fun cs hcs => rd_bound (hel cs hcs)
  obtain ⟨rs, hlen, hrs⟩ := exists_rel (R := RlC (memOf w)) fun cs hcs => rd_rule (hel' cs hcs)
  simp only [List.cons.injEq, and_true] at hA hB
  subst hA hB
  have hcs : cs = #[.slice A n c, .slice B n' c'] := by
    cases cs with
    | mk l =>
      have : l = [.slice A n c, .slice B n' c'] := by simpa [Value.cells] using hab
      rw [this]
  subst hcs
  simp only [List.length_map] at hn
  subst hn hn'
  refine ⟨⟨bs, rs⟩, _, rfl, A, c, B, c', ?_, hA', ⟨css', hB', hlen, fun i r cs h1 h2 => hrs i r cs h1 h2⟩⟩
  simp only [hlen]
end
theorem gTab : Tryz.prog.globalNamed "math/bits.deBruijn64tab" = some 0 := by kernel_rfl
theorem gTabType : (Tryz.prog.globals[0]?).map (·.type) = some 134 := by kernel_rfl
theorem c_tab : Tryz.prog.cellsOf 134 = 64 := by kernel_rfl
theorem c_u8 : Tryz.prog.cellsOf 5 = 1 := by kernel_rfl
theorem tab_datum : Rows.laid_math_bits_deBruijn64tab (H := Unit) = Lib.tabData .u8 (tabL.map fun (n : Nat) => (n : Int)) := by kernel_rfl
end Go.Proofs.YtgpgjpcebajofaaGreatDoor
/- For every problem of sets and every number the law 'SetsAll' answers true, and turns nothing that was there. No condition but the row's own. -/
set_option linter.unusedVariables false
set_option maxRecDepth 100000
namespace Go.Proofs.YtgpgjpcebajofaaGreatDoor
open Go Go.XC Go.RowKit Go.SetsP Go.ChangeShapes Go.WideShapes
theorem laidOut : laidOutB Tryz.prog = true := by kernel_rfl
theorem u8_nat {n : Int} (h : (Lit.int .u8 n).wf = true) : ∃ k : Nat, k < 256 ∧ n = (k : Int) := by
  have : 0 ≤ n ∧ n < 256 := by
    have h1 : IntKind.u8.min = 0 := by decide
    have h2 : IntKind.u8.max = 255 := by decide
    simp [Lit.wf] at h
    omega
  exact ⟨n.toNat, by omega, by omega⟩
theorem own : ownKnob Tryz.prog.godebug = none := by kernel_rfl
theorem tab_of {W : World} (h : laidMetH Tryz.prog [("math/bits.deBruijn64tab", Rows.laid_math_bits_deBruijn64tab)] W) : TabM (memOf W) := by
  rw [MakeChecks.laidMetH_plain _ _ _ (by kernel_rfl), tab_datum] at h
  have hT := Lib.tabIs_of_head gTab gTabType Tryz.underlying134 Tryz.underlying5 c_u8 c_tab h
  unfold Lib.TabIs World.var? at hT
  rw [gTab, Option.bind_some] at hT
  cases hb : W.heap[0]? with
  | none => rw [hb] at hT; cases hT
  | some o =>
    rw [hb] at hT
    cases o with
    | cells cs T fr =>
      simp only [Option.some.injEq] at hT
      refine ⟨T, fr, ?_⟩
      show W.heap[0]? = _
      rw [hb, hT]
      unfold tabV
      rw [List.map_map]; rfl
    | _ => cases hT
theorem door_met (os : Os) (args : Array Value) : laidMetH Tryz.prog Rows.setsAllRow.laid ((World.doorLaid Tryz.prog 400 os).forCall (fun _ _ => 0) ⟨#[], args, []⟩).memory :=
  laidMetH_of_parts3 (fuel := 8) (laidMet_of_run' 8 (by kernel_rfl) (by kernel_rfl)) (by kernel_rfl) (by kernel_rfl)
theorem lifted1 (os : Os) (started : os.Started) (H : Type) (enc : TypeId × Value → H) :
    ReturnsInHanded {} Tryz.checked os 3 .any (fun w args => (Rows.setsAllSpec.pre enc Tryz.prog Tryz.f3 [] false w args ∧ laidMetH Tryz.prog Rows.setsAllRow.laid w) ∧ sizedMet enc Tryz.prog Tryz.f3 (OpenSpec.ofChange Rows.setsAllSpec) false w args)
      (Rows.setsAllSpec.post enc Tryz.prog Tryz.f3 false true false false) := by
  refine returnsInHanded_of_change_and (C := Tryz.checked) (X := fun w _ => laidMetH Tryz.prog Rows.setsAllRow.laid w) (fun _ _ _ hh h => h.of_heap hh) own started (by kernel_rfl) Tryz.func3
    (ChangeSpec.witness_shaped (enc := enc) (C := Tryz.checked) (os := os) (X := fun w _ => laidMetH Tryz.prog Rows.setsAllRow.laid w) false (World.doorLaid Tryz.prog 400 os) #[.agg #[.slice none 0 0, .slice none 0 0], .int .u8 0] 8 rfl (World.shaped_of_RefB (by kernel_rfl) (by kernel_rfl)) (by kernel_rfl) (by kernel_rfl) (by kernel_rfl) (door_met os _)) ?_
  intro W base args ds gs before hval0 hW _ hsz hL _
  have hval : ∀ (j : Nat) t v, Tryz.f3.params[j]? = some t → args[j]? = some v → Value.okWide Tryz.prog W .any base t v := hval0
  have hW' := hW
  obtain ⟨p, q, hA0, hV, rfl, hfz, hnd⟩ := hW
  have hA : DataW.TrodAll enc Tryz.prog W 0 (fun _ => true) true Tryz.f3.params.toList args.toList ds p := hA0
  rw [Tryz.params3] at hA hval
  obtain ⟨v0, v1, d0, d1, p0, p1, rfl, rfl, rfl, h0, h1⟩ := trodAll_two hA
  obtain ⟨rfl, rfl⟩ := trodVars_none hV
  have hsz' : (DataW.weightsEach Tryz.prog [25, 5] [d0, d1]).all (· ≤ reachBytes) = true := hsz
  have r0 := Rd.of_trod hsz' (j := 0) rfl rfl h0
  obtain ⟨pb, pcs, rfl, hp⟩ := rd_prob (fun _ => (okWide_struct Tryz.underlying25 (hval 0 _ _ rfl rfl)).imp fun _ h => h.1) r0
  obtain ⟨n, rfl, rfl, rfl, hwf⟩ := open_int Tryz.underlying5 (hval 1 _ _ rfl rfl) h1
  obtain ⟨by_, hby, rfl⟩ := u8_nat hwf
  refine (setsAll_c pb pcs by_ hby (memOf W) (tab_of hL) hp [] W (St.mk0 W)).mono fun e W' ⟨he, hw⟩ => ⟨_, he, ?_⟩
  exact post_true (ds := [_, _]) (tb := 4) laidOut (by kernel_rfl) (show Tryz.f3.resultTypes = #[4] by rfl) Tryz.underlying4 rfl hW' rfl (hw.toBelow (Mem.Le.refl _))
theorem setsAll_holds : Rows.SetsAllSaid :=
  OpenClaim.holds_of_wide 3 Tryz.f3 rfl rfl rfl rfl rfl rfl rfl ⟨rfl, rfl, rfl, rfl, rfl⟩ rfl rfl rfl rfl rfl (by kernel_rfl) Tryz.func3 (by kernel_rfl)
    (of_decide_eq_true (by kernel_rfl)) (by unfold Func.isWrapper; first | (rw [if_pos (by decide +kernel)]; kernel_rfl) | (rw [if_neg (by decide +kernel)]; exact ⟨rfl, rfl⟩))
    (fun os started H enc _ => lifted1 os started H enc)
theorem setsAll_card : Rows.SetsAllCardSaid :=
  Claim7.holds_tied_plain_at .later [] [.data] true (true, "7c7dfa548f7ee66d9257819adf084e75c509e71c62778b854b60c6028a752d64") true
    setsAll_holds (fun _ h => by cases h) (by kernel_rfl) (fun _ h => by cases h) setsAll_row_tie rfl ⟨rfl, rfl⟩ (by kernel_rfl) rfl
    (fun f fn hf hfn => by
      obtain rfl : f = 3 := Option.some.inj ((show Tryz.prog.funcNamed "swingle/swinglelaw16.SetsAll" = some 3 by kernel_rfl).symm.trans hf) |>.symm
      obtain rfl : fn = Tryz.f3 := (Option.some.inj (Tryz.func3.symm.trans hfn)).symm
      refine ⟨by kernel_rfl, fun j t ht => ?_⟩
      rw [Tryz.params3] at ht
      match j, ht with
      | 0, ht => (obtain rfl : 25 = t := by simpa using ht); exact (show Tryz.prog.wantsStandIn 25 = false by kernel_rfl)
      | 1, ht => (obtain rfl : 5 = t := by simpa using ht); exact (show Tryz.prog.wantsStandIn 5 = false by kernel_rfl)
      | n + 2, ht => simp at ht)
    (by kernel_rfl)
#print axioms setsAll_card
end Go.Proofs.YtgpgjpcebajofaaGreatDoor
