/-
  The engine, part C: worlds (what is kept from one to the next), rows of cells, and the operations that read or write memory, one lemma each.
  No condition: general lemmas over any program.
-/
import Derived.Test.YtmdhbgkmkmmmpaaEngB
import Derived.Laws.AppendOwn
namespace Go.Eng
open Go

/-! ### worlds -/

/-- from one world to a later one: the blocks that 'S' does not name are as they were -/
structure Fr (S : Nat → Prop) (w w' : World) : Prop where
  os : w'.os = w.os
  tape : w'.tape = w.tape
  output : w'.output = w.output
  size : w.heap.size ≤ w'.heap.size
  keep : ∀ k, k < w.heap.size → ¬ S k → w'.heap[k]? = w.heap[k]?

/-- nothing that was there has changed -/
abbrev Fr0 := Fr (fun _ => False)

variable {S S' : Nat → Prop} {w w' w1 w2 w3 : World}

theorem Fr.refl (S : Nat → Prop) (w : World) : Fr S w w := ⟨rfl, rfl, rfl, Nat.le_refl _, fun _ _ _ => rfl⟩
theorem Fr.trans (h : Fr S w1 w2) (g : Fr S w2 w3) : Fr S w1 w3 :=
  ⟨g.os.trans h.os, g.tape.trans h.tape, g.output.trans h.output, Nat.le_trans h.size g.size, fun k hk hs => (g.keep k (Nat.lt_of_lt_of_le hk h.size) hs).trans (h.keep k hk hs)⟩
/-- two steps, of which the second may also write what the first made -/
theorem Fr.trans' (h : Fr S w1 w2) (g : Fr S' w2 w3) (hs : ∀ k, k < w1.heap.size → S' k → S k) : Fr S w1 w3 :=
  ⟨g.os.trans h.os, g.tape.trans h.tape, g.output.trans h.output, Nat.le_trans h.size g.size,
    fun k hk hn => (g.keep k (Nat.lt_of_lt_of_le hk h.size) (fun c => hn (hs k hk c))).trans (h.keep k hk hn)⟩
theorem Fr.mono (h : Fr S w w') (hs : ∀ k, k < w.heap.size → S k → S' k) : Fr S' w w' := ⟨h.os, h.tape, h.output, h.size, fun k hk hn => h.keep k hk (fun c => hn (hs k hk c))⟩
theorem Fr0.any (h : Fr0 w w') : Fr S w w' := h.mono (fun _ _ c => c.elim)
theorem Fr0.trans (h : Fr0 w1 w2) (g : Fr0 w2 w3) : Fr0 w1 w3 := Fr.trans h g

theorem Fr.alloc (w : World) (o : Obj) : Fr0 w (w.alloc o) :=
  ⟨rfl, rfl, rfl, by simp, fun k hk _ => RowKit.Below.heap_alloc w o k hk⟩

theorem Fr.drew (w : World) : Fr0 w w.drew := ⟨rfl, rfl, rfl, Nat.le_refl _, fun _ _ _ => rfl⟩

theorem Fr.below (h : Fr0 w w') : RowKit.Below w.heap.size w w' := ⟨h.os, h.tape, h.output, h.size, fun k hk => h.keep k hk id⟩
theorem Fr.of_below (h : RowKit.Below w.heap.size w w') : Fr0 w w' := ⟨h.os, h.tape, h.output, h.size, fun k hk _ => h.block k hk⟩

theorem Fr.of_grown {row : Option Nat} (h : w.grownBy w' row) : Fr (fun k => row = some k) w w' :=
  ⟨h.os, h.tape, h.output, h.size, fun k hk hn => h.block k hk (fun e => hn e.symm)⟩

/-- a new block -/
structure New (w w' : World) (b : Nat) (o : Obj) : Prop where
  fresh : b = w.heap.size
  size : w'.heap.size = w.heap.size + 1
  fr : Fr0 w w'
  here : w'.heap[b]? = some o

theorem New.alloc (w : World) (o : Obj) : New w (w.alloc o) w.heap.size o := ⟨rfl, by simp, Fr.alloc w o, heap_alloc_new w o⟩

theorem lt_of_here {w : World} {b : Nat} {o : Obj} (h : w.heap[b]? = some o) : b < w.heap.size := by
  rcases Nat.lt_or_ge b w.heap.size with c | c
  · exact c
  · rw [Array.getElem?_eq_none c] at h; cases h

theorem Fr.here {b : Nat} {o : Obj} (f : Fr S w w') (h : w.heap[b]? = some o) (hs : ¬ S b) : w'.heap[b]? = some o := by
  rw [f.keep b (lt_of_here h) hs]; exact h

/-! ### rows of cells -/

/-- the cells from an address on hold these values -/
def Seg (w : World) (b o : Nat) (vs : List Value) : Prop := ∀ j v, vs[j]? = some v → w.cell? ⟨b, o + j, none⟩ = some v

/-- a whole block of cells, none of them frozen -/
def Bk (w : World) (b : Nat) (T : TypeId) (cs : List Value) : Prop := w.heap[b]? = some (.cells cs.toArray T (0, 0))

theorem Bk.lt {b T : Nat} {cs : List Value} (h : Bk w b T cs) : b < w.heap.size := lt_of_here h
theorem Bk.frame {b T : Nat} {cs : List Value} (h : Bk w b T cs) (f : Fr S w w') (hs : ¬ S b) : Bk w' b T cs := f.here h hs

theorem New.bk {b T : Nat} {cs : List Value} (h : New w w' b (.cells cs.toArray T (0, 0))) : Bk w' b T cs := h.here

theorem cell_frame {b o : Nat} (f : Fr S w w') (hb : b < w.heap.size) (hs : ¬ S b) : w'.cell? ⟨b, o, none⟩ = w.cell? ⟨b, o, none⟩ := by
  simp only [World.cell?, f.keep b hb hs]

theorem lt_of_cell {b o : Nat} {v : Value} (h : w.cell? ⟨b, o, none⟩ = some v) : b < w.heap.size := by
  rcases Nat.lt_or_ge b w.heap.size with c | c
  · exact c
  · simp only [World.cell?, Array.getElem?_eq_none c] at h; cases h

theorem cell_keep {b o : Nat} {v : Value} (h : w.cell? ⟨b, o, none⟩ = some v) (f : Fr S w w') (hs : ¬ S b) : w'.cell? ⟨b, o, none⟩ = some v := by
  rw [cell_frame f (lt_of_cell h) hs]; exact h

theorem Seg.frame {b o : Nat} {vs : List Value} (h : Seg w b o vs) (f : Fr S w w') (hs : ¬ S b) : Seg w' b o vs :=
  fun j v e => cell_keep (h j v e) f hs

theorem Seg.nil (w : World) (b o : Nat) : Seg w b o [] := fun j v e => by simp at e

theorem Seg.app {b o : Nat} {xs ys : List Value} (h : Seg w b o (xs ++ ys)) : Seg w b o xs ∧ Seg w b (o + xs.length) ys := by
  constructor
  · intro j v e
    have hj : j < xs.length := by
      rcases Nat.lt_or_ge j xs.length with c | c
      · exact c
      · rw [List.getElem?_eq_none c] at e; cases e
    exact h j v (by rw [List.getElem?_append_left hj]; exact e)
  · intro j v e
    have := h (xs.length + j) v (by rw [List.getElem?_append_right (by omega), Nat.add_sub_cancel_left]; exact e)
    rwa [← Nat.add_assoc] at this

theorem Seg.sub {b o : Nat} {vs xs : List Value} (h : Seg w b o vs) (k : Nat) (hx : ∀ j v, xs[j]? = some v → vs[k + j]? = some v) : Seg w b (o + k) xs :=
  fun j v e => by have := h (k + j) v (hx j v e); rwa [← Nat.add_assoc] at this

theorem Seg.one {b o : Nat} {vs : List Value} (h : Seg w b o vs) (k : Nat) {v : Value} (e : vs[k]? = some v) : w.cell? ⟨b, o + k, none⟩ = some v := h k v e

theorem Seg.head {b o : Nat} {vs : List Value} {v : Value} (h : Seg w b o (v :: vs)) : w.cell? ⟨b, o, none⟩ = some v := h 0 v rfl

theorem Bk.seg {b T : Nat} {cs : List Value} (h : Bk w b T cs) : Seg w b 0 cs := by
  intro j v e
  simp only [Bk] at h
  simp only [World.cell?, h, Nat.zero_add]
  simpa using e

theorem Bk.segAt {b T : Nat} {cs : List Value} (h : Bk w b T cs) (o : Nat) (vs : List Value) (hv : ∀ j v, vs[j]? = some v → cs[o + j]? = some v) : Seg w b o vs := by
  have := h.seg.sub o hv
  rwa [Nat.zero_add] at this

theorem Bk.cell {b T o : Nat} {cs : List Value} {v : Value} (h : Bk w b T cs) (e : cs[o]? = some v) : w.cell? ⟨b, o, none⟩ = some v := by
  have := h.seg o v e
  rwa [Nat.zero_add] at this

/-- a list with some places written -/
def upd (cs : List Value) (o : Nat) (vs : List Value) : List Value := cs.take o ++ vs ++ cs.drop (o + vs.length)

theorem upd_length {cs vs : List Value} {o : Nat} (h : o + vs.length ≤ cs.length) : (upd cs o vs).length = cs.length := by
  simp only [upd, List.length_append, List.length_take, List.length_drop]; omega

theorem setRow_fr (w : World) (b : Nat) (cs : Array Value) : Fr (fun k => k = b) w (w.setRow b cs) :=
  ⟨rfl, rfl, rfl, by simp [World.setRow], fun k _ hn => setRow_other w b k cs hn⟩

theorem setRow_size (w : World) (b : Nat) (cs : Array Value) : (w.setRow b cs).heap.size = w.heap.size := by simp [World.setRow]

/-! ### facts on types -/

def aggSz (P : Program) (t : TypeId) : Option Nat :=
  match P.underlying t, P.info? t with
  | some (.struct _), some i => some i.size
  | some (.array _ _), some i => some i.size
  | _, _ => none

def cellTy (P : Program) (t : TypeId) : Bool :=
  match P.underlying t, P.info? t with
  | some (.struct _), _ => false
  | some (.array _ _), _ => false
  | some _, some i => i.size == 1
  | _, _ => false

def sizeIs (P : Program) (t : TypeId) : Option Nat := (P.info? t).map (·.size)

def zeroIs (P : Program) (t : TypeId) : Option Value := (P.info? t).bind (·.zero)

def fieldOff (P : Program) (s f : Nat) : Option Nat :=
  match P.underlying s with
  | some (.struct fs) => match fs[f]? with
    | some fl => match P.info? fl.type with
      | some i => if i.size = 0 then none else some fl.offset
      | none => none
    | none => none
  | _ => none

def elemIs (P : Program) (t : TypeId) : Option (TypeId × Nat) :=
  match P.underlying t with
  | some (.slice e) => (P.info? e).map fun i => (e, i.size)
  | _ => none

def arrIs (P : Program) (t : TypeId) : Option (Nat × TypeId × Nat) :=
  match P.underlying t with
  | some (.array n e) => (P.info? e).map fun i => (n, e, i.size)
  | _ => none

def callable (P : Program) (f : FuncId) : Bool :=
  match P.funcs[f]? with
  | some fn => fn.body.isSome && !(fn.name == "runtime.NumGoroutine")
  | none => false

variable {r : Option Nat} {P : Program}

theorem run_typeInfo' {t : TypeId} {i : TypeInfo} (h : P.info? t = some i) : (typeInfo t).run P w = .ok i w := by simp [typeInfo, h]
theorem run_sizeOf' {t k : Nat} (h : sizeIs P t = some k) : (sizeOf t).run P w = .ok k w := by
  simp only [sizeIs, Option.map_eq_some_iff] at h
  obtain ⟨i, hi, rfl⟩ := h
  simp [sizeOf, typeInfo, hi]

theorem run_agg {t k : Nat} (h : aggSz P t = some k) : (isAgg t).run P w = .ok true w ∧ sizeIs P t = some k := by
  simp only [aggSz] at h
  split at h
  · rename_i fs i h1 h2; simp at h; exact ⟨by simp [isAgg, run_underlying h1], by simp [sizeIs, h2, h]⟩
  · rename_i fs i h1 h2; simp at h; exact ⟨by simp [isAgg, run_underlying h1], by simp [sizeIs, *]⟩
  · cases h

theorem run_cellTy {t : Nat} (h : cellTy P t = true) : (isAgg t).run P w = .ok false w ∧ sizeIs P t = some 1 := by
  simp only [cellTy] at h
  split at h
  · cases h
  · cases h
  · rename_i d i hn1 hn2 h1 h2
    simp at h
    refine ⟨?_, by simp [sizeIs, *]⟩
    simp only [isAgg, Sem.run_bind, run_underlying h1, Result.andThen_ok]
    cases d <;> first | rfl | exact absurd rfl (hn1 _) | exact absurd rfl (hn2 _ _)
  · cases h

theorem add_none (b o k : Nat) : (⟨b, o, none⟩ : Addr).add k = ⟨b, o + k, none⟩ := by
  unfold Addr.add
  split
  · rename_i h; subst h; rfl
  · rfl

theorem run_loadSeg {b o : Nat} {vs : List Value} (h : Seg w b o vs) : (loadCells ⟨b, o, none⟩ vs.length).run P w = .ok vs.toArray w :=
  run_loadCells_list w ⟨b, o, none⟩ vs (fun j v e => by rw [add_none]; exact h j v e)

theorem run_loadVarA {t k b o : Nat} {vs : List Value} (ht : aggSz P t = some k) (h : Seg w b o vs) (hl : vs.length = k) : (loadVar t ⟨b, o, none⟩).run P w = .ok (.agg vs.toArray) w := by
  obtain ⟨h1, h2⟩ := run_agg (w := w) ht
  subst hl
  simp [loadVar, h1, run_sizeOf' h2, run_loadSeg h]

theorem run_loadVar1 {t b o : Nat} {v : Value} (ht : cellTy P t = true) (h : w.cell? ⟨b, o, none⟩ = some v) : (loadVar t ⟨b, o, none⟩).run P w = .ok v w := by
  obtain ⟨h1, _⟩ := run_cellTy (w := w) ht
  simp [loadVar, h1, h]

theorem run_storeVar {t b o T : Nat} {v : Value} {cs : List Value} (ht : sizeIs P t = some v.cells.size) (hb : Bk w b T cs) (hfit : o + v.cells.size ≤ cs.length) (h1 : ∀ x ∈ v.cells.toList, x.oneCell' = true) :
    (storeVar t ⟨b, o, none⟩ v).run P w = .ok () (w.setRow b (upd cs o v.cells.toList).toArray) := by
  have := run_storeCells_at P b o T v.cells.toList 0 cs.toArray w hb (by simpa using hfit) h1
  simp only [Nat.add_zero] at this
  simp only [storeVar, Sem.run_bind, run_sizeOf' ht, Result.andThen_ok]
  simp only [ne_eq, not_true, if_false]
  rw [this]
  simp [upd]

theorem Bk.setRow {b T : Nat} {cs cs' : List Value} (h : Bk w b T cs) : Bk (w.setRow b cs'.toArray) b T cs' := setRow_heap w b cs.toArray _ T _ h

/-! ### operations -/

section ops
variable {n : Nat} {D : List Deferred} {L : List (Nat × Value)} {Q : Exit → Act → World → Prop} {ops : Array Oper} {todo : List Oper}
variable {d : Nat} {t t' ty : TypeId} {pos : String} {af : Array Edge} {x y : Operand} {u u' v : Value} {b o k : Nat} {i : Int} {ik : IntKind}

theorem OW.fieldAddr {f off : Nat} (hd : Nat.blt d n = true) (hf : fieldOff P t f = some off) (hx : evl L x = some (.pointer (some ⟨b, o, none⟩)))
    (h : OW P ops Q n D todo ((d, .pointer (some ⟨b, o + off, none⟩)) :: L) w) : OW P ops Q n D (⟨some d, .fieldAddr t x f, ty, pos, af, none⟩ :: todo) L w := by
  refine OW.value rfl rfl hd (fun a ha => ?_) h
  simp only [execOp, ha.eval hx]
  refine run_val ?_
  simp only [fieldOff] at hf
  split at hf
  · rename_i fs h1
    split at hf
    · rename_i fl h2
      split at hf
      · rename_i ti h3
        split at hf
        · cases hf
        · rename_i hne
          simp at hf; subst hf
          simp [Instr.fieldAt, run_underlying h1, h2, Instr.sureAddr, fieldPlace, sizeOf, run_typeInfo' h3, hne, add_none]
      · cases hf
    · cases hf
  · cases hf

theorem OW.loadA {vs : List Value} (hd : Nat.blt d n = true) (ht : aggSz P t = some k) (hx : evl L x = some (.pointer (some ⟨b, o, none⟩))) (hs : Seg w b o vs) (hl : vs.length = k)
    (h : OW P ops Q n D todo ((d, .agg vs.toArray) :: L) w) : OW P ops Q n D (⟨some d, .load t x, ty, pos, af, none⟩ :: todo) L w := by
  refine OW.value rfl rfl hd (fun a ha => ?_) h
  simp only [execOp, ha.eval hx]
  refine run_val ?_
  simp [Instr.loadAt, Instr.sureAddr, run_loadVarA ht hs hl]

theorem OW.load1 (hd : Nat.blt d n = true) (ht : cellTy P t = true) (hx : evl L x = some (.pointer (some ⟨b, o, none⟩))) (hs : w.cell? ⟨b, o, none⟩ = some v)
    (h : OW P ops Q n D todo ((d, v) :: L) w) : OW P ops Q n D (⟨some d, .load t x, ty, pos, af, none⟩ :: todo) L w := by
  refine OW.value rfl rfl hd (fun a ha => ?_) h
  simp only [execOp, ha.eval hx]
  refine run_val ?_
  simp [Instr.loadAt, Instr.sureAddr, run_loadVar1 ht hs]

theorem OW.box (hd : Nat.blt d n = true) (hx : evl L x = some v) (h : ∀ b w', New w w' b (.cells v.cells t (0, 0)) → OW P ops Q n D todo ((d, .pointer (some ⟨b, 0, none⟩)) :: L) w') :
    OW P ops Q n D (⟨some d, .box t x, ty, pos, af, none⟩ :: todo) L w := by
  refine OW.value (w' := w.alloc (.cells v.cells t (0, 0))) (v := .pointer (some ⟨w.heap.size, 0, none⟩)) rfl rfl hd (fun a ha => ?_) (h _ _ (New.alloc _ _))
  simp only [execOp, ha.eval hx]
  exact run_val rfl

theorem OW.boxA {vs : List Value} (hd : Nat.blt d n = true) (hx : evl L x = some (.agg vs.toArray)) (h : ∀ b w', New w w' b (.cells vs.toArray t (0, 0)) → OW P ops Q n D todo ((d, .pointer (some ⟨b, 0, none⟩)) :: L) w') :
    OW P ops Q n D (⟨some d, .box t x, ty, pos, af, none⟩ :: todo) L w := OW.box hd hx h

theorem OW.alloc (hd : Nat.blt d n = true) (hz : zeroIs P t = some v) (h : ∀ b w', New w w' b (.cells v.cells t (0, 0)) → OW P ops Q n D todo ((d, .pointer (some ⟨b, 0, none⟩)) :: L) w') :
    OW P ops Q n D (⟨some d, .alloc t, ty, pos, af, none⟩ :: todo) L w := by
  refine OW.value (w' := w.alloc (.cells v.cells t (0, 0))) (v := .pointer (some ⟨w.heap.size, 0, none⟩)) rfl rfl hd (fun a ha => ?_) (h _ _ (New.alloc _ _))
  simp only [execOp]
  refine run_val ?_
  simp only [zeroIs, Option.bind_eq_some_iff] at hz
  obtain ⟨i, hi, hv⟩ := hz
  have hzero : (zeroValue t).run P w = .ok v w := by simp [zeroValue, run_typeInfo' hi, hv]
  simp only [Instr.alloc, Sem.run_bind, hzero, Result.andThen_ok]
  rfl

theorem OW.store {T : Nat} {cs : List Value} (hx : evl L x = some (.pointer (some ⟨b, o, none⟩))) (hy : evl L y = some v) (ht : sizeIs P t = some v.cells.size) (hb : Bk w b T cs)
    (hfit : o + v.cells.size ≤ cs.length) (h1 : ∀ x ∈ v.cells.toList, x.oneCell' = true)
    (h : ∀ w', Fr (fun k => k = b) w w' → w'.heap.size = w.heap.size → Bk w' b T (upd cs o v.cells.toList) → OW P ops Q n D todo L w') :
    OW P ops Q n D (⟨none, .store t x y, ty, pos, af, none⟩ :: todo) L w := by
  refine OW.skip rfl rfl (fun a ha => ?_) (h _ (setRow_fr w b _) (setRow_size w b _) hb.setRow)
  simp only [execOp, ha.eval hx, ha.eval hy]
  refine run_unit ?_
  simp [Instr.storeAt, Instr.sureAddr, run_storeVar ht hb hfit h1]

theorem OW.indexAddr {e sz len cap : Nat} (hd : Nat.blt d n = true) (ht : elemIs P t = some (e, sz)) (hx : evl L x = some (.slice (some ⟨b, o, none⟩) len cap)) (hy : evl L y = some (.int ik i)) (hi : 0 ≤ i ∧ i < len)
    (h : OW P ops Q n D todo ((d, .pointer (some ⟨b, o + i.toNat * sz, none⟩)) :: L) w) : OW P ops Q n D (⟨some d, .indexAddr t x y, ty, pos, af, none⟩ :: todo) L w := by
  refine OW.value rfl rfl hd (fun a ha => ?_) h
  simp only [execOp, ha.eval hx, ha.eval hy]
  refine run_val ?_
  simp only [elemIs] at ht
  split at ht
  · rename_i e' h1
    simp only [Option.map_eq_some_iff, Prod.mk.injEq] at ht
    obtain ⟨ti, h2, rfl, rfl⟩ := ht
    simp [Instr.indexAt, asIntOf, run_underlying h1, hi, sizeOf, run_typeInfo' h2, add_none]
  · cases ht

theorem OW.indexAddrArr {len e sz : Nat} (hd : Nat.blt d n = true) (ht : arrIs P t = some (len, e, sz)) (hx : evl L x = some (.pointer (some ⟨b, o, none⟩))) (hy : evl L y = some (.int ik i)) (hi : 0 ≤ i ∧ i < len)
    (h : OW P ops Q n D todo ((d, .pointer (some ⟨b, o + i.toNat * sz, none⟩)) :: L) w) : OW P ops Q n D (⟨some d, .indexAddr t x y, ty, pos, af, none⟩ :: todo) L w := by
  refine OW.value rfl rfl hd (fun a ha => ?_) h
  simp only [execOp, ha.eval hx, ha.eval hy]
  refine run_val ?_
  simp only [arrIs] at ht
  split at ht
  · rename_i n' e' h1
    simp only [Option.map_eq_some_iff, Prod.mk.injEq] at ht
    obtain ⟨ti, h2, rfl, rfl, rfl⟩ := ht
    simp [Instr.indexAt, asIntOf, run_underlying h1, hi, sizeOf, run_typeInfo' h2, add_none, Instr.sureAddr]
  · cases ht

theorem OW.index {len e sz : Nat} {vs : List Value} (hd : Nat.blt d n = true) (ht : arrIs P t = some (len, e, sz)) (he : cellTy P e = true) (hx : evl L x = some (.agg vs.toArray)) (hy : evl L y = some (.int ik i)) (hi : 0 ≤ i ∧ i < len)
    (hv : vs[i.toNat]? = some v) (h : OW P ops Q n D todo ((d, v) :: L) w) : OW P ops Q n D (⟨some d, .index t x y, ty, pos, af, none⟩ :: todo) L w := by
  refine OW.value rfl rfl hd (fun a ha => ?_) h
  simp only [execOp, ha.eval hx, ha.eval hy]
  refine run_val ?_
  simp only [arrIs] at ht
  split at ht
  · rename_i n' e' h1
    simp only [Option.map_eq_some_iff, Prod.mk.injEq] at ht
    obtain ⟨ti, h2, rfl, rfl, rfl⟩ := ht
    obtain ⟨g1, g2⟩ := run_cellTy (w := w) he
    have hs : ti.size = 1 := by simpa [sizeIs, h2] using g2
    simp [Instr.index, asIntOf, run_underlying h1, hi, sizeOf, run_typeInfo' h2, part, g1, hs, hv]
  · cases ht

theorem OW.len {len cap : Nat} {p : Option Addr} {e sz : Nat} (hd : Nat.blt d n = true) (ht : elemIs P t = some (e, sz)) (hx : evl L x = some (.slice p len cap))
    (h : OW P ops Q n D todo ((d, .int .i64 (len : Int)) :: L) w) : OW P ops Q n D (⟨some d, .call ⟨.builtin .len, #[x], #[t]⟩, ty, pos, af, none⟩ :: todo) L w := by
  refine OW.value rfl rfl hd (fun a ha => ?_) h
  simp only [elemIs] at ht
  split at ht
  · rename_i e' h1
    simp [execOp, resolve, invoke, builtin, ha.eval hx, Builtin.len_, run_underlying h1, goInt]
  · cases ht

/-- what a call returns, and the world behind it -/
def Does (P : Program) (f : FuncId) (args : List Value) (w : World) (R : Value → World → Prop) : Prop :=
  Calls P f args.toArray w fun e w' => ∃ v, e = .returned v ∧ R v w'

theorem Does.mono' {f : FuncId} {v v2 : Value} {w : World} {R R' : Value → World → Prop} (h : Does P f [v2] w R) (e : v = v2) (hr : ∀ v w', R v w' → R' v w') : Does P f [v] w R' := by
  subst e; exact Calls.mono h fun _ _ ⟨v, e, r⟩ => ⟨v, e, hr v _ r⟩

theorem Does.mono {f : FuncId} {args : List Value} {R R' : Value → World → Prop} (h : Does P f args w R) (hr : ∀ v w', R v w' → R' v w') : Does P f args w R' :=
  Calls.mono h fun _ _ ⟨v, e, r⟩ => ⟨v, e, hr v _ r⟩

theorem run_callFunc {f : FuncId} (args : Array Value) (hc : callable P f = true) : (callFunc f args).run P w = .ok (.enter f args) w := by
  simp only [callable] at hc
  split at hc
  · rename_i fn h1
    simp at hc
    obtain ⟨hb, hn⟩ := hc
    have hb' : fn.body ≠ none := by intro e; rw [e] at hb; cases hb
    simp [callFunc, program, h1, hn, hb', Sem.run]
  · cases hc

theorem OW.callV {g : Operand} {f : FuncId} {first cap : Array Value} {args : List Operand} {ts : Array TypeId} {vs : List Value} {R : Value → World → Prop} {dst : Option Tmp}
    (hg : evl L g = some (.func (.func f) first cap)) (ha' : evls L args = some vs) (hc : callable P f = true)
    (hf : Does P f (first.toList ++ vs ++ cap.toList) w R) (hd : ∀ d, dst = some d → Nat.blt d n = true)
    (h : ∀ v w', R v w' → OW P ops Q n D todo (match dst with | some d => (d, v) :: L | none => L) w') :
    OW P ops Q n D (⟨dst, .call ⟨.value g, args.toArray, ts⟩, ty, pos, af, none⟩ :: todo) L w := by
  intro a ha
  simp only [wpL]
  rw [if_pos (by simp [Region.wanted])]
  refine ⟨fun _ _ => trivial, ?_⟩
  have hr : (execOp a.eval ⟨dst, .call ⟨.value g, args.toArray, ts⟩, ty, pos, af, none⟩).run P w = .ok (.enter f (first ++ vs.toArray ++ cap)) w := by
    simp only [execOp, resolve, ha.eval hg, Deferred.ofValue, Sem.run_bind, Sem.run_pure, Result.andThen_ok, invoke]
    rw [run_callFunc _ hc]
    simp [ha.evals ha']
  show Oper.uponIn _ _ _ _ _ _ _ ((Oper.semAt none a.eval _).run P w)
  rw [Oper.semAt_none, hr]
  simp only [Oper.uponIn]
  have e : (first.toList ++ vs ++ cap.toList).toArray = first ++ vs.toArray ++ cap := by simp
  unfold Does at hf
  rw [e] at hf
  refine ⟨fun c => (by cases c), callsIn_wide.2 (hf.mono ?_)⟩
  rintro e w' ⟨v, rfl, r⟩
  have k := h v w' r
  cases dst with
  | none => exact k _ ha
  | some d => exact k _ (ha.put (hd d rfl) v)

/-- a call of a function by its number -/
theorem OW.call {f : FuncId} {args : List Operand} {ts : Array TypeId} {vs : List Value} {R : Value → World → Prop}
    (hd : Nat.blt d n = true) (ha' : evls L args = some vs) (hc : callable P f = true) (hf : Does P f vs w R)
    (h : ∀ v w', R v w' → OW P ops Q n D todo ((d, v) :: L) w') :
    OW P ops Q n D (⟨some d, .call ⟨.value (.func f), args.toArray, ts⟩, ty, pos, af, none⟩ :: todo) L w :=
  OW.callV (first := #[]) (cap := #[]) rfl ha' hc (by simpa using hf) (fun e he => by cases he; exact hd) h

/-- a call of a function value -/
theorem OW.callF {g : Operand} {f : FuncId} {first cap : Array Value} {args : List Operand} {ts : Array TypeId} {vs : List Value} {R : Value → World → Prop}
    (hd : Nat.blt d n = true) (hg : evl L g = some (.func (.func f) first cap)) (ha' : evls L args = some vs) (hc : callable P f = true) (hf : Does P f (first.toList ++ vs ++ cap.toList) w R)
    (h : ∀ v w', R v w' → OW P ops Q n D todo ((d, v) :: L) w') :
    OW P ops Q n D (⟨some d, .call ⟨.value g, args.toArray, ts⟩, ty, pos, af, none⟩ :: todo) L w :=
  OW.callV hg ha' hc hf (fun e he => by cases he; exact hd) h

end ops

/-! ### bodies -/

theorem Does.body {f : FuncId} {fn : Func} {c : Code} {args : List Value} {w : World} {R : Value → World → Prop} {L : List (Nat × Value)}
    (hf : P.funcs[f]? = some fn) (hb : fn.body = some c) (hL : ∀ t v, look L t = some v → args[t]? = some v) (hn : args.length ≤ fn.ntmps)
    (h : CW none P c (bodyPost P fn fun e w' => ∃ v, e = .returned v ∧ R v w') fn.ntmps [] L w) : Does P f args w R := by
  refine calls_of_wp hf hb (wpIn_wide.1 (h _ ⟨?_, rfl, ?_⟩))
  · simp; omega
  · intro t v e
    have := hL t v e
    have ht : t < args.length := by
      rcases Nat.lt_or_ge t args.length with c | c
      · exact c
      · rw [List.getElem?_eq_none c] at this; cases this
    simp only [Array.getElem?_append, List.size_toArray, ht, if_true]
    simpa using this

/-- the slots of the arguments -/
def argSlots : Nat → List Value → List (Nat × Value)
  | _, [] => []
  | i, v :: vs => (i, v) :: argSlots (i + 1) vs

theorem look_argSlots : ∀ (vs pre : List Value) (t : Nat) (v : Value), look (argSlots pre.length vs) t = some v → (pre ++ vs)[t]? = some v
  | [], pre, t, v, h => by simp [argSlots, look] at h
  | x :: vs, pre, t, v, h => by
    simp only [argSlots, look] at h
    by_cases c : pre.length = t
    · subst c; simp at h; subst h
      rw [List.getElem?_append_right (Nat.le_refl _)]; simp
    · rw [beq_ne c] at h
      have := look_argSlots vs (pre ++ [x]) t v (by simpa using h)
      simpa using this

theorem Does.enter {f : FuncId} {fn : Func} {c : Code} {args : List Value} {w : World} {R : Value → World → Prop}
    (hf : P.funcs[f]? = some fn) (hb : fn.body = some c) (hn : Nat.ble args.length fn.ntmps = true)
    (h : CW none P c (bodyPost P fn fun e w' => ∃ v, e = .returned v ∧ R v w') fn.ntmps [] (argSlots 0 args) w) : Does P f args w R :=
  Does.body hf hb (fun t v e => by have := look_argSlots args [] t v e; simpa using this) (Nat.le_of_ble_eq_true hn) h

/-- the result stands in one slot -/
theorem NX.ret1 {fn : Func} {n t : Nat} {L : List (Nat × Value)} {w : World} {v : Value} {R : Value → World → Prop} (hr : fn.results = #[.tmp t]) (hv : look L t = some v) (h : R v w) :
    NX (bodyPost P fn fun e w' => ∃ v, e = .returned v ∧ R v w') n [] .ret L w := by
  intro a ha
  refine ⟨ha.defers, v, ?_, v, rfl, h⟩
  have := ha.get t v hv
  simp [results, hr, this]

theorem NX.ret0 {fn : Func} {n : Nat} {L : List (Nat × Value)} {w : World} {R : Value → World → Prop} {e : Exit} (he : e = .ret ∨ e = .normal) (hr : fn.results = #[]) (h : R (.tuple #[]) w) :
    NX (bodyPost P fn fun e w' => ∃ v, e = .returned v ∧ R v w') n [] e L w := by
  intro a ha
  rcases he with rfl | rfl
  · exact ⟨ha.defers, .tuple #[], by simp [results, hr], _, rfl, h⟩
  · exact ⟨ha.defers, .tuple #[], by simp [results, hr], _, rfl, h⟩

theorem NX.ret2 {fn : Func} {n t u : Nat} {L : List (Nat × Value)} {w : World} {x y : Value} {R : Value → World → Prop} (hr : fn.results = #[.tmp t, .tmp u]) (hx : look L t = some x) (hy : look L u = some y)
    (h : R (.tuple #[x, y]) w) : NX (bodyPost P fn fun e w' => ∃ v, e = .returned v ∧ R v w') n [] .ret L w := by
  intro a ha
  refine ⟨ha.defers, .tuple #[x, y], ?_, _, rfl, h⟩
  have h1 := ha.get t x hx
  have h2 := ha.get u y hy
  simp [results, hr, h1, h2]

/-- the one result lies in memory, in cells -/
theorem NX.retA {fn : Func} {n t b o k : Nat} {T : TypeId} {L : List (Nat × Value)} {w : World} {vs : List Value} {R : Value → World → Prop} (hr : fn.results = #[.cell t T])
    (hv : look L t = some (.pointer (some ⟨b, o, none⟩))) (ht : aggSz P T = some k) (hs : Seg w b o vs) (hl : vs.length = k) (h : R (.agg vs.toArray) w) :
    NX (bodyPost P fn fun e w' => ∃ v, e = .returned v ∧ R v w') n [] .ret L w := by
  intro a ha
  refine ⟨ha.defers, .agg vs.toArray, ?_, _, rfl, h⟩
  have := ha.get t _ hv
  simp [results, hr, this, asAddr, run_loadVarA ht hs hl]

end Go.Eng
