/-
  The engine, part D: structs and slices that are built, append, conversions, function values, small ends.
  No condition: general lemmas over any program.
-/
import Derived.Test.YtmdhbgkmkmmmpaaEngC
namespace Go.Eng
open Go

variable {S S' : Nat → Prop} {w w' w1 w2 w3 : World} {P : Program} {r : Option Nat}

/-! ### what is built -/

def placesIs (P : Program) (t : TypeId) : Option (List (Nat × Nat)) :=
  match P.underlying t with
  | some (.struct fs) => fs.toList.mapM fun f => (P.info? f.type).map fun i => (f.offset, i.size)
  | _ => none

def fillR (place : Nat → Option (Nat × Nat)) : List Value → List (Nat × Value) → List Value
  | z, [] => z
  | z, (i, v) :: ps => match place i with
    | some (off, _) => fillR place (upd z off v.cells.toList) ps
    | none => z

def fillOk (place : Nat → Option (Nat × Nat)) (len : Nat) : List (Nat × Value) → Bool
  | [] => true
  | (i, v) :: ps => match place i with
    | some (off, sz) => Nat.beq v.cells.toList.length sz && Nat.ble (off + sz) len && fillOk place len ps
    | none => false

theorem zip_set (off : Nat) : ∀ (vs : List Value) (j : Nat) (cells : Array Value), off + j + vs.length ≤ cells.size →
    (vs.zipIdx j).foldl (fun cs (x : Value × Nat) => cs.setIfInBounds (off + x.2) x.1) cells = (upd cells.toList (off + j) vs).toArray
  | [], j, cells, h => by simp [upd]
  | v :: vs, j, cells, h => by
    simp only [List.zipIdx_cons, List.foldl_cons]
    rw [zip_set off vs (j + 1) _ (by simp at h ⊢; omega)]
    have hi : off + j < cells.size := by simp at h; omega
    apply Array.ext'
    simp only [upd, List.length_cons, Array.toList_setIfInBounds]
    have e1 : (cells.toList.set (off + j) v).take (off + (j + 1)) = cells.toList.take (off + j) ++ [v] := by
      rw [show off + (j + 1) = off + j + 1 by omega, List.take_succ_eq_append_getElem (by simpa using hi), List.take_set_of_le (Nat.le_refl _)]
      simp
    have e2 : (cells.toList.set (off + j) v).drop (off + (j + 1) + vs.length) = cells.toList.drop (off + j + (vs.length + 1)) := by
      rw [List.drop_set_of_lt (by omega)]
      congr 1; omega
    rw [e1, e2]; simp

theorem run_fill (place : Nat → Option (Nat × Nat)) : ∀ (ps : List (Nat × Value)) (z : List Value), fillOk place z.length ps = true →
    Instr.fill place z.toArray ps = some (fillR place z ps).toArray ∧ (fillR place z ps).length = z.length
  | [], z, _ => ⟨rfl, rfl⟩
  | (i, v) :: ps, z, h => by
    simp only [fillOk] at h
    cases hp : place i with
    | none => rw [hp] at h; cases h
    | some q =>
      obtain ⟨off, sz⟩ := q
      rw [hp] at h
      simp only [Bool.and_eq_true] at h
      obtain ⟨⟨h1, h2⟩, h3⟩ := h
      have h1 := Nat.eq_of_beq_eq_true h1
      have h2 := Nat.le_of_ble_eq_true h2
      have hl : (upd z off v.cells.toList).length = z.length := upd_length (by omega)
      have ih := run_fill place ps (upd z off v.cells.toList) (by rw [hl]; exact h3)
      simp only [Instr.fill, hp, fillR]
      have hs : v.cells.size = sz := by simpa using h1
      rw [if_neg (by simp [hs]; omega)]
      have e := zip_set off v.cells.toList 0 z.toArray (by simp at h1 ⊢; omega)
      have e' : v.cells.zipIdx.foldl (fun cs (x : Value × Nat) => cs.setIfInBounds (off + x.2) x.1) z.toArray = (upd z off v.cells.toList).toArray := by
        rw [← Array.foldl_toList]
        simpa using e
      refine ⟨?_, by rw [ih.2, hl]⟩
      rw [← ih.1]
      congr 1

def evps (L : List (Nat × Value)) : List (Nat × Operand) → Option (List (Nat × Value))
  | [] => some []
  | (i, x) :: xs => match evl L x, evps L xs with
    | some v, some vs => some ((i, v) :: vs)
    | _, _ => none

section ops
variable {n : Nat} {D : List Deferred} {L : List (Nat × Value)} {Q : Exit → Act → World → Prop} {ops : Array Oper} {todo : List Oper}
variable {d : Nat} {t t' ty : TypeId} {pos : String} {af : Array Edge} {x y : Operand} {u u' v : Value} {b o k : Nat} {i : Int} {ik : IntKind} {a : Act}

theorem Has.evps (h : Has n D L a) : ∀ {xs : List (Nat × Operand)} {vs : List (Nat × Value)}, evps L xs = some vs → xs.map (fun (i, x) => (i, a.eval x)) = vs
  | [], vs, e => by simp [Eng.evps] at e; subst e; rfl
  | (i, x) :: xs, vs, e => by
    simp only [Eng.evps] at e
    split at e
    · rename_i v vs' h1 h2
      simp at e; subst e
      simp [h.eval h1, h.evps h2]
    · exact absurd e (by simp)

theorem run_places {fs : List Field} {pl : List (Nat × Nat)} (h : (fs.mapM fun f => (P.info? f.type).map fun i => (f.offset, i.size)) = some pl) :
    (fs.mapM fun f => (do pure (f.offset, ← sizeOf f.type) : Sem (Nat × Nat))).run P w = .ok pl w := by
  induction fs generalizing pl with
  | nil => simp at h; subst h; rfl
  | cons f fs ih =>
    simp only [List.mapM_cons, Option.bind_eq_bind, Option.bind_eq_some_iff, Option.pure_def, Option.some.injEq] at h
    obtain ⟨q, hq, qs, hqs, rfl⟩ := h
    simp only [Option.map_eq_some_iff] at hq
    obtain ⟨ti, hti, rfl⟩ := hq
    have h1 : (do pure (f.offset, ← sizeOf f.type) : Sem (Nat × Nat)).run P w = .ok (f.offset, ti.size) w := by simp [sizeOf, run_typeInfo' hti]
    rw [List.mapM_cons, Sem.run_bind, h1]
    simp only [Result.andThen_ok]
    rw [Sem.run_bind, ih hqs]
    rfl

theorem OW.build {z : List Value} {ps : List (Nat × Value)} {xs : List (Nat × Operand)} {pl : List (Nat × Nat)} (hd : Nat.blt d n = true) (hp : placesIs P t = some pl) (hz : zeroIs P t = some (.agg z.toArray)) (hx : evps L xs = some ps)
    (hok : fillOk (fun i => pl[i]?) z.length ps = true) (h : OW P ops Q n D todo ((d, .agg (fillR (fun i => pl[i]?) z ps).toArray) :: L) w) :
    OW P ops Q n D (⟨some d, .build t xs.toArray, ty, pos, af, none⟩ :: todo) L w := by
  refine OW.value rfl rfl hd (fun a ha => ?_) h
  simp only [execOp]
  refine run_val ?_
  simp only [placesIs] at hp
  split at hp
  · rename_i fs h1
    simp only [zeroIs, Option.bind_eq_some_iff] at hz
    obtain ⟨ti, hi, hv⟩ := hz
    have hzero : (zeroValue t).run P w = .ok (.agg z.toArray) w := by simp [zeroValue, run_typeInfo' hi, hv]
    have hpl : (fs.mapM fun f => (do pure (f.offset, ← sizeOf f.type) : Sem (Nat × Nat))).run P w = .ok pl.toArray w := by
      have := run_places (w := w) hp
      rw [← Array.toArray_toList (xs := fs)]
      simp only [List.mapM_toArray]
      rw [show ∀ (s : Sem (List (Nat × Nat))), (List.toArray <$> s).run P w = (s.run P w).andThen fun l w => .ok l.toArray w from fun s => by simp, this]
      rfl
    have hf := (run_fill (fun i => pl[i]?) ps z hok).1
    have hps : (xs.toArray.map fun (i, x) => (i, a.eval x)) = ps.toArray := by rw [List.map_toArray]; rw [ha.evps hx]
    rw [hps]
    simp only [Instr.build, Sem.run_bind, hzero, run_underlying h1, hpl, Result.andThen_ok]
    simp only [Value.cells, List.getElem?_toArray]
    rw [hf]
    rfl
  · cases hp

/-- an array that is built -/
theorem OW.buildArr {z : List Value} {ps : List (Nat × Value)} {xs : List (Nat × Operand)} {len e sz : Nat} (hd : Nat.blt d n = true) (hp : arrIs P t = some (len, e, sz)) (hz : zeroIs P t = some (.agg z.toArray)) (hx : evps L xs = some ps)
    (hok : fillOk (fun i => some (i * sz, sz)) z.length ps = true) (h : OW P ops Q n D todo ((d, .agg (fillR (fun i => some (i * sz, sz)) z ps).toArray) :: L) w) :
    OW P ops Q n D (⟨some d, .build t xs.toArray, ty, pos, af, none⟩ :: todo) L w := by
  refine OW.value rfl rfl hd (fun a ha => ?_) h
  simp only [execOp]
  refine run_val ?_
  simp only [arrIs] at hp
  split at hp
  · rename_i n' e' h1
    simp only [Option.map_eq_some_iff, Prod.mk.injEq] at hp
    obtain ⟨tj, hj, rfl, rfl, rfl⟩ := hp
    simp only [zeroIs, Option.bind_eq_some_iff] at hz
    obtain ⟨ti, hi, hv⟩ := hz
    have hzero : (zeroValue t).run P w = .ok (.agg z.toArray) w := by simp [zeroValue, run_typeInfo' hi, hv]
    have hf := (run_fill (fun i => some (i * tj.size, tj.size)) ps z hok).1
    have hps : (xs.toArray.map fun (i, x) => (i, a.eval x)) = ps.toArray := by rw [List.map_toArray]; rw [ha.evps hx]
    rw [hps]
    simp only [Instr.build, Sem.run_bind, hzero, run_underlying h1, Result.andThen_ok, sizeOf, run_typeInfo' hj, Sem.run_pure]
    simp only [Value.cells]
    rw [hf]
    rfl
  · cases hp

/-- 'make' of one element's row: []T{x} -/
theorem OW.buildSlice {e sz len : Nat} {ps : List (Nat × Value)} {xs : List (Nat × Operand)} {z : Value} (hd : Nat.blt d n = true) (ht : elemIs P t = some (e, sz)) (hz : zeroIs P e = some z) (hzs : Nat.beq z.cells.toList.length sz = true) (hsz : Nat.blt 0 sz = true) (hx : evps L xs = some ps)
    (hle : Nat.ble (len * sz) 16777216 = true) (hok : fillOk (fun i => some (i * sz, sz)) (len * sz) ps = true)
    (h : ∀ b w', New w w' b (.cells (fillR (fun i => some (i * sz, sz)) ((List.range (len * sz)).map fun j => z.cells.toList.getD (j % sz) undef) ps).toArray e (0, 0)) →
      OW P ops Q n D todo ((d, .slice (some ⟨b, 0, none⟩) len len) :: L) w') :
    OW P ops Q n D (⟨some d, .buildSlice t len xs.toArray, ty, pos, af, none⟩ :: todo) L w := by
  refine OW.value (w' := w.alloc (.cells (fillR (fun i => some (i * sz, sz)) ((List.range (len * sz)).map fun j => z.cells.toList.getD (j % sz) undef) ps).toArray e (0, 0)))
    (v := .slice (some ⟨w.heap.size, 0, none⟩) len len) rfl rfl hd (fun a ha => ?_) (h _ _ (New.alloc _ _))
  simp only [execOp]
  refine run_val ?_
  simp only [elemIs] at ht
  split at ht
  · rename_i e' h1
    simp only [Option.map_eq_some_iff, Prod.mk.injEq] at ht
    obtain ⟨tj, hj, rfl, rfl⟩ := ht
    simp only [zeroIs, Option.bind_eq_some_iff] at hz
    obtain ⟨ti, hi, hv⟩ := hz
    rw [hj] at hi; cases hi
    have hzero : (zeroValue e').run P w = .ok z w := by simp [zeroValue, run_typeInfo' hj, hv]
    have hsz0 : 0 < tj.size := by simpa [Nat.blt_eq] using hsz
    have hzs' : z.cells.size = tj.size := by have := Nat.eq_of_beq_eq_true hzs; simpa using this
    have hle' := Nat.le_of_ble_eq_true hle
    have hps : (xs.toArray.map fun (i, x) => (i, a.eval x)) = ps.toArray := by rw [List.map_toArray]; rw [ha.evps hx]
    rw [hps]
    have hrow : (Array.range (len * tj.size)).map (fun j => z.cells[j % z.cells.size]!) = ((List.range (len * tj.size)).map fun j => z.cells.toList.getD (j % tj.size) undef).toArray := by
      apply Array.ext'
      simp only [Array.toList_map, Array.toList_range]
      apply List.map_congr_left
      intro j _
      rw [hzs']
      have hjl : j % tj.size < z.cells.size := by rw [hzs']; exact Nat.mod_lt _ hsz0
      simp [hjl, List.getD]
    have hf := (run_fill (fun i => some (i * tj.size, tj.size)) ps ((List.range (len * tj.size)).map fun j => z.cells.toList.getD (j % tj.size) undef) (by simpa using hok)).1
    simp only [Instr.buildSlice, Sem.run_bind, run_underlying h1, Result.andThen_ok, sizeOf, run_typeInfo' hj, Sem.run_pure]
    rw [if_neg (by omega)]
    by_cases hc : len * tj.size = 0
    · have hl0 : len = 0 := by rcases Nat.mul_eq_zero.1 hc with c | c <;> omega
      subst hl0
      simp only [Nat.zero_mul, List.range_zero, List.map_nil] at hf ⊢
      rw [if_pos trivial, Sem.run_bind, Sem.run_pure, Result.andThen_ok]
      have : (Array.range 0).map (fun j => (#[] : Array Value)[j % (#[] : Array Value).size]!) = ([] : List Value).toArray := by simp
      rw [this, hf]
      rfl
    · simp only [hc, if_false, Sem.run_bind, hzero, Result.andThen_ok, Sem.run_pure]
      rw [hrow, hf]
      rfl
  · cases ht

theorem OW.makeFunc {fn : Fn} {xs ys : List Operand} {us vs : List Value} (hd : Nat.blt d n = true) (hx : evls L xs = some us) (hy : evls L ys = some vs) (h : OW P ops Q n D todo ((d, .func fn us.toArray vs.toArray) :: L) w) :
    OW P ops Q n D (⟨some d, .makeFunc fn xs.toArray ys.toArray, ty, pos, af, none⟩ :: todo) L w := by
  refine OW.value rfl rfl hd (fun a ha => ?_) h
  simp only [execOp]
  refine run_val ?_
  simp [Instr.makeFunc, ha.evals hx, ha.evals hy]

theorem OW.makeMap (hd : Nat.blt d n = true) (h : ∀ b w', New w w' b (.map #[] 0) → OW P ops Q n D todo ((d, .map (some b)) :: L) w') :
    OW P ops Q n D (⟨some d, .makeMap t none, ty, pos, af, none⟩ :: todo) L w := by
  refine OW.value (w' := w.alloc (.map #[] 0)) (v := .map (some w.heap.size)) rfl rfl hd (fun a _ => ?_) (h _ _ (New.alloc _ _))
  simp only [execOp]
  exact run_val rfl

theorem OW.convertI {k k' : IntKind} (hd : Nat.blt d n = true) (hs : (P.underlying t).isSome = true) (ht : P.underlying t' = some (.int k')) (hx : evl L x = some (.int k i)) (hw : k'.wrap i = i)
    (h : OW P ops Q n D todo ((d, .int k' i) :: L) w) : OW P ops Q n D (⟨some d, .convert t t' x, ty, pos, af, none⟩ :: todo) L w :=
  OW.convertW hd hs ht hx (by rw [hw]; exact h)

theorem w_i8 {i : Int} (a : -128 ≤ i) (b : i < 128) : IntKind.i8.wrap i = i := wrap_id (by simp [IntKind.signed, IntKind.bits]; omega)
theorem w_i64 {i : Int} (a : -9223372036854775808 ≤ i) (b : i < 9223372036854775808) : IntKind.i64.wrap i = i := wrap_id (by simp [IntKind.signed, IntKind.bits]; omega)
theorem w_i32 {i : Int} (a : -2147483648 ≤ i) (b : i < 2147483648) : IntKind.i32.wrap i = i := wrap_id (by simp [IntKind.signed, IntKind.bits]; omega)
theorem w_u8 {i : Int} (a : 0 ≤ i) (b : i < 256) : IntKind.u8.wrap i = i := wrap_id (by simp [IntKind.signed, IntKind.bits]; omega)
theorem w_u16 {i : Int} (a : 0 ≤ i) (b : i < 65536) : IntKind.u16.wrap i = i := wrap_id (by simp [IntKind.signed, IntKind.bits]; omega)
theorem w_u32 {i : Int} (a : 0 ≤ i) (b : i < 4294967296) : IntKind.u32.wrap i = i := wrap_id (by simp [IntKind.signed, IntKind.bits]; omega)
theorem w_u64 {i : Int} (a : 0 ≤ i) (b : i < 18446744073709551616) : IntKind.u64.wrap i = i := wrap_id (by simp [IntKind.signed, IntKind.bits]; omega)

theorem OW.nilCheck {p : Addr} (hd : Nat.blt d n = true) (hx : evl L x = some (.pointer (some p))) (h : OW P ops Q n D todo ((d, .pointer (some p)) :: L) w) :
    OW P ops Q n D (⟨some d, .nilCheck x, ty, pos, af, none⟩ :: todo) L w := by
  refine OW.value rfl rfl hd (fun a ha => ?_) h
  simp only [execOp, ha.eval hx]
  rfl

theorem OW.nilCheckN {p : Addr} (hx : evl L x = some (.pointer (some p))) (h : OW P ops Q n D todo L w) :
    OW P ops Q n D (⟨none, .nilCheck x, ty, pos, af, none⟩ :: todo) L w := by
  intro a ha
  simp only [wpL]
  rw [if_pos (by simp [Region.wanted])]
  refine ⟨fun _ _ => trivial, ?_⟩
  have : (execOp a.eval ⟨none, .nilCheck x, ty, pos, af, none⟩).run P w = .ok (.value (.pointer (some p))) w := by simp only [execOp, ha.eval hx]; rfl
  show Oper.uponIn _ _ _ _ _ _ _ ((Oper.semAt none a.eval _).run P w)
  rw [Oper.semAt_none, this]
  exact h _ ha

/-- a slice held against nil -/
theorem OW.eqlNil {p : Option Addr} {len cap e : Nat} (hd : Nat.blt d n = true) (ht : P.underlying t = some (.slice e)) (hx : evl L x = some (.slice p len cap)) (hy : evl L y = some (.slice none 0 0))
    (h : OW P ops Q n D todo ((d, .bool p.isNone) :: L) w) : OW P ops Q n D (⟨some d, .binOp .eql t x y t', ty, pos, af, none⟩ :: todo) L w :=
  OW.bin hd hx hy (by
    have : (Op.equal t (.slice p len cap) (.slice none 0 0)).run P w = .ok p.isNone w := by
      show (Op.equalIn (9999 + 1) t (.slice p len cap) (.slice none 0 0)).run P w = _
      rw [Op.equalIn]
      cases p <;> simp [run_underlying ht]
    cases p <;> simp [eqGuard, binOp, this]) h

end ops

/-! ### rows that a call owns, and append -/

def apdIs (P : Program) (t : TypeId) : Option (TypeId × Nat × Nat) :=
  match P.underlying t with
  | some (.slice e) => match P.info? e with
    | some i => match i.zero with
      | some z => if z.cells.size = i.size ∧ 0 < i.size then some (e, i.size, i.bytes) else none
      | none => none
    | none => none
  | _ => none

/-- a slice of n elements (of sz cells each) that holds these cells, at the head of a block that nobody else writes -/
def Own (w : World) (e sz : Nat) (v : Value) (n : Nat) (xs : List Value) : Prop := w.ownsRow 0 e sz v n xs

theorem Own.nil (w : World) (e sz : Nat) : Own w e sz (.slice none 0 0) 0 [] := World.ownsRow_nil w 0 e sz

theorem Own.length {e sz n : Nat} {v : Value} {xs : List Value} (h : Own w e sz v n xs) : xs.length = n * sz := h.1

theorem Own.frame {e sz n : Nat} {v : Value} {xs : List Value} (h : Own w e sz v n xs) (f : Fr S w w') (hs : ∀ k, v.ownBlock = some k → ¬ S k) : Own w' e sz v n xs := by
  refine ⟨h.1, ?_⟩
  rcases h.2 with ⟨h1, h2⟩ | ⟨g, cap, cur, hv, hg, hh, r⟩
  · exact .inl ⟨h1, h2⟩
  · exact .inr ⟨g, cap, cur, hv, hg, f.here hh (hs g (by rw [hv]; rfl)), r⟩

theorem Own.lt {e sz n k : Nat} {v : Value} {xs : List Value} (h : Own w e sz v n xs) (hk : v.ownBlock = some k) : k < w.heap.size := by
  rcases h.2 with ⟨h1, _⟩ | ⟨g, cap, cur, hv, hg, hh, r⟩
  · subst h1; cases hk
  · subst hv; cases hk; exact lt_of_here hh

/-- how it lies -/
theorem Own.shape {e sz n : Nat} {v : Value} {xs : List Value} (h : Own w e sz v n xs) :
    (v = .slice none 0 0 ∧ n = 0 ∧ xs = []) ∨ ∃ b cap, v = .slice (some ⟨b, 0, none⟩) n cap ∧ n ≤ cap ∧ Seg w b 0 xs ∧ b < w.heap.size := by
  rcases h.2 with ⟨h1, h2⟩ | ⟨g, cap, cur, hv, hg, hh, hn, hc, hz, ht⟩
  · refine .inl ⟨h1, h2, List.eq_nil_of_length_eq_zero ?_⟩
    rw [h.1, h2, Nat.zero_mul]
  · refine .inr ⟨g, cap, hv, hn, ?_, lt_of_here hh⟩
    intro j v e
    have hj : j < n * sz := by
      rcases Nat.lt_or_ge j xs.length with c | c
      · rw [h.1] at c; exact c
      · rw [List.getElem?_eq_none c] at e; cases e
    rw [← ht, List.getElem?_take_of_lt hj] at e
    simp only [World.cell?, hh, Nat.zero_add]
    simpa using e

theorem run_append {t e sz by' n m c b o : Nat} {v : Value} {xs news : List Value} (ha : apdIs P t = some (e, sz, by')) (hown : Own w e sz v n xs) (hl : news.length = m * sz) (hs : Seg w b o news)
    (h1 : ∀ u ∈ news, u.oneCell' = true) (hb : (n + m) * by' ≤ 140737488355328) (h63 : n + m ≤ 140737488355328) (ty : TypeId) :
    ∃ v' w', (Builtin.append_ #[t, t] ty #[v, .slice (some ⟨b, o, none⟩) m c]).run P w = .ok v' w' ∧ Own w' e sz v' (n + m) (xs ++ news) ∧ Fr (fun k => v.ownBlock = some k) w w' ∧
      (∀ k, v'.ownBlock = some k → v.ownBlock = some k ∨ w.heap.size ≤ k) := by
  simp only [apdIs] at ha
  split at ha
  rotate_left
  · cases ha
  rename_i e' ht
  split at ha
  rotate_left
  · cases ha
  rename_i i hi
  split at ha
  rotate_left
  · cases ha
  rename_i z hz
  split at ha
  rotate_left
  · cases ha
  rename_i hc
  simp only [Option.some.injEq, Prod.mk.injEq] at ha
  obtain ⟨rfl, rfl, rfl⟩ := ha
  obtain ⟨hzs, hsz⟩ := hc
  have hnews : ∀ j u, news[j]? = some u → w.cell? ((⟨b, o, none⟩ : Addr).add j) = some u := fun j u e => by rw [add_none]; exact hs j u e
  obtain ⟨v', w', hr, h2, h3, _⟩ := run_append_own (P := P) w 0 t ty e' i z i.size i.bytes ht hi hz rfl rfl hzs hsz v n xs hown ⟨b, o, none⟩ m c news hl hnews h1 (by unfold maxLen; omega) hb (Nat.zero_le _)
  refine ⟨v', w', hr, h2, (Fr.of_grown h3).mono (fun k _ h => h), ?_⟩
  -- where the new row lies
  intro k hk
  have hsmall : n + m ≤ 9223372036854775807 := by omega
  rcases hown.2 with ⟨rfl, rfl⟩ | ⟨g, cap, cur, rfl, hbg, hg, hnc, hcm, hcs, htake⟩
  · by_cases hm : m = 0
    · subst hm
      have hn : news = [] := List.eq_nil_of_length_eq_zero (by simpa using hl)
      subst hn
      have : (Builtin.append_ #[t, t] ty #[.slice none 0 0, .slice (some ⟨b, o, none⟩) 0 c]).run P w = .ok (.slice none 0 0) w := by
        simp [Builtin.append_, run_underlying ht, sizeOf, typeInfo, hi, Builtin.lenOf, Builtin.firstCells, loadCells, loadCellsFrom]
      rw [this] at hr
      simp only [Result.ok.injEq] at hr
      rw [← hr.1] at hk; cases hk
    · have hr' := run_append_nil (P := P) w t ty e' i z ht hi hz ⟨b, o, none⟩ m c news hl hnews (by omega) (by omega) (by have hb := hb; simp only [Nat.zero_add] at hb; omega)
      rw [hr'] at hr
      simp only [Result.ok.injEq] at hr
      rw [← hr.1] at hk
      cases hk
      exact .inr (Nat.le_refl _)
  · by_cases hroom : n + m ≤ cap
    · have hfit : n * i.size + news.length ≤ cur.size := by rw [hl, hcs, ← Nat.add_mul]; exact Nat.mul_le_mul_right _ hroom
      have hr' := run_append_room (P := P) w t ty e' i ht hi g n cap cur hg ⟨b, o, none⟩ m c news hl hnews h1 hroom hfit
      rw [hr'] at hr
      simp only [Result.ok.injEq] at hr
      rw [← hr.1] at hk
      exact .inl hk
    · have holds : ∀ j u, xs[j]? = some u → w.cell? ((⟨g, 0, none⟩ : Addr).add j) = some u := World.ownsRow.cells (g := g) hown rfl
      have hr' := run_append_grow (P := P) w t ty e' i z ht hi hz ⟨g, 0, none⟩ n cap xs hown.1 holds ⟨b, o, none⟩ m c news hl hnews (by omega) (by omega) (growslice_fits (by omega) hb)
      rw [hr'] at hr
      simp only [Result.ok.injEq] at hr
      rw [← hr.1] at hk
      cases hk
      exact .inr (Nat.le_refl _)

section ops
variable {n : Nat} {D : List Deferred} {L : List (Nat × Value)} {Q : Exit → Act → World → Prop} {ops : Array Oper} {todo : List Oper}
variable {d : Nat} {t t' ty : TypeId} {pos : String} {af : Array Edge} {x y : Operand} {u u' v : Value} {b o k : Nat} {i : Int} {ik : IntKind} {a : Act}

theorem OW.append {e sz by' len m c : Nat} {xs news : List Value} (hd : Nat.blt d n = true) (ht : apdIs P t = some (e, sz, by')) (hx : evl L x = some v) (hy : evl L y = some (.slice (some ⟨b, o, none⟩) m c))
    (hown : Own w e sz v len xs) (hs : Seg w b o news) (hl : news.length = m * sz) (h1 : ∀ u ∈ news, u.oneCell' = true) (hb : (len + m) * by' ≤ 140737488355328) (h63 : len + m ≤ 140737488355328)
    (h : ∀ v' w', Own w' e sz v' (len + m) (xs ++ news) → Fr (fun k => v.ownBlock = some k) w w' → (∀ k, v'.ownBlock = some k → v.ownBlock = some k ∨ w.heap.size ≤ k) → OW P ops Q n D todo ((d, v') :: L) w') :
    OW P ops Q n D (⟨some d, .call ⟨.builtin .append, #[x, y], #[t, t]⟩, ty, pos, af, none⟩ :: todo) L w := by
  obtain ⟨v', w', hr, h2, h3, h4⟩ := run_append (c := c) ht hown hl hs h1 hb h63 ty
  refine OW.value rfl rfl hd (fun a ha => ?_) (h v' w' h2 h3 h4)
  simp only [execOp, resolve, Sem.run_bind, Sem.run_pure, Result.andThen_ok, invoke, builtin]
  simp only [List.map_toArray, List.map_cons, List.map_nil, ha.eval hx, ha.eval hy, hr]
  rfl

/-- append of a slice that is nil -/
theorem OW.appendNil {e sz by' len cap : Nat} {p : Option Addr} (hd : Nat.blt d n = true) (ht : apdIs P t = some (e, sz, by')) (hx : evl L x = some (.slice p len cap)) (hlc : len ≤ cap) (hy : evl L y = some (.slice none 0 0))
    (h : OW P ops Q n D todo ((d, .slice p len cap) :: L) w) :
    OW P ops Q n D (⟨some d, .call ⟨.builtin .append, #[x, y], #[t, t]⟩, ty, pos, af, none⟩ :: todo) L w := by
  refine OW.value rfl rfl hd (fun a ha => ?_) h
  simp only [execOp, resolve, Sem.run_bind, Sem.run_pure, Result.andThen_ok, invoke, builtin]
  simp only [List.map_toArray, List.map_cons, List.map_nil, ha.eval hx, ha.eval hy]
  have : (Builtin.append_ #[t, t] ty #[.slice p len cap, .slice none 0 0]).run P w = .ok (.slice p len cap) w := by
    simp only [apdIs] at ht
    split at ht
    rotate_left
    · cases ht
    rename_i e' h1
    split at ht
    rotate_left
    · cases ht
    rename_i i hi
    cases p <;> simp [Builtin.append_, run_underlying h1, sizeOf, typeInfo, hi, Builtin.lenOf, Builtin.firstCells, hlc, storeCells]
  rw [this]; rfl

end ops

end Go.Eng
