/-
  From the reading of an argument, as a row has it, to the data of the walks.
  No condition: general lemmas over any program.
-/
import Derived.Test.YtmdhbgkmkmmmpaaDat
import Derived.SizedLaws
import Derived.ProofKit
namespace Go.Eng
open Go

theorem mapM_some {α β : Type} {f : α → Option β} : ∀ {l : List α} {r : List β}, l.mapM f = some r → r.length = l.length ∧ ∀ (i : Nat) (x : α), l[i]? = some x → ∃ y, f x = some y ∧ r[i]? = some y
  | [], r, h => by simp at h; subst h; exact ⟨rfl, fun i x e => by simp at e⟩
  | a :: l, r, h => by
    simp only [List.mapM_cons, Option.bind_eq_bind, Option.bind_eq_some_iff, Option.pure_def, Option.some.injEq] at h
    obtain ⟨y, hy, ys, hys, rfl⟩ := h
    obtain ⟨h1, h2⟩ := mapM_some hys
    refine ⟨by simp [h1], fun i x e => ?_⟩
    cases i with
    | zero => simp at e; subst e; exact ⟨y, hy, rfl⟩
    | succ i => simpa using h2 i x (by simpa using e)

variable {P : Program} {H : Type} {enc : TypeId × Value → H} {w : World}

/-- a reading at type t gives data of this kind -/
def Opens {α : Type} (enc : TypeId × Value → H) (P : Program) (w : World) (t : TypeId) (R : Rep α) : Prop :=
  ∀ fuel cs d ps, DataW.trod enc P w 0 (fun _ => true) true fuel t cs = some (d, ps) → (∀ n ∈ d.weights P t, n ≤ reachBytes) → ∃ x, R (fun k => k < w.heap.size) w cs x

theorem cells_seg {b o k : Nat} {cs : List Value} (h : w.cells? 0 ⟨b, o, none⟩ k = some cs) : cs.length = k ∧ Seg w b o cs := by
  simp only [World.cells?, Nat.zero_le, if_true] at h
  obtain ⟨h1, h2⟩ := mapM_some h
  simp only [List.length_range] at h1
  refine ⟨h1, fun j v e => ?_⟩
  have hj : j < k := by
    rcases Nat.lt_or_ge j k with c | c
    · exact c
    · rw [List.getElem?_eq_none (by omega)] at e; cases e
  obtain ⟨y, hy, hr⟩ := h2 j j (by simp [hj])
  rw [hr] at e; cases e
  rw [add_none] at hy; exact hy

theorem weightsAll_mem {e : TypeId} : ∀ {ds : List (DataW H)} {i : Nat} {d : DataW H}, ds[i]? = some d → ∀ n ∈ d.weights P e, n ∈ DataW.weightsAll P e ds
  | [], i, d, h, n, hn => by simp at h
  | x :: ds, 0, d, h, n, hn => by simp at h; subst h; simp only [DataW.weightsAll, List.mem_append]; exact .inl hn
  | x :: ds, i + 1, d, h, n, hn => by simp only [DataW.weightsAll, List.mem_append]; exact .inr (weightsAll_mem (by simpa using h) n hn)

/-- one choice for each of a row -/
theorem choose_row {α : Type} {n : Nat} {p : Nat → α → Prop} (h : ∀ i, i < n → ∃ x, p i x) : ∃ xs : List α, xs.length = n ∧ ∀ i x, xs[i]? = some x → p i x := by
  induction n with
  | zero => exact ⟨[], rfl, fun i x e => by simp at e⟩
  | succ n ih =>
    obtain ⟨xs, h1, h2⟩ := ih (fun i hi => h i (by omega))
    obtain ⟨x, hx⟩ := h n (by omega)
    refine ⟨xs ++ [x], by simp [h1], fun i y e => ?_⟩
    rcases Nat.lt_or_ge i n with c | c
    · exact h2 i y (by rwa [List.getElem?_append_left (by omega)] at e)
    · have : i = n := by
        rcases Nat.lt_or_ge n i with c2 | c2
        · rw [List.getElem?_eq_none (by simp; omega)] at e; cases e
        · omega
      subst this
      rw [List.getElem?_append_right (by omega)] at e
      simp [h1] at e; subst e; exact hx

theorem Opens.slice {α : Type} {t e sz : Nat} {R : Rep α} (ht : P.underlying t = some (.slice e)) (hs : P.cellsOf e = sz) (hsz : 0 < sz) (hby : 0 < P.bytesOf e) (h : Opens enc P w e R) :
    Opens enc P w t (rowR sz R) := by
  intro fuel cs d ps hr hw
  cases fuel with
  | zero => simp [DataW.trod] at hr
  | succ fuel =>
    simp only [DataW.trod, ht] at hr
    split at hr
    case h_7 =>
      exact ⟨[], _, rfl, .inl ⟨none, 0, rfl, rfl⟩⟩
    case h_8 =>
      rename_i e' a len cap h1
      simp only [Option.some.injEq, TypeDesc.slice.injEq] at h1
      subst h1
      split at hr
      rotate_left
      · cases hr
      rename_i hc
      simp only [if_true, Option.bind_eq_some_iff, Option.map_eq_some_iff] at hr
      obtain ⟨elems, he, rest, hrest, hd⟩ := hr
      simp only [Prod.mk.injEq] at hd
      obtain ⟨rfl, rfl⟩ := hd
      obtain ⟨he1, he2⟩ := mapM_some he
      obtain ⟨hr1, _⟩ := mapM_some hrest
      simp only [List.length_range] at he1 hr1
      have hbound : len ≤ 140737488355328 := by
        have := hw ((len + (cap - len)) * P.bytesOf e) (by simp [DataW.weights, ht, he1, hr1])
        simp only [reachBytes] at this
        have h1 : len ≤ (len + (cap - len)) * P.bytesOf e := Nat.le_trans (by omega) (Nat.le_mul_of_pos_right _ hby)
        omega
      by_cases h0 : len = 0
      · subst h0; exact ⟨[], _, rfl, .inl ⟨_, _, rfl, rfl⟩⟩
      · have hat : ∀ i, i < len → ∃ y, (w.cells? 0 (a.add (i * P.cellsOf e)) (P.cellsOf e)).bind (DataW.trod enc P w 0 (fun _ => true) true fuel e) = some y ∧ elems[i]? = some y :=
          fun i hi => he2 i i (by simp [hi])
        obtain ⟨b, o, sp⟩ := a
        have hsp : sp = none := by
          obtain ⟨y, hy, _⟩ := hat 0 (by omega)
          simp only [Option.bind_eq_some_iff] at hy
          obtain ⟨c, hc0, _⟩ := hy
          simp only [World.cells?, Nat.zero_le, if_true, Nat.zero_mul] at hc0
          obtain ⟨_, hm⟩ := mapM_some hc0
          obtain ⟨y, hy, _⟩ := hm 0 0 (by simp [hs, hsz])
          simp only [Addr.add, if_true] at hy
          simp only [World.cell?] at hy
          split at hy
          · cases sp with
            | none => rfl
            | some s => simp at hy
          · cases hy
        subst hsp
        have hrow : ∀ i, i < len → ∃ x : α, ∃ c, Seg w b (o + i * sz) c ∧ R (fun k => k < w.heap.size) w c x := by
          intro i hi
          obtain ⟨y, hy, hel⟩ := hat i hi
          simp only [Option.bind_eq_some_iff] at hy
          obtain ⟨c, hc1, hc2⟩ := hy
          rw [add_none, hs] at hc1
          obtain ⟨_, hseg⟩ := cells_seg hc1
          obtain ⟨d', ps'⟩ := y
          obtain ⟨x, hx⟩ := h fuel c d' ps' hc2 (fun n hn => hw n (by
            simp only [DataW.weights, ht, List.mem_cons, List.mem_append]
            exact .inr (.inl (weightsAll_mem (i := i) (by simp [hel]) n hn))))
          exact ⟨x, c, hseg, hx⟩
        obtain ⟨xs, hx1, hx2⟩ := choose_row hrow
        have hb : b < w.heap.size := by
          obtain ⟨y, hy, _⟩ := hat 0 (by omega)
          simp only [Option.bind_eq_some_iff] at hy
          obtain ⟨c, hc1, _⟩ := hy
          rw [add_none, hs] at hc1
          obtain ⟨hl, hseg⟩ := cells_seg hc1
          cases c with
          | nil => simp at hl; omega
          | cons v c => exact lt_of_cell (hseg 0 v rfl)
        subst hx1
        exact ⟨xs, _, rfl, .inr ⟨b, o, cap, rfl, hb, hb, hc.2.1, hbound, fun i x e => hx2 i x e⟩⟩
    all_goals first | (cases hr; done) | (rename_i hq; cases hq; done)

/-- a whole number in one cell -/
def intR (k : IntKind) : Rep Int := fun _ _ cs n => cs = [.int k n] ∧ (Lit.int k n).wf = true
def boolR : Rep Bool := fun _ _ cs b => cs = [.bool b]

theorem Opens.int {t : TypeId} {k : IntKind} (ht : P.underlying t = some (.int k)) : Opens enc P w t (intR k) := by
  intro fuel cs d ps hr hw
  cases fuel with
  | zero => simp [DataW.trod] at hr
  | succ fuel =>
    simp only [DataW.trod, ht] at hr
    split at hr
    case h_2 =>
      rename_i k0 k' n hk
      simp only [Option.some.injEq, TypeDesc.int.injEq] at hk
      subst hk
      split at hr
      · rename_i hc
        obtain ⟨rfl, hwf⟩ := hc
        exact ⟨n, rfl, hwf⟩
      · cases hr
    all_goals first | (cases hr; done) | (rename_i hq; cases hq; done)

theorem Opens.bool {t : TypeId} (ht : P.underlying t = some .bool) : Opens enc P w t boolR := by
  intro fuel cs d ps hr hw
  cases fuel with
  | zero => simp [DataW.trod] at hr
  | succ fuel =>
    simp only [DataW.trod, ht] at hr
    split at hr
    case h_1 => rename_i b _; exact ⟨b, rfl⟩
    all_goals first | (cases hr; done) | (rename_i hq; cases hq; done)

theorem wf_bounds {k : IntKind} {n : Int} (h : (Lit.int k n).wf = true) : k.min ≤ n ∧ n ≤ k.max := by
  simpa [Lit.wf] using h

/-- the fields of a struct: type, place, size -/
def fieldsIs (P : Program) (t : TypeId) : Option (List (TypeId × Nat × Nat)) :=
  match P.underlying t with
  | some (.struct fs) => some (fs.toList.map fun f => (f.type, f.offset, P.cellsOf f.type))
  | _ => none

theorem weightsEach_mem {ts : List TypeId} {ds : List (DataW H)} {j : Nat} {t : TypeId} {d : DataW H} (ht : ts[j]? = some t) (hd : ds[j]? = some d) : ∀ n ∈ d.weights P t, n ∈ DataW.weightsEach P ts ds :=
  DataW.weights_mem_each ht hd

theorem open_struct {t fuel : Nat} {cs : List Value} {d : DataW H} {ps : List MemPlace} {fl : List (TypeId × Nat × Nat)} (hf : fieldsIs P t = some fl)
    (hr : DataW.trod enc P w 0 (fun _ => true) true fuel t cs = some (d, ps)) (hw : ∀ n ∈ d.weights P t, n ≤ reachBytes) :
    cs.length = P.cellsOf t ∧ ∃ fuel', ∀ (j ty off sz : Nat), fl[j]? = some (ty, off, sz) → ∃ d' ps', DataW.trod enc P w 0 (fun _ => true) true fuel' ty ((cs.drop off).take sz) = some (d', ps') ∧ ∀ n ∈ d'.weights P ty, n ≤ reachBytes := by
  cases fuel with
  | zero => simp [DataW.trod] at hr
  | succ fuel =>
    simp only [fieldsIs] at hf
    split at hf
    rotate_left
    · cases hf
    rename_i fs ht
    simp only [Option.some.injEq] at hf
    subst hf
    simp only [DataW.trod, ht] at hr
    split at hr
    rotate_left
    · cases hr
    · rename_i hl
      simp only [Option.map_eq_some_iff] at hr
      obtain ⟨xs, hxs, hd⟩ := hr
      simp only [Prod.mk.injEq] at hd
      obtain ⟨rfl, rfl⟩ := hd
      obtain ⟨h1, h2⟩ := mapM_some hxs
      refine ⟨hl, fuel, fun j ty off sz e => ?_⟩
      simp only [List.getElem?_map, Option.map_eq_some_iff] at e
      obtain ⟨f, hfj, he⟩ := e
      simp only [Prod.mk.injEq] at he
      obtain ⟨rfl, rfl, rfl⟩ := he
      obtain ⟨y, hy, hyr⟩ := h2 j f hfj
      refine ⟨y.1, y.2, hy, fun n hn => hw n ?_⟩
      simp only [DataW.weights, ht]
      exact weightsEach_mem (j := j) (by simp [hfj]) (by simp [hyr]) n hn

theorem open_array {t fuel len e : Nat} {cs : List Value} {d : DataW H} {ps : List MemPlace} (ht : P.underlying t = some (.array len e))
    (hr : DataW.trod enc P w 0 (fun _ => true) true fuel t cs = some (d, ps)) (hw : ∀ n ∈ d.weights P t, n ≤ reachBytes) :
    cs.length = P.cellsOf t ∧ ∃ fuel', ∀ j, j < len → ∃ d' ps', DataW.trod enc P w 0 (fun _ => true) true fuel' e ((cs.drop (j * P.cellsOf e)).take (P.cellsOf e)) = some (d', ps') ∧ ∀ n ∈ d'.weights P e, n ≤ reachBytes := by
  cases fuel with
  | zero => simp [DataW.trod] at hr
  | succ fuel =>
    simp only [DataW.trod, ht] at hr
    split at hr
    rotate_left
    · cases hr
    · rename_i hl
      simp only [Option.map_eq_some_iff] at hr
      obtain ⟨xs, hxs, hd⟩ := hr
      simp only [Prod.mk.injEq] at hd
      obtain ⟨rfl, rfl⟩ := hd
      obtain ⟨h1, h2⟩ := mapM_some hxs
      refine ⟨hl, fuel, fun j hj => ?_⟩
      obtain ⟨y, hy, hyr⟩ := h2 j j (by simp [hj])
      refine ⟨y.1, y.2, hy, fun n hn => hw n ?_⟩
      simp only [DataW.weights, ht]
      exact weightsAll_mem (i := j) (by simp [hyr]) n hn

def hdrR : Rep Hdr := fun _ _ cs h => cs = h.cells ∧ h.wf

theorem list11 {cs : List Value} {h : Hdr} (hl : cs.length = 11) (hc : ∀ i : Fin 11, cs[i.val]? = some (.int .u64 (h i))) : cs = h.cells := by
  apply List.ext_getElem?
  intro j
  rcases Nat.lt_or_ge j 11 with c | c
  · rw [hc ⟨j, c⟩]
    have : j = 0 ∨ j = 1 ∨ j = 2 ∨ j = 3 ∨ j = 4 ∨ j = 5 ∨ j = 6 ∨ j = 7 ∨ j = 8 ∨ j = 9 ∨ j = 10 := by omega
    rcases this with rfl | rfl | rfl | rfl | rfl | rfl | rfl | rfl | rfl | rfl | rfl <;> rfl
  · rw [List.getElem?_eq_none (by omega), List.getElem?_eq_none (by simp [Hdr.cells]; omega)]

theorem Opens.hdr {t e : TypeId} (ht : P.underlying t = some (.array 11 e)) (hl : P.cellsOf t = 11) (he : P.underlying e = some (.int .u64)) (h1 : P.cellsOf e = 1) : Opens enc P w t hdrR := by
  intro fuel cs d ps hr hw
  obtain ⟨hlen, fuel', hel⟩ := open_array ht hr hw
  have key : ∀ i : Fin 11, ∃ q : Nat, cs[i.val]? = some (.int .u64 q) ∧ q < 18446744073709551616 := by
    intro i
    obtain ⟨d', ps', h2, h3⟩ := hel i.val i.isLt
    obtain ⟨x, hx, hwf⟩ := Opens.int (enc := enc) (w := w) he fuel' _ d' ps' h2 h3
    rw [h1, Nat.mul_one] at hx
    have hi : i.val < cs.length := by rw [hlen, hl]; exact i.isLt
    have : cs[i.val]? = some (.int .u64 x) := by
      have h := congrArg (fun l => l[0]?) hx
      simpa [List.getElem?_take, List.getElem?_drop] using h
    have hb : 0 ≤ x ∧ x < 18446744073709551616 := by
      have := wf_bounds hwf
      have e1 : IntKind.u64.min = 0 := by decide
      have e2 : IntKind.u64.max = 18446744073709551615 := by decide
      omega
    exact ⟨x.toNat, by rw [this]; simp; omega, by omega⟩
  refine ⟨fun i => (key i).choose, list11 (by rw [hlen, hl]) (fun i => (key i).choose_spec.1), fun i => (key i).choose_spec.2⟩

def matR : Rep Mat := fun _ _ cs m => cs = m.cells ∧ m.wf

theorem drop_take_app {cs : List Value} (a b : Nat) : (cs.drop a).take b ++ cs.drop (a + b) = cs.drop a := by
  rw [← List.drop_drop]; exact List.take_append_drop _ _

theorem Opens.mat {t th : TypeId} (hf : fieldsIs P t = some [(th, 0, 11), (th, 11, 11)]) (hl : P.cellsOf t = 22) (hh : Opens enc P w th hdrR) : Opens enc P w t matR := by
  intro fuel cs d ps hr hw
  obtain ⟨hlen, fuel', hel⟩ := open_struct hf hr hw
  obtain ⟨d1, p1, r1, w1⟩ := hel 0 _ _ _ rfl
  obtain ⟨d2, p2, r2, w2⟩ := hel 1 _ _ _ rfl
  obtain ⟨v, hv, hvw⟩ := hh _ _ _ _ r1 w1
  obtain ⟨m, hm, hmw⟩ := hh _ _ _ _ r2 w2
  refine ⟨⟨v, m⟩, ?_, hvw, hmw⟩
  have e : cs = (cs.drop 0).take 11 ++ ((cs.drop 11).take 11 ++ cs.drop 22) := by rw [drop_take_app, drop_take_app]; rfl
  rw [e, hv, hm, List.drop_of_length_le (by omega), List.append_nil]; rfl

theorem nat_u64 {n : Int} (h : (Lit.int .u64 n).wf = true) : ∃ q : Nat, n = q ∧ q < 18446744073709551616 := by
  have := wf_bounds h
  have e1 : IntKind.u64.min = 0 := by decide
  have e2 : IntKind.u64.max = 18446744073709551615 := by decide
  exact ⟨n.toNat, by omega, by omega⟩

theorem Opens.actn {t t8 t64 : TypeId} (hf : fieldsIs P t = some [(t8, 0, 1), (t8, 1, 1), (t64, 2, 1)]) (hl : P.cellsOf t = 3) (h8 : P.underlying t8 = some (.int .i8)) (h64 : P.underlying t64 = some (.int .u64)) : Opens enc P w t actR := by
  intro fuel cs d ps hr hw
  obtain ⟨hlen, fuel', hel⟩ := open_struct hf hr hw
  obtain ⟨d1, p1, r1, w1⟩ := hel 0 _ _ _ rfl
  obtain ⟨d2, p2, r2, w2⟩ := hel 1 _ _ _ rfl
  obtain ⟨d3, p3, r3, w3⟩ := hel 2 _ _ _ rfl
  obtain ⟨a, ha, hwa⟩ := Opens.int (enc := enc) (w := w) h8 _ _ _ _ r1 w1
  obtain ⟨b, hb, hwb⟩ := Opens.int (enc := enc) (w := w) h8 _ _ _ _ r2 w2
  obtain ⟨c, hc, hwc⟩ := Opens.int (enc := enc) (w := w) h64 _ _ _ _ r3 w3
  obtain ⟨q, rfl, hq⟩ := nat_u64 hwc
  have e1 : IntKind.i8.min = -128 := by decide
  have e2 : IntKind.i8.max = 127 := by decide
  have ba := wf_bounds hwa
  have bb := wf_bounds hwb
  refine ⟨⟨a, b, q⟩, ?_, by simp only; omega, by simp only; omega, by simp only; omega, by simp only; omega, hq⟩
  have e : cs = (cs.drop 0).take 1 ++ ((cs.drop 1).take 1 ++ ((cs.drop 2).take 1 ++ cs.drop 3)) := by rw [drop_take_app, drop_take_app, drop_take_app]; rfl
  rw [e, ha, hb, hc, List.drop_of_length_le (by omega)]; rfl

theorem Opens.rule {t t64 tm tc tu : TypeId} (hf : fieldsIs P t = some [(t64, 0, 1), (tm, 1, 22), (tc, 23, 1), (tu, 24, 1)]) (hl : P.cellsOf t = 25)
    (h64 : P.underlying t64 = some (.int .i64)) (hm : Opens enc P w tm matR) (hc : Opens enc P w tc (rowR 1 cpsR)) (hu : P.underlying tu = some (.int .u64)) : Opens enc P w t ruleR := by
  intro fuel cs d ps hr hw
  obtain ⟨hlen, fuel', hel⟩ := open_struct hf hr hw
  obtain ⟨d1, p1, r1, w1⟩ := hel 0 _ _ _ rfl
  obtain ⟨d2, p2, r2, w2⟩ := hel 1 _ _ _ rfl
  obtain ⟨d3, p3, r3, w3⟩ := hel 2 _ _ _ rfl
  obtain ⟨d4, p4, r4, w4⟩ := hel 3 _ _ _ rfl
  obtain ⟨a, ha, hwa⟩ := Opens.int (enc := enc) (w := w) h64 _ _ _ _ r1 w1
  obtain ⟨m, hm', hwm⟩ := hm _ _ _ _ r2 w2
  obtain ⟨c, cv, hc', hcs⟩ := hc _ _ _ _ r3 w3
  obtain ⟨k, hk, hwk⟩ := Opens.int (enc := enc) (w := w) hu _ _ _ _ r4 w4
  obtain ⟨q, rfl, hq⟩ := nat_u64 hwk
  have e1 : IntKind.i64.min = -9223372036854775808 := by decide
  have e2 : IntKind.i64.max = 9223372036854775807 := by decide
  have ba := wf_bounds hwa
  refine ⟨⟨a, m, c, q⟩, cv, ?_, hcs, by simp only; omega, by simp only; omega, hwm, hq⟩
  have e : cs = (cs.drop 0).take 1 ++ ((cs.drop 1).take 22 ++ ((cs.drop 23).take 1 ++ ((cs.drop 24).take 1 ++ cs.drop 25))) := by rw [drop_take_app, drop_take_app, drop_take_app, drop_take_app]; rfl
  rw [e, ha, hm', hc', hk, List.drop_of_length_le (by omega)]; rfl

theorem okWide_array {t n e : Nat} {w : World} {r : Reach} {base : Nat} {v : Value} (ht : P.underlying t = some (.array n e)) (h : Value.okWide P w r base t v) : ∃ cs, v = .agg cs := by
  simp only [Value.okWide, ht] at h
  obtain ⟨cs, h, _⟩ := h
  exact ⟨cs, h⟩

theorem okWide_struct' {t : Nat} {fs : Array Field} {w : World} {r : Reach} {base : Nat} {v : Value} (ht : P.underlying t = some (.struct fs)) (h : Value.okWide P w r base t v) : ∃ cs, v = .agg cs := by
  simp only [Value.okWide, ht] at h
  obtain ⟨cs, h, _⟩ := h
  exact ⟨cs, h⟩

/-- from an argument of several cells to its data -/
theorem open_agg {α : Type} {t : Nat} {R : Rep α} {cs : Array Value} {d : DataW H} {ps : List MemPlace} (h : Opens enc P w t R)
    (hr : DataW.Trod enc P w 0 (fun _ => true) true t (.agg cs) d ps) (hw : ∀ n ∈ d.weights P t, n ≤ reachBytes) : ∃ x, R (fun k => k < w.heap.size) w cs.toList x := by
  obtain ⟨fuel, hf⟩ := hr
  exact h fuel _ d ps hf hw

/-- from a slice in one cell to its value -/
theorem open_value {α : Type} {t sz : Nat} {R : Rep α} {v : Value} {d : DataW H} {ps : List MemPlace} (h : Opens enc P w t (rowR sz R)) (hv : v.cells = #[v])
    (hr : DataW.Trod enc P w 0 (fun _ => true) true t v d ps) (hw : ∀ n ∈ d.weights P t, n ≤ reachBytes) : ∃ xs, SlR sz R (fun k => k < w.heap.size) w v xs := by
  obtain ⟨fuel, hf⟩ := hr
  rw [hv] at hf
  obtain ⟨xs, v', he, hs⟩ := h fuel _ d ps hf hw
  simp at he; subst he
  exact ⟨xs, hs⟩

end Go.Eng
