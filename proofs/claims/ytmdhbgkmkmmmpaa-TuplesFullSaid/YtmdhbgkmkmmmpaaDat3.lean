/-
  Slices that a call owns, with what they hold; more operations on slices.
  No condition.
-/
import Derived.Test.YtmdhbgkmkmmmpaaDat2
import Derived.Test.YtmdhbgkmkmmmpaaEngJ
namespace Go.Eng
open Go

variable {P : Program} {Q : Exit → Act → World → Prop} {w w' : World} {n : Nat} {D : List Deferred} {L : List (Nat × Value)} {ops : Array Oper} {todo : List Oper}
variable {d : Nat} {t t' ty : TypeId} {pos : String} {af : Array Edge} {x y : Operand} {u u' v : Value} {b o k : Nat}

/-- append of a slice that holds nothing -/
theorem OW.append0 {e sz by' len cap c : Nat} {p q : Option Addr} (hd : Nat.blt d n = true) (ht : apdIs P t = some (e, sz, by')) (hx : evl L x = some (.slice p len cap)) (hlc : len ≤ cap) (hy : evl L y = some (.slice q 0 c))
    (h : OW P ops Q n D todo ((d, .slice p len cap) :: L) w) :
    OW P ops Q n D (⟨some d, .call ⟨.builtin .append, #[x, y], #[t, t]⟩, ty, pos, af, none⟩ :: todo) L w := by
  refine OW.value rfl rfl hd (fun a ha => ?_) h
  simp only [execOp, resolve, Sem.run_bind, Sem.run_pure, Result.andThen_ok, invoke, builtin]
  simp only [List.map_toArray, List.map_cons, List.map_nil, ha.eval hx, ha.eval hy]
  have : (Builtin.append_ #[t, t] ty #[.slice p len cap, .slice q 0 c]).run P w = .ok (.slice p len cap) w := by
    simp only [apdIs] at ht
    split at ht
    rotate_left
    · cases ht
    rename_i e' h1
    split at ht
    rotate_left
    · cases ht
    rename_i i hi
    cases p <;> cases q <;> simp [Builtin.append_, run_underlying h1, sizeOf, typeInfo, hi, Builtin.lenOf, Builtin.firstCells, hlc, storeCells, loadCells, loadCellsFrom]
  rw [this]; rfl

theorem fill1 {c z : List Value} {sz : Nat} {v : Value} (hv : v.cells.toList = c) (hc : c.length = z.length) : fillR (fun i => some (i * sz, sz)) z [(0, v)] = c := by
  simp only [fillR, hv, Nat.zero_mul, upd, List.take_zero, List.nil_append, Nat.zero_add, hc, List.drop_length, List.append_nil]

/-- a slice of one element -/
theorem OW.buildOne {e sz : Nat} {c : List Value} {z v : Value} (hd : Nat.blt d n = true) (ht : elemIs P t = some (e, sz)) (hz : zeroIs P e = some z) (hzs : Nat.beq z.cells.toList.length sz = true) (hsz : Nat.blt 0 sz = true) (hx : evl L x = some v)
    (hv : v.cells.toList = c) (hc : c.length = sz) (hle : Nat.ble sz 16777216 = true)
    (h : ∀ b w', New w w' b (.cells c.toArray e (0, 0)) → OW P ops Q n D todo ((d, .slice (some ⟨b, 0, none⟩) 1 1) :: L) w') :
    OW P ops Q n D (⟨some d, .buildSlice t 1 #[(0, x)], ty, pos, af, none⟩ :: todo) L w := by
  refine OW.buildSlice (ps := [(0, v)]) (xs := [(0, x)]) (z := z) hd ht hz hzs hsz (by simp [evps, hx]) (by rw [Nat.one_mul]; exact hle) ?_ fun b w' h1 => h b w' ?_
  · simp only [fillOk, hv, hc, Nat.zero_mul, Nat.zero_add, Nat.one_mul, Bool.and_true, Bool.and_eq_true]
    exact ⟨by simp, by simp⟩
  · rw [fill1 hv (by simp [hc])] at h1
    exact h1

theorem Seg.ofNew {c : List Value} {e : Nat} (h : New w w' b (.cells c.toArray e (0, 0))) : Seg w' b 0 c := Bk.seg (T := e) h.here

/-- an empty row that was just built -/
theorem Own.fresh {e sz : Nat} (h : New w w' b (.cells #[] e (0, 0))) : Own w' e sz (.slice (some ⟨b, 0, none⟩) 0 0) 0 [] :=
  ⟨by simp, .inr ⟨b, 0, #[], rfl, Nat.zero_le _, h.here, Nat.le_refl _, Nat.zero_le _, by simp, by simp⟩⟩

def catI : List (List Value) → List Value := catL id

theorem catI_len {sz : Nat} : ∀ {cs : List (List Value)}, (∀ c ∈ cs, c.length = sz) → (catI cs).length = cs.length * sz
  | [], _ => by simp [catI, catL]
  | c :: cs, h => by
    have := catI_len (cs := cs) fun d hd => h d (by simp [hd])
    simp only [catI, catL, id, List.length_append, List.length_cons] at this ⊢
    rw [h c (by simp), this, Nat.succ_mul, Nat.add_comm]

theorem catI_get {sz : Nat} : ∀ {cs : List (List Value)} {i : Nat} {c : List Value}, (∀ c ∈ cs, c.length = sz) → cs[i]? = some c → ∀ j v, c[j]? = some v → (catI cs)[i * sz + j]? = some v
  | [], i, c, _, e, _, _, _ => by simp at e
  | c0 :: cs, 0, c, h, e, j, v, hv => by
    simp at e; subst e
    have hj : j < c0.length := by
      rcases Nat.lt_or_ge j c0.length with g | g
      · exact g
      · rw [List.getElem?_eq_none g] at hv; cases hv
    simp only [catI, catL, id, Nat.zero_mul, Nat.zero_add]
    rw [List.getElem?_append_left hj]; exact hv
  | c0 :: cs, i + 1, c, h, e, j, v, hv => by
    have := catI_get (cs := cs) (i := i) (fun d hd => h d (by simp [hd])) (by simpa using e) j v hv
    simp only [catI, catL, id] at this ⊢
    rw [List.getElem?_append_right (by rw [h c0 (by simp), Nat.succ_mul]; omega), h c0 (by simp), show (i + 1) * sz + j - sz = i * sz + j by rw [Nat.succ_mul]; omega]
    exact this

/-- a slice that the call owns: its row and what its elements are -/
def OwnSl {α : Type} (e sz : Nat) (R : Rep α) (X : Nat → Prop) (w : World) (v : Value) (xs : List α) : Prop :=
  ∃ cs : List (List Value), Own w e sz v xs.length (catI cs) ∧ cs.length = xs.length ∧ (∀ c ∈ cs, c.length = sz) ∧ ∀ (i : Nat) (x : α) (c : List Value), xs[i]? = some x → cs[i]? = some c → R X w c x

section own
variable {α : Type} {R : Rep α} {sz e : Nat} {X X' S : Nat → Prop} {xs : List α}

theorem OwnSl.nil : OwnSl e sz R X w (.slice none 0 0) [] := ⟨[], Own.nil _ _ _, rfl, by simp, fun i x c h => by simp at h⟩

theorem OwnSl.frame (hR : R.Ok sz) (h : OwnSl e sz R X w v xs) (f : Fr S w w') (hs : ∀ k, v.ownBlock = some k → ¬ S k) (hx : ∀ k, X k → ¬ S k) : OwnSl e sz R X w' v xs := by
  obtain ⟨cs, h1, h2, h3, h4⟩ := h
  exact ⟨cs, h1.frame f hs, h2, h3, fun i x c hi hc => hR.frame (h4 i x c hi hc) f hx⟩

theorem OwnSl.mono (hR : R.Ok sz) (h : OwnSl e sz R X w v xs) (hx : ∀ k, X k → X' k) : OwnSl e sz R X' w v xs := by
  obtain ⟨cs, h1, h2, h3, h4⟩ := h
  exact ⟨cs, h1, h2, h3, fun i x c hi hc => hR.mono (h4 i x c hi hc) hx⟩

theorem OwnSl.lt (h : OwnSl e sz R X w v xs) {k : Nat} (hk : v.ownBlock = some k) : k < w.heap.size := by
  obtain ⟨cs, h1, _⟩ := h; exact h1.lt hk

/-- one more -/
theorem OwnSl.snoc (hR : R.Ok sz) {cs : List (List Value)} {c : List Value} {x : α} {v' : Value} (h2 : cs.length = xs.length) (h3 : ∀ c ∈ cs, c.length = sz)
    (h4 : ∀ (i : Nat) (x : α) (c : List Value), xs[i]? = some x → cs[i]? = some c → R X w' c x) (ho : Own w' e sz v' (xs.length + 1) (catI cs ++ c)) (hc : R X w' c x) : OwnSl e sz R X w' v' (xs ++ [x]) := by
  refine ⟨cs ++ [c], ?_, by simp [h2], fun q hq => ?_, fun i y q hy hq => ?_⟩
  · have e1 : catI (cs ++ [c]) = catI cs ++ c := by simp [catI, catL_app, catL]
    rw [e1]; simpa using ho
  · rcases List.mem_append.1 hq with h | h
    · exact h3 q h
    · simp at h; subst h; exact hR.len hc
  · rcases Nat.lt_or_ge i xs.length with g | g
    · rw [List.getElem?_append_left g] at hy
      rw [List.getElem?_append_left (by omega)] at hq
      exact h4 i y q hy hq
    · rw [List.getElem?_append_right g] at hy
      rw [List.getElem?_append_right (by omega), h2] at hq
      have hi : i - xs.length = 0 := by
        rcases Nat.eq_zero_or_pos (i - xs.length) with z | z
        · exact z
        · rw [List.getElem?_eq_none (by simp; omega)] at hy; cases hy
      rw [hi] at hy hq
      simp at hy hq
      subst hy; subst hq; exact hc

/-- as a slice to be read -/
theorem OwnSl.sl (_ : R.Ok sz) (h : OwnSl e sz R X w v xs) (hX : ∀ k, v.ownBlock = some k → X k) (hn : xs.length ≤ 140737488355328) : SlR sz R X w v xs := by
  obtain ⟨cs, h1, h2, h3, h4⟩ := h
  rcases h1.shape with ⟨rfl, h0, _⟩ | ⟨b, cap, hv, hcap, hseg, hb⟩
  · have : xs = [] := List.eq_nil_of_length_eq_zero h0
    subst this
    exact .inl ⟨none, 0, rfl, rfl⟩
  · refine .inr ⟨b, 0, cap, hv, hX b (by rw [hv]; rfl), hb, hcap, hn, fun i x hx => ?_⟩
    have hi : i < xs.length := by
      rcases Nat.lt_or_ge i xs.length with g | g
      · exact g
      · rw [List.getElem?_eq_none g] at hx; cases hx
    obtain ⟨c, hc⟩ : ∃ c, cs[i]? = some c := ⟨cs[i], List.getElem?_eq_getElem (by omega)⟩
    refine ⟨c, ?_, h4 i x c hx hc⟩
    rw [Nat.zero_add]
    have := hseg.sub (i * sz) (xs := c) (fun j v hv => catI_get h3 hc j v hv)
    rwa [Nat.zero_add] at this

end own

/-- append of one element -/
theorem OW.appendOne {α : Type} {R : Rep α} {sz e by' : Nat} {X : Nat → Prop} {xs : List α} {c : List Value} {el : α} (hR : R.Ok sz) (hd : Nat.blt d n = true) (ht : apdIs P t = some (e, sz, by')) (hx : evl L x = some v) (hy : evl L y = some (.slice (some ⟨b, 0, none⟩) 1 1))
    (hown : OwnSl e sz R X w v xs) (hs : Seg w b 0 c) (hc : R X w c el) (hb : (xs.length + 1) * by' ≤ 140737488355328) (h63 : xs.length + 1 ≤ 140737488355328) (hX : ∀ k, X k → v.ownBlock ≠ some k)
    (h : ∀ v' w', OwnSl e sz R X w' v' (xs ++ [el]) → Fr (fun k => v.ownBlock = some k) w w' → (∀ k, v'.ownBlock = some k → v.ownBlock = some k ∨ w.heap.size ≤ k) → OW P ops Q n D todo ((d, v') :: L) w') :
    OW P ops Q n D (⟨some d, .call ⟨.builtin .append, #[x, y], #[t, t]⟩, ty, pos, af, none⟩ :: todo) L w := by
  obtain ⟨cs, h1, h2, h3, h4⟩ := hown
  refine OW.append (m := 1) hd ht hx hy h1 hs (by rw [Nat.one_mul]; exact hR.len hc) (hR.one hc) hb h63 fun v' w' g1 g2 g3 => ?_
  refine h v' w' (OwnSl.snoc hR h2 h3 (fun i x c hi hq => hR.frame (h4 i x c hi hq) g2 fun k hk => hX k hk) g1 (hR.frame hc g2 fun k hk => hX k hk)) g2 g3

/-- the cells of a slice whose elements' cells are known -/
theorem SlR.cells {α : Type} {R : Rep α} {sz : Nat} {X : Nat → Prop} {xs : List α} (f : α → List Value) (hf : ∀ {X w c x}, R X w c x → c = f x) (_ : R.Ok sz) (hlen : ∀ x, (f x).length = sz) {b o : Nat} (h : Row sz R X w b o xs) : Seg w b o (catL f xs) := by
  have gen : ∀ (xs : List α) (o : Nat), Row sz R X w b o xs → Seg w b o (catL f xs) := by
    intro xs
    induction xs with
    | nil => intro o _; exact Seg.nil _ _ _
    | cons x xs ih =>
      intro o h
      obtain ⟨c, h1, h2⟩ := h 0 x rfl
      rw [hf h2, Nat.zero_mul, Nat.add_zero] at h1
      have h3 := ih (o + sz) (fun i y e => by
        have := h (i + 1) y (by simpa using e)
        rwa [show o + (i + 1) * sz = o + sz + i * sz by rw [Nat.succ_mul]; omega] at this)
      intro j v e
      simp only [catL] at e
      rcases Nat.lt_or_ge j (f x).length with g | g
      · rw [List.getElem?_append_left g] at e; exact h1 j v e
      · rw [List.getElem?_append_right g] at e
        have := h3 (j - (f x).length) v e
        rwa [hlen x, show o + sz + (j - sz) = o + j by rw [hlen x] at g; omega] at this
  exact gen xs o h

theorem acts_cells {X : Nat → Prop} {xs : List Actn} {b o : Nat} (h : Row 3 actR X w b o xs) : Seg w b o (catL Actn.cells xs) := SlR.cells Actn.cells (fun h => h.1) actR_ok (fun _ => rfl) h

theorem catI_map {α : Type} (f : α → List Value) : ∀ xs : List α, catI (xs.map f) = catL f xs
  | [] => rfl
  | x :: xs => by simp only [catI, List.map_cons, catL, id]; rw [← catI_map f xs]; rfl

/-- actions that were written anew -/
theorem acts_own {X : Nat → Prop} {e : Nat} {xs : List Actn} (h : Own w e 3 v xs.length (catL Actn.cells xs)) (hw : ∀ x ∈ xs, x.wf) : OwnSl e 3 actR X w v xs := by
  refine ⟨xs.map Actn.cells, by rw [catI_map]; exact h, by simp, fun c hc => ?_, fun i x c hx hc => ?_⟩
  · obtain ⟨x, _, rfl⟩ := List.mem_map.1 hc; rfl
  · rw [List.getElem?_map, hx] at hc
    simp at hc
    exact ⟨hc.symm, hw x (List.mem_of_getElem? hx)⟩

theorem acts_wf {X : Nat → Prop} {xs : List Actn} (h : SlR 3 actR X w v xs) : ∀ x ∈ xs, x.wf := by
  intro x hx
  obtain ⟨i, hi⟩ := List.mem_iff_getElem?.1 hx
  have hl : i < xs.length := by
    rcases Nat.lt_or_ge i xs.length with g | g
    · exact g
    · rw [List.getElem?_eq_none g] at hi; cases hi
  obtain ⟨b, o, cap, _, _, _, _, _, hr⟩ := h.at hl
  obtain ⟨c, _, _, hw⟩ := hr i x hi
  exact hw

end Go.Eng
