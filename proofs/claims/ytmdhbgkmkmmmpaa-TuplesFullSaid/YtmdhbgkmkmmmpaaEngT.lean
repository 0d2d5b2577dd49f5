/-
  The engine, part T: pieces of slices; append of a whole slice.
  No condition: general lemmas over any program.
-/
import Derived.Test.YtmdhbgkmkmmmpaaDat3
import Derived.Test.YtmdhbgkmkmmmpaaEngS
namespace Go.Eng
open Go

variable {P : Program} {Q : Exit → Act → World → Prop} {w w' : World} {n : Nat} {D : List Deferred} {L : List (Nat × Value)} {ops : Array Oper} {todo : List Oper}
variable {d : Nat} {t t' ty : TypeId} {pos : String} {af : Array Edge} {x y lo hi : Operand} {u u' v : Value} {b o k : Nat} {i j : Int} {ik jk : IntKind}

/-- x[lo:hi] -/
theorem OW.sliceLH {e sz len cap : Nat} {p : Option Addr} (hd : Nat.blt d n = true) (ht : elemIs P t = some (e, sz)) (hx : evl L x = some (.slice p len cap)) (hl : evl L lo = some (.int ik i)) (hh : evl L hi = some (.int jk j)) (hb : 0 ≤ i ∧ i ≤ j ∧ j ≤ cap)
    (h : OW P ops Q n D todo ((d, .slice (if cap = i.toNat then p else p.map (·.add (i.toNat * sz))) (j.toNat - i.toNat) (cap - i.toNat)) :: L) w) : OW P ops Q n D (⟨some d, .slice t x (some lo) (some hi) none, ty, pos, af, none⟩ :: todo) L w := by
  refine OW.value rfl rfl hd (fun a ha => ?_) h
  simp only [execOp, ha.eval hx, Option.map_some, Option.map_none, ha.eval hl, ha.eval hh]
  refine run_val ?_
  simp only [elemIs] at ht
  split at ht
  · rename_i e' h1
    simp only [Option.map_eq_some_iff, Prod.mk.injEq] at ht
    obtain ⟨ti, h2, rfl, rfl⟩ := ht
    have c1 : (0 ≤ j ∧ j ≤ (cap : Int)) := ⟨by omega, hb.2.2⟩
    have c2 : (0 ≤ i ∧ i ≤ ((j.toNat : Nat) : Int)) := ⟨hb.1, by omega⟩
    simp [Instr.sliceAt, Instr.slice, run_underlying h1, Instr.sliceBounds, Instr.sliceBound, asIntOf, c1, c2, sizeOf, run_typeInfo' h2]
    exact fun hc => absurd hc (by omega)
  · cases ht

/-- x[:hi] -/
theorem OW.sliceH {e sz len cap : Nat} {p : Option Addr} (hd : Nat.blt d n = true) (ht : elemIs P t = some (e, sz)) (hx : evl L x = some (.slice p len cap)) (hh : evl L hi = some (.int jk j)) (hb : 0 ≤ j ∧ j ≤ cap)
    (h : OW P ops Q n D todo ((d, .slice (if cap = 0 then p else p.map (·.add (0 * sz))) (j.toNat - 0) (cap - 0)) :: L) w) : OW P ops Q n D (⟨some d, .slice t x none (some hi) none, ty, pos, af, none⟩ :: todo) L w := by
  refine OW.value rfl rfl hd (fun a ha => ?_) h
  simp only [execOp, ha.eval hx, Option.map_some, Option.map_none, ha.eval hh]
  refine run_val ?_
  simp only [elemIs] at ht
  split at ht
  · rename_i e' h1
    simp only [Option.map_eq_some_iff, Prod.mk.injEq] at ht
    obtain ⟨ti, h2, rfl, rfl⟩ := ht
    simp [Instr.sliceAt, Instr.slice, run_underlying h1, Instr.sliceBounds, Instr.sliceBound, asIntOf, hb, sizeOf, run_typeInfo' h2]
  · cases ht

/-- x[lo:] -/
theorem OW.sliceL {e sz len cap : Nat} {p : Option Addr} (hd : Nat.blt d n = true) (ht : elemIs P t = some (e, sz)) (hx : evl L x = some (.slice p len cap)) (hl : evl L lo = some (.int ik i)) (hb : 0 ≤ i ∧ i ≤ len)
    (h : OW P ops Q n D todo ((d, .slice (if cap = i.toNat then p else p.map (·.add (i.toNat * sz))) (len - i.toNat) (cap - i.toNat)) :: L) w) : OW P ops Q n D (⟨some d, .slice t x (some lo) none none, ty, pos, af, none⟩ :: todo) L w := by
  refine OW.value rfl rfl hd (fun a ha => ?_) h
  simp only [execOp, ha.eval hx, Option.map_some, Option.map_none, ha.eval hl]
  refine run_val ?_
  simp only [elemIs] at ht
  split at ht
  · rename_i e' h1
    simp only [Option.map_eq_some_iff, Prod.mk.injEq] at ht
    obtain ⟨ti, h2, rfl, rfl⟩ := ht
    simp [Instr.sliceAt, Instr.slice, run_underlying h1, Instr.sliceBounds, Instr.sliceBound, asIntOf, hb, sizeOf, run_typeInfo' h2]
  · cases ht

section sl
variable {α : Type} {R : Rep α} {sz e : Nat} {X X' S : Nat → Prop} {xs ys : List α}

/-- a piece of a slice, read -/
theorem SlR.piece {p : Option Addr} {len cap a c : Nat} (h : SlR sz R X w (.slice p len cap) xs) (h1 : a ≤ c) (h2 : c ≤ xs.length) (hcap : len ≤ cap) :
    SlR sz R X w (.slice (if cap = a then p else p.map (·.add (a * sz))) (c - a) (cap - a)) ((xs.drop a).take (c - a)) := by
  by_cases hac : c = a
  · subst hac
    refine .inl ⟨_, _, by rw [Nat.sub_self], by rw [Nat.sub_self]; rfl⟩
  · rcases h with ⟨p', cap', e1, rfl⟩ | ⟨b, o, cap', e1, hX, hb, hc, hn, hr⟩
    · simp at h2; omega
    · cases e1
      have hl : ((xs.drop a).take (c - a)).length = c - a := by rw [List.length_take, List.length_drop]; omega
      refine .inr ⟨b, o + a * sz, cap - a, by rw [if_neg (by omega), hl]; simp [add_none], hX, hb, by rw [hl]; omega, by rw [hl]; omega, fun i x hx => ?_⟩
      rw [List.getElem?_take] at hx
      split at hx
      · rw [List.getElem?_drop] at hx
        obtain ⟨cs, g1, g2⟩ := hr (a + i) x hx
        exact ⟨cs, by rw [show o + a * sz + i * sz = o + (a + i) * sz by rw [Nat.add_mul]; omega]; exact g1, g2⟩
      · cases hx

/-- the cells of a row, in a list -/
theorem Row.cellsL (hR : R.Ok sz) : ∀ {xs : List α} {o : Nat}, Row sz R X w b o xs → ∃ cs : List (List Value), cs.length = xs.length ∧ (∀ c ∈ cs, c.length = sz) ∧ Seg w b o (catI cs) ∧ ∀ (i : Nat) (x : α) (c : List Value), xs[i]? = some x → cs[i]? = some c → R X w c x
  | [], o, _ => ⟨[], rfl, by simp, Seg.nil _ _ _, by simp⟩
  | x :: xs, o, h => by
    obtain ⟨c, h1, h2⟩ := h 0 x rfl
    rw [Nat.zero_mul, Nat.add_zero] at h1
    obtain ⟨cs, g1, g2, g3, g4⟩ := Row.cellsL hR (xs := xs) (o := o + sz) fun i y e => by
      have := h (i + 1) y (by simpa using e)
      rwa [show o + (i + 1) * sz = o + sz + i * sz by rw [Nat.succ_mul]; omega] at this
    refine ⟨c :: cs, by simp [g1], fun q hq => ?_, fun j v e => ?_, fun i y q hy hq => ?_⟩
    · rcases List.mem_cons.1 hq with rfl | hq
      · exact hR.len h2
      · exact g2 q hq
    · simp only [catI, catL, id] at e
      rcases Nat.lt_or_ge j c.length with g | g
      · rw [List.getElem?_append_left g] at e; exact h1 j v e
      · rw [List.getElem?_append_right g] at e
        have := g3 (j - c.length) v e
        have hl := hR.len h2
        rwa [show o + sz + (j - c.length) = o + j by omega] at this
    · cases i with
      | zero => simp at hy hq; subst hy; subst hq; exact h2
      | succ i => exact g4 i y q (by simpa using hy) (by simpa using hq)

theorem OwnSl.append (_ : R.Ok sz) {cs ds : List (List Value)} {v' : Value} (h2 : cs.length = xs.length) (h3 : ∀ c ∈ cs, c.length = sz) (h4 : ∀ (i : Nat) (x : α) (c : List Value), xs[i]? = some x → cs[i]? = some c → R X w' c x)
    (g2 : ds.length = ys.length) (g3 : ∀ c ∈ ds, c.length = sz) (g4 : ∀ (i : Nat) (x : α) (c : List Value), ys[i]? = some x → ds[i]? = some c → R X w' c x)
    (ho : Own w' e sz v' (xs.length + ys.length) (catI cs ++ catI ds)) : OwnSl e sz R X w' v' (xs ++ ys) := by
  refine ⟨cs ++ ds, ?_, by simp [h2, g2], fun q hq => ?_, fun i y q hy hq => ?_⟩
  · have e1 : catI (cs ++ ds) = catI cs ++ catI ds := by simp [catI, catL_app]
    rw [e1]; simpa using ho
  · rcases List.mem_append.1 hq with h | h
    · exact h3 q h
    · exact g3 q h
  · rcases Nat.lt_or_ge i xs.length with g | g
    · rw [List.getElem?_append_left g] at hy
      rw [List.getElem?_append_left (by omega)] at hq
      exact h4 i y q hy hq
    · rw [List.getElem?_append_right g] at hy
      rw [List.getElem?_append_right (by omega), h2] at hq
      exact g4 _ y q hy hq

theorem OwnSl.shape (h : OwnSl e sz R X w v xs) : ∃ p cap, v = .slice p xs.length cap ∧ xs.length ≤ cap := by
  obtain ⟨cs, ho, _⟩ := h
  rcases ho.shape with ⟨rfl, h0, _⟩ | ⟨b, cap, hv, hcap, _⟩
  · exact ⟨none, 0, by rw [h0], by omega⟩
  · exact ⟨_, cap, hv, hcap⟩

/-- what is read off a slice: its elements alone -/
def RdR {α : Type} (sz : Nat) (R : Rep α) (X : Nat → Prop) (w : World) (v : Value) (xs : List α) : Prop :=
  (∃ p cap, v = .slice p 0 cap ∧ xs = []) ∨ ∃ b o cap, v = .slice (some ⟨b, o, none⟩) xs.length cap ∧ xs.length ≤ cap ∧ Row sz R X w b o xs

theorem SlR.rd (h : SlR sz R X w v xs) : RdR sz R X w v xs := by
  rcases h with h | ⟨b, o, cap, h1, _, _, h4, _, h6⟩
  · exact .inl h
  · exact .inr ⟨b, o, cap, h1, h4, h6⟩

theorem OwnSl.rd (h : OwnSl e sz R X w v xs) : RdR sz R X w v xs := by
  obtain ⟨cs, h1, h2, h3, h4⟩ := h
  rcases h1.shape with ⟨rfl, h0, _⟩ | ⟨b, cap, hv, hcap, hseg, hb⟩
  · have : xs = [] := List.eq_nil_of_length_eq_zero h0
    subst this
    exact .inl ⟨none, 0, rfl, rfl⟩
  · refine .inr ⟨b, 0, cap, hv, hcap, fun i x hx => ?_⟩
    have hi : i < xs.length := by
      rcases Nat.lt_or_ge i xs.length with g | g
      · exact g
      · rw [List.getElem?_eq_none g] at hx; cases hx
    obtain ⟨c, hc⟩ : ∃ c, cs[i]? = some c := ⟨cs[i], List.getElem?_eq_getElem (by omega)⟩
    refine ⟨c, ?_, h4 i x c hx hc⟩
    rw [Nat.zero_add]
    have := hseg.sub (i * sz) (xs := c) (fun j v hv => catI_get h3 hc j v hv)
    rwa [Nat.zero_add] at this

theorem RdR.piece {p : Option Addr} {len cap a c : Nat} (h : RdR sz R X w (.slice p len cap) xs) (h1 : a ≤ c) (h2 : c ≤ xs.length) :
    RdR sz R X w (.slice (if cap = a then p else p.map (·.add (a * sz))) (c - a) (cap - a)) ((xs.drop a).take (c - a)) := by
  by_cases hac : c = a
  · subst hac
    refine .inl ⟨_, _, by rw [Nat.sub_self], by rw [Nat.sub_self]; rfl⟩
  · rcases h with ⟨p', cap', e1, rfl⟩ | ⟨b, o, cap', e1, hc, hr⟩
    · simp at h2; omega
    · cases e1
      have hl : ((xs.drop a).take (c - a)).length = c - a := by rw [List.length_take, List.length_drop]; omega
      refine .inr ⟨b, o + a * sz, cap - a, by rw [if_neg (by omega), hl]; simp [add_none], by rw [hl]; omega, fun i x hx => ?_⟩
      rw [List.getElem?_take] at hx
      split at hx
      · rw [List.getElem?_drop] at hx
        obtain ⟨cs, g1, g2⟩ := hr (a + i) x hx
        exact ⟨cs, by rw [show o + a * sz + i * sz = o + (a + i) * sz by rw [Nat.add_mul]; omega]; exact g1, g2⟩
      · cases hx

theorem RdR.at' {p : Option Addr} {m cap : Nat} (h : RdR sz R X w (.slice p m cap) xs) {i : Nat} (hi : i < xs.length) : ∃ b o, p = some ⟨b, o, none⟩ ∧ Row sz R X w b o xs := by
  rcases h with ⟨p', cap', _, rfl⟩ | ⟨b, o, cap', e1, _, hr⟩
  · simp at hi
  · cases e1; exact ⟨b, o, rfl, hr⟩

/-- append of all that a slice holds -/
theorem OW.appendSl {by' : Nat} (hR : R.Ok sz) (hd : Nat.blt d n = true) (ht : apdIs P t = some (e, sz, by')) (hx : evl L x = some v) (hy : evl L y = some u)
    (hown : OwnSl e sz R X w v xs) (hys : RdR sz R X w u ys) (hb : (xs.length + ys.length) * by' ≤ 140737488355328) (h63 : xs.length + ys.length ≤ 140737488355328) (hX : ∀ k, X k → v.ownBlock ≠ some k)
    (h : ∀ v' w', OwnSl e sz R X w' v' (xs ++ ys) → Fr (fun k => v.ownBlock = some k) w w' → (∀ k, v'.ownBlock = some k → v.ownBlock = some k ∨ w.heap.size ≤ k) → OW P ops Q n D todo ((d, v') :: L) w') :
    OW P ops Q n D (⟨some d, .call ⟨.builtin .append, #[x, y], #[t, t]⟩, ty, pos, af, none⟩ :: todo) L w := by
  rcases hys with ⟨p, cap, rfl, rfl⟩ | ⟨b, o, cap, rfl, _, hr⟩
  · obtain ⟨p', c', hv, hcap⟩ := hown.shape
    subst hv
    refine OW.append0 hd ht hx hcap hy (h _ _ ?_ (Fr.refl _ _) (fun k hk => .inl hk))
    rw [List.append_nil]; exact hown
  · obtain ⟨ds, g1, g2, g3, g4⟩ := Row.cellsL hR hr
    obtain ⟨cs, h1, h2, h3, h4⟩ := hown
    refine OW.append (m := ys.length) hd ht hx hy h1 g3 (by rw [catI_len g2, g1]) (fun c hc => ?_) hb h63 fun v' w' k1 k2 k3 => ?_
    · obtain ⟨j, hj⟩ := List.mem_iff_getElem?.1 hc
      have gen : ∀ (ds : List (List Value)) (ys : List α), ds.length = ys.length → (∀ (i : Nat) (x : α) (c : List Value), ys[i]? = some x → ds[i]? = some c → R X w c x) → ∀ u ∈ catI ds, u.oneCell' = true := by
        intro ds
        induction ds with
        | nil => intro ys _ _ u hu; simp [catI, catL] at hu
        | cons q ds ih =>
          intro ys hl hq u hu
          cases ys with
          | nil => simp at hl
          | cons y ys =>
            simp only [catI, catL, id, List.mem_append] at hu
            rcases hu with hu | hu
            · exact hR.one (hq 0 y q rfl rfl) u hu
            · exact ih ys (by simpa using hl) (fun i x c hx hc => hq (i + 1) x c (by simpa using hx) (by simpa using hc)) u hu
      exact gen ds ys g1 g4 c hc
    · exact h v' w' (OwnSl.append hR h2 h3 (fun i x c hi hq => hR.frame (h4 i x c hi hq) k2 fun k hk => hX k hk) g1 g2 (fun i x c hi hq => hR.frame (g4 i x c hi hq) k2 fun k hk => hX k hk) k1) k2 k3
end sl

end Go.Eng
