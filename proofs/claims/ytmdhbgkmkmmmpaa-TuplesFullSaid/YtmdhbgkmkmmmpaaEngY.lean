/-
  The engine, part Y: slices that are owned and whose elements look into an older world; pieces and calls.
  No condition: general lemmas over any program.
-/
import Derived.Test.YtmdhbgkmkmmmpaaTup
namespace Go.Eng
open Go

variable {α : Type} {R : Rep α} {sz e : Nat} {X : Nat → Prop} {wb w w' w1 w2 : World} {v : Value} {xs : List α} {As Bs : List Asn} {a a' : Asn}

/-- an owned slice; what its elements are is told of the world wb -/
def OwnAt {α : Type} (e sz : Nat) (R : Rep α) (X : Nat → Prop) (wb w : World) (v : Value) (xs : List α) : Prop :=
  ∃ cs : List (List Value), Own w e sz v xs.length (catI cs) ∧ cs.length = xs.length ∧ (∀ c ∈ cs, c.length = sz) ∧ ∀ (i : Nat) (x : α) (c : List Value), xs[i]? = some x → cs[i]? = some c → R X wb c x

theorem OwnAt.nil : OwnAt e sz R X wb w (.slice none 0 0) [] := ⟨[], Own.nil _ _ _, rfl, by simp, fun i x c h => by simp at h⟩

theorem OwnAt.frame {S : Nat → Prop} (h : OwnAt e sz R X wb w v xs) (f : Fr S w w') (hs : ∀ k, v.ownBlock = some k → ¬ S k) : OwnAt e sz R X wb w' v xs := by
  obtain ⟨cs, h1, h2⟩ := h
  exact ⟨cs, h1.frame f hs, h2⟩

theorem OwnAt.lt (h : OwnAt e sz R X wb w v xs) {k : Nat} (hk : v.ownBlock = some k) : k < w.heap.size := by
  obtain ⟨cs, h1, _⟩ := h; exact h1.lt hk

theorem OwnAt.own (hR : R.Ok sz) (h : OwnAt e sz R X wb w v xs) (f : Fr0 wb w) : OwnSl e sz R X w v xs := by
  obtain ⟨cs, h1, h2, h3, h4⟩ := h
  exact ⟨cs, h1, h2, h3, fun i x c hx hc => hR.frame (h4 i x c hx hc) f fun _ _ c => c⟩

theorem OwnAt.shape (h : OwnAt e sz R X wb w v xs) : ∃ p cap, v = .slice p xs.length cap ∧ xs.length ≤ cap := by
  obtain ⟨cs, ho, _⟩ := h
  rcases ho.shape with ⟨rfl, h0, _⟩ | ⟨b, cap, hv, hcap, _⟩
  · exact ⟨none, 0, by rw [h0], by omega⟩
  · exact ⟨_, cap, hv, hcap⟩

/-- where an element lies, and what it is -/
theorem OwnAt.at' {p : Option Addr} {m cap : Nat} (h : OwnAt e sz R X wb w (.slice p m cap) xs) {i : Nat} (hi : i < xs.length) :
    ∃ b o, p = some ⟨b, o, none⟩ ∧ ∀ j x, xs[j]? = some x → ∃ c, Seg w b (o + j * sz) c ∧ R X wb c x := by
  obtain ⟨cs, h1, h2, h3, h4⟩ := h
  rcases h1.shape with ⟨_, h0, _⟩ | ⟨b, cap', hv, hcap, hseg, hb⟩
  · omega
  · cases hv
    refine ⟨b, 0, rfl, fun j x hx => ?_⟩
    have hj : j < xs.length := by
      rcases Nat.lt_or_ge j xs.length with g | g
      · exact g
      · rw [List.getElem?_eq_none g] at hx; cases hx
    obtain ⟨c, hc⟩ : ∃ c, cs[j]? = some c := ⟨cs[j], List.getElem?_eq_getElem (by omega)⟩
    refine ⟨c, ?_, h4 j x c hx hc⟩
    rw [Nat.zero_add]
    have := hseg.sub (j * sz) (xs := c) (fun q v hv => catI_get h3 hc q v hv)
    rwa [Nat.zero_add] at this

def ownB {α : Type} (e sz : Nat) (R : Rep α) (X : Nat → Prop) (wb : World) (v : Value) (xs : List α) : Asn :=
  ⟨v.ownBlock.toList, fun w => OwnAt e sz R X wb w v xs, fun h f hs => h.frame f (fun k hk => hs k (by simp [hk]))⟩

theorem Moves.ownB {v' : Value} {xs' : List α} (f : Fr (fun k => v.ownBlock = some k) w w') (h : OwnAt e sz R X wb w' v' xs') (g : ∀ k, v'.ownBlock = some k → v.ownBlock = some k ∨ w.heap.size ≤ k) :
    Moves w w' (ownB e sz R X wb v xs) (Eng.ownB e sz R X wb v' xs') :=
  ⟨f.mono fun k _ c => by simp [Eng.ownB, c], h, fun k hk => by
    have := g k (by simpa [Eng.ownB] using hk)
    rcases this with c | c
    · exact .inl (by simp [Eng.ownB, c])
    · exact .inr c, own_nodup _, fun k hk => h.lt (by simpa [Eng.ownB] using hk)⟩

/-- append of one element -/
theorem OW.appendAt {P : Program} {Q : Exit → Act → World → Prop} {n : Nat} {D : List Deferred} {L : List (Nat × Value)} {ops : Array Oper} {todo : List Oper} {d : Nat} {t ty : TypeId} {pos : String} {af : Array Edge} {x y : Operand} {b by' : Nat} {c : List Value} {el : α}
    (hR : R.Ok sz) (hd : Nat.blt d n = true) (ht : apdIs P t = some (e, sz, by')) (hx : evl L x = some v) (hy : evl L y = some (.slice (some ⟨b, 0, none⟩) 1 1))
    (hown : OwnAt e sz R X wb w v xs) (hs : Seg w b 0 c) (hc : R X wb c el) (hb : (xs.length + 1) * by' ≤ 140737488355328) (h63 : xs.length + 1 ≤ 140737488355328)
    (h : ∀ v' w', OwnAt e sz R X wb w' v' (xs ++ [el]) → Fr (fun k => v.ownBlock = some k) w w' → (∀ k, v'.ownBlock = some k → v.ownBlock = some k ∨ w.heap.size ≤ k) → OW P ops Q n D todo ((d, v') :: L) w') :
    OW P ops Q n D (⟨some d, .call ⟨.builtin .append, #[x, y], #[t, t]⟩, ty, pos, af, none⟩ :: todo) L w := by
  obtain ⟨cs, h1, h2, h3, h4⟩ := hown
  refine OW.append (m := 1) hd ht hx hy h1 hs (by rw [Nat.one_mul]; exact hR.len hc) (hR.one hc) hb h63 fun v' w' g1 g2 g3 => ?_
  refine h v' w' ⟨cs ++ [c], ?_, by simp [h2], fun q hq => ?_, fun i y q hy hq => ?_⟩ g2 g3
  · have e1 : catI (cs ++ [c]) = catI cs ++ c := by simp [catI, catL_app, catL]
    rw [e1]; simpa using g1
  · rcases List.mem_append.1 hq with h | h
    · exact h3 q h
    · simp at h; subst h; exact hR.len hc
  · rcases Nat.lt_or_ge i xs.length with g | g
    · rw [List.getElem?_append_left g] at hy
      rw [List.getElem?_append_left (by omega)] at hq
      exact h4 i y q hy hq
    · rw [List.getElem?_append_right g] at hy
      rw [List.getElem?_append_right (by omega), h2] at hq
      have hi : i - xs.length = 0 := by
        rcases Nat.eq_zero_or_pos (i - xs.length) with z | z
        · exact z
        · rw [List.getElem?_eq_none (by simp; omega)] at hy; cases hy
      rw [hi] at hy hq
      simp at hy hq
      subst hy; subst hq; exact hc

theorem run0 {Bs : List Asn} (r : Run w w' [] Bs) : Fr0 w w' := r.fr.mono fun k _ c => by simp [star, fps] at c

theorem Moves.fr0 {a : Asn} (h : Holds w [a]) (f : Fr0 w w') : Moves w w' a a :=
  have e : fps [a] = a.fp := by simp [fps]
  ⟨f.any, a.stable (h.ok a (by simp)) f (fun _ _ c => c), fun _ hk => .inl hk, by have := h.nodup; rwa [e] at this, fun k hk => Nat.lt_of_lt_of_le (h.lt k (by rw [e]; exact hk)) f.size⟩

/-- one piece alone -/
theorem Run.alone (r : Run w w1 As Bs) (i : Nat) (e : Bs[i]? = some a) : Holds w1 [a] := by
  have h := (r.front i e).holds
  exact h.drop (Bs := [a]) (Cs := Bs.eraseIdx i) (List.Perm.refl _)

theorem Run.adopt (r : Run w w1 As Bs) (f : Fr0 w1 w2) (h : Holds w2 [a]) (hf : ∀ k ∈ a.fp, w1.heap.size ≤ k) : Run w w2 As (a :: Bs) :=
  have e : fps [a] = a.fp := by simp [fps]
  r.push f (h.ok a (by simp)) (by have := h.nodup; rwa [e] at this) fun k hk => ⟨hf k hk, h.lt k (by rw [e]; exact hk)⟩

theorem tab_pieces {T : TabSt} (h : Holds w [tabA T]) : Holds w (tabPieces T) := by
  have := Holds.of_star (As := tabPieces T) (Bs := []) h
  simpa using this

end Go.Eng
