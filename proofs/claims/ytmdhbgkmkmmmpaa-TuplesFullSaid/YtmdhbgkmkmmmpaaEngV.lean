/-
  The engine, part V: what lies on the heap, piece by piece, each with the blocks that it holds.
  No condition: general lemmas over any program.
-/
import Derived.Test.YtmdhbgkmkmmmpaaEngU
namespace Go.Eng
open Go

/-- a piece of the heap: its blocks, what is said of it; it stays while these are not written -/
structure Asn where
  fp : List Nat
  ok : World → Prop
  stable : ∀ {S : Nat → Prop} {w w' : World}, ok w → Fr S w w' → (∀ k ∈ fp, ¬ S k) → ok w'

def fps (As : List Asn) : List Nat := As.flatMap Asn.fp

structure Holds (w : World) (As : List Asn) : Prop where
  ok : ∀ a ∈ As, a.ok w
  nodup : (fps As).Nodup
  lt : ∀ k ∈ fps As, k < w.heap.size

/-- one piece becomes another one; only its blocks, and new ones, are written -/
structure Moves (w w' : World) (a a' : Asn) : Prop where
  fr : Fr (fun k => k ∈ a.fp) w w'
  ok : a'.ok w'
  sub : ∀ k ∈ a'.fp, k ∈ a.fp ∨ w.heap.size ≤ k
  nodup : a'.fp.Nodup
  lt : ∀ k ∈ a'.fp, k < w'.heap.size

variable {w w' w1 w2 : World} {As Bs Cs : List Asn} {a a' a1 a2 : Asn} {S : Nat → Prop}

theorem Holds.nil : Holds w [] := ⟨by simp, by simp [fps], by simp [fps]⟩

theorem Holds.get (h : Holds w As) (i : Nat) (e : As[i]? = some a) : a.ok w := h.ok a (List.mem_of_getElem? e)

theorem Holds.frame (h : Holds w As) (f : Fr S w w') (hs : ∀ k ∈ fps As, ¬ S k) : Holds w' As :=
  ⟨fun a ha => a.stable (h.ok a ha) f fun k hk => hs k (List.mem_flatMap.2 ⟨a, ha, hk⟩), h.nodup, fun k hk => Nat.lt_of_lt_of_le (h.lt k hk) f.size⟩

theorem Holds.fr0 (h : Holds w As) (f : Fr0 w w') : Holds w' As := h.frame f (fun _ _ c => c)

theorem Holds.perm (h : Holds w As) (p : As.Perm Bs) : Holds w Bs :=
  have q : (fps As).Perm (fps Bs) := p.flatMap_right _
  ⟨fun a ha => h.ok a (p.mem_iff.2 ha), q.nodup_iff.1 h.nodup, fun k hk => h.lt k (q.mem_iff.2 hk)⟩

theorem Holds.lt_of (h : Holds w As) {i : Nat} (e : As[i]? = some a) {k : Nat} (hk : k ∈ a.fp) : k < w.heap.size := h.lt k (List.mem_flatMap.2 ⟨a, List.mem_of_getElem? e, hk⟩)

theorem Moves.head (h : Holds w (a :: As)) (m : Moves w w' a a') : Holds w' (a' :: As) := by
  have hn : (a.fp ++ fps As).Nodup := h.nodup
  have hl : ∀ k ∈ a.fp ++ fps As, k < w.heap.size := h.lt
  rw [List.nodup_append] at hn
  obtain ⟨n1, n2, n3⟩ := hn
  refine ⟨fun b hb => ?_, ?_, fun k hk => ?_⟩
  · rcases List.mem_cons.1 hb with rfl | hb
    · exact m.ok
    · exact b.stable (h.ok b (List.mem_cons_of_mem _ hb)) m.fr fun k hk c => n3 k c k (List.mem_flatMap.2 ⟨b, hb, hk⟩) rfl
  · show (a'.fp ++ fps As).Nodup
    rw [List.nodup_append]
    refine ⟨m.nodup, n2, fun x hx y hy e => ?_⟩
    subst e
    rcases m.sub x hx with c | c
    · exact n3 x c x hy rfl
    · have := hl x (List.mem_append_right _ hy); omega
  · have hk' : k ∈ a'.fp ++ fps As := hk
    rcases List.mem_append.1 hk' with c | c
    · exact m.lt k c
    · exact Nat.lt_of_lt_of_le (hl k (List.mem_append_right _ c)) m.fr.size

theorem set_split {α : Type} : ∀ {l : List α} {i : Nat} {a : α}, l[i]? = some a → ∃ l1 l2, l = l1 ++ a :: l2 ∧ (∀ b, l.set i b = l1 ++ b :: l2) ∧ l1.length = i
  | [], i, a, h => by simp at h
  | x :: l, 0, a, h => by simp at h; subst h; exact ⟨[], l, rfl, fun b => rfl, rfl⟩
  | x :: l, i + 1, a, h => by
    obtain ⟨l1, l2, h1, h2, h3⟩ := set_split (l := l) (i := i) (by simpa using h)
    exact ⟨x :: l1, l2, by rw [h1]; rfl, fun b => by rw [List.set_cons_succ, h2]; rfl, by simp [h3]⟩

theorem Holds.put (h : Holds w As) (i : Nat) (e : As[i]? = some a) (m : Moves w w' a a') : Holds w' (As.set i a') := by
  obtain ⟨l1, l2, h1, h2, _⟩ := set_split e
  rw [h2]
  have h3 : Holds w (a :: (l1 ++ l2)) := h.perm (by rw [h1]; exact List.perm_middle)
  exact (m.head h3).perm List.perm_middle.symm

/-- a new piece -/
theorem Holds.push (h : Holds w As) (f : Fr0 w w') (ho : a.ok w') (hn : a.fp.Nodup) (hf : ∀ k ∈ a.fp, w.heap.size ≤ k ∧ k < w'.heap.size) : Holds w' (a :: As) := by
  refine ⟨fun b hb => ?_, ?_, fun k hk => ?_⟩
  · rcases List.mem_cons.1 hb with rfl | hb
    · exact ho
    · exact (h.fr0 f).ok b hb
  · show (a.fp ++ fps As).Nodup
    rw [List.nodup_append]
    exact ⟨hn, h.nodup, fun x hx y hy e => by subst e; have := (hf x hx).1; have := h.lt x hy; omega⟩
  · have hk' : k ∈ a.fp ++ fps As := hk
    rcases List.mem_append.1 hk' with c | c
    · exact (hf k c).2
    · exact Nat.lt_of_lt_of_le (h.lt k c) f.size

theorem Holds.drop (h : Holds w As) (p : As.Perm (Bs ++ Cs)) : Holds w Bs := by
  have h2 := h.perm p
  have e : fps (Bs ++ Cs) = fps Bs ++ fps Cs := by simp [fps]
  refine ⟨fun a ha => h2.ok a (List.mem_append_left _ ha), ?_, fun k hk => h2.lt k (by rw [e]; exact List.mem_append_left _ hk)⟩
  have := h2.nodup
  rw [e, List.nodup_append] at this
  exact this.1

theorem Moves.refl (ho : a.ok w) (hn : a.fp.Nodup) (hl : ∀ k ∈ a.fp, k < w.heap.size) : Moves w w a a := ⟨Fr.refl _ _, ho, fun _ hk => .inl hk, hn, hl⟩

/-- two moves in a row -/
theorem Moves.trans (h : Moves w w1 a a1) (g : Moves w1 w2 a1 a2) : Moves w w2 a a2 :=
  ⟨h.fr.trans' g.fr (fun _ hk c => (h.sub _ c).resolve_right (by omega)), g.ok, fun k hk => by
    rcases g.sub k hk with c | c
    · exact h.sub k c
    · exact .inr (Nat.le_trans h.fr.size c), g.nodup, g.lt⟩

/-- all pieces as one -/
def star (As : List Asn) : Asn := ⟨fps As, fun w => ∀ a ∈ As, a.ok w, fun h f hs a ha => a.stable (h a ha) f fun _ hk => hs _ (List.mem_flatMap.2 ⟨a, ha, hk⟩)⟩

theorem Holds.of_star (h : Holds w (star As :: Bs)) : Holds w (As ++ Bs) := by
  have e : fps (As ++ Bs) = fps As ++ fps Bs := by simp [fps]
  refine ⟨fun a ha => ?_, by rw [e]; exact h.nodup, by rw [e]; exact h.lt⟩
  rcases List.mem_append.1 ha with c | c
  · exact h.ok (star As) (by simp) a c
  · exact h.ok a (List.mem_cons_of_mem _ c)

theorem Holds.to_star (h : Holds w (As ++ Bs)) : Holds w (star As :: Bs) := by
  have e : fps (As ++ Bs) = fps As ++ fps Bs := by simp [fps]
  refine ⟨fun a ha => ?_, by have := h.nodup; rw [e] at this; exact this, by have := h.lt; rw [e] at this; exact this⟩
  rcases List.mem_cons.1 ha with rfl | c
  · exact fun b hb => h.ok b (List.mem_append_left _ hb)
  · exact h.ok a (List.mem_append_right _ c)

theorem star_ok : (star As).ok w ↔ ∀ a ∈ As, a.ok w := Iff.rfl

/-- from a single piece to the pieces that it is made of, and back -/
theorem Holds.one (ho : a.ok w) (hn : a.fp.Nodup) (hl : ∀ k ∈ a.fp, k < w.heap.size) : Holds w [a] := ⟨by simpa using ho, by simpa [fps] using hn, by simpa [fps] using hl⟩

theorem Moves.of_star (_ : Holds w [star As]) (g : Holds w' [star Bs]) (f : Fr (fun k => k ∈ fps As) w w') (hsub : ∀ k ∈ fps Bs, k ∈ fps As ∨ w.heap.size ≤ k) : Moves w w' (star As) (star Bs) :=
  ⟨f, g.ok _ (by simp), hsub, by simpa [fps, star] using g.nodup, fun k hk => g.lt k (by simpa [fps, star] using hk)⟩

/-! ### kinds of pieces -/

/-- a block of cells -/
def pts (b T : Nat) (cs : List Value) : Asn := ⟨[b], fun w => Bk w b T cs, fun h f hs => h.frame f (hs _ (by simp))⟩
/-- a map -/
def mapA {κ : Type} (b : Nat) (ek : κ → Value) (kv : List (κ × Value)) : Asn := ⟨[b], fun w => MapBk w b ek kv, fun h f hs => h.frame f (hs _ (by simp))⟩
/-- a slice that is owned -/
def ownA {α : Type} (e sz : Nat) (R : Rep α) (hR : R.Ok sz) (v : Value) (xs : List α) : Asn :=
  ⟨v.ownBlock.toList, fun w => OwnSl e sz R (fun _ => False) w v xs, fun h f hs => h.frame hR f (fun k hk => hs k (by simp [hk])) (fun _ c => c.elim)⟩

theorem Moves.pts {b T : Nat} {cs cs' : List Value} (f : Fr (fun k => k = b) w w') (h : Bk w' b T cs') : Moves w w' (pts b T cs) (Eng.pts b T cs') :=
  ⟨f.mono fun k _ c => by simp [Eng.pts, c], h, fun k hk => .inl hk, by simp [Eng.pts], fun k hk => by simp [Eng.pts] at hk; subst hk; exact h.lt⟩

theorem Moves.map {κ : Type} {b : Nat} {ek : κ → Value} {kv kv' : List (κ × Value)} (f : Fr (fun k => k = b) w w') (h : MapBk w' b ek kv') : Moves w w' (mapA b ek kv) (mapA b ek kv') :=
  ⟨f.mono fun k _ c => by simp [mapA, c], h, fun k hk => .inl hk, by simp [mapA], fun k hk => by simp [mapA] at hk; subst hk; exact h.lt⟩

theorem own_nodup (v : Value) : v.ownBlock.toList.Nodup := by cases v.ownBlock <;> simp

theorem Moves.own {α : Type} {e sz : Nat} {R : Rep α} {hR : R.Ok sz} {v v' : Value} {xs xs' : List α} (f : Fr (fun k => v.ownBlock = some k) w w') (h : OwnSl e sz R (fun _ => False) w' v' xs') (g : ∀ k, v'.ownBlock = some k → v.ownBlock = some k ∨ w.heap.size ≤ k) :
    Moves w w' (ownA e sz R hR v xs) (ownA e sz R hR v' xs') :=
  ⟨f.mono fun k _ c => by simp [ownA, c], h, fun k hk => by
    have := g k (by simpa [ownA] using hk)
    rcases this with c | c
    · exact .inl (by simp [ownA, c])
    · exact .inr c, own_nodup _, fun k hk => h.lt (by simpa [ownA] using hk)⟩

theorem Holds.newPts (h : Holds w As) {b T : Nat} {cs : List Value} (n : New w w' b (.cells cs.toArray T (0, 0))) : Holds w' (pts b T cs :: As) :=
  h.push n.fr n.here (by simp [pts]) fun k hk => by simp [pts] at hk; subst hk; have := n.fresh; have := n.size; omega

theorem Holds.newMap (h : Holds w As) {κ : Type} {b : Nat} (ek : κ → Value) (n : New w w' b (.map #[] 0)) : Holds w' (mapA b ek [] :: As) :=
  h.push n.fr (MapBk.empty ek n) (by simp [mapA]) fun k hk => by simp [mapA] at hk; subst hk; have := n.fresh; have := n.size; omega

/-- a block that is not held -/
theorem Holds.not_mem (h : Holds w As) {k : Nat} (hk : w.heap.size ≤ k) : k ∉ fps As := fun c => by have := h.lt k c; omega

/-- two pieces have no block in common -/
theorem Holds.apart (h : Holds w As) {i j : Nat} {a b : Asn} (hi : As[i]? = some a) (hj : As[j]? = some b) (hij : i ≠ j) {k : Nat} (ha : k ∈ a.fp) (hb : k ∈ b.fp) : False := by
  obtain ⟨l1, l2, h1, _, h2⟩ := set_split hi
  subst h1
  have hn : (fps (l1 ++ a :: l2)).Nodup := h.nodup
  have e : fps (l1 ++ a :: l2) = fps l1 ++ (a.fp ++ fps l2) := by simp [fps]
  rw [e, List.nodup_append] at hn
  obtain ⟨_, n2, n3⟩ := hn
  rw [List.nodup_append] at n2
  rcases Nat.lt_or_ge j i with c | c
  · rw [List.getElem?_append_left (by omega)] at hj
    exact n3 k (List.mem_flatMap.2 ⟨b, List.mem_of_getElem? hj, hb⟩) k (List.mem_append_left _ ha) rfl
  · rw [List.getElem?_append_right (by omega), show j - l1.length = (j - l1.length - 1) + 1 by omega, List.getElem?_cons_succ] at hj
    exact n2.2.2 k ha k (List.mem_flatMap.2 ⟨b, List.mem_of_getElem? hj, hb⟩) rfl

end Go.Eng
