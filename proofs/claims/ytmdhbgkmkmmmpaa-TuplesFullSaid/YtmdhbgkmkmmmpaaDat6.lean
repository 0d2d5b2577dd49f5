/-
  Lists that were just built; orders of lists; what holds of what Between tells.
  No condition.
-/
import Derived.Test.YtmdhbgkmkmmmpaaDat5
namespace Go.Eng
open Go

/-- a slice whose block was just built -/
theorem SlR.ofNew {α : Type} {R : Rep α} {sz e b m : Nat} {X : Nat → Prop} {w w' : World} {cs : List (List Value)} {xs : List α} (h : New w w' b (.cells (catI cs).toArray e (0, 0))) (hl : cs.length = xs.length) (h3 : ∀ c ∈ cs, c.length = sz) (hX : X b) (hm : xs.length ≤ m) (hn : xs.length ≤ 140737488355328)
    (hel : ∀ (i : Nat) (x : α) (c : List Value), xs[i]? = some x → cs[i]? = some c → R X w' c x) : SlR sz R X w' (.slice (some ⟨b, 0, none⟩) xs.length m) xs := by
  refine .inr ⟨b, 0, m, rfl, hX, lt_of_here h.here, hm, hn, fun i x hx => ?_⟩
  have hi : i < xs.length := by
    rcases Nat.lt_or_ge i xs.length with g | g
    · exact g
    · rw [List.getElem?_eq_none g] at hx; cases hx
  have hc : cs[i]? = some cs[i] := List.getElem?_eq_getElem (by omega)
  refine ⟨cs[i], ?_, hel i x _ hx hc⟩
  have hs : Seg w' b 0 (catI cs) := Bk.seg (T := e) h.here
  have := hs.sub (i * sz) (xs := cs[i]) (fun j v hv => catI_get h3 hc j v hv)
  exact this

theorem insBy_pair {α : Type} {le : α → α → Bool} (tr : ∀ a b c, le b a = false → le c b = false → le c a = false) (as : ∀ a b, le a b = true → le b a = false) (x : α) : ∀ xs : List α, xs.Pairwise (fun a b => le b a = false) → (insBy le x xs).Pairwise (fun a b => le b a = false)
  | [], _ => by simp [insBy]
  | y :: ys, h => by
    simp only [insBy]
    cases c : le y x with
    | true =>
      rw [List.pairwise_cons] at h
      refine List.pairwise_cons.2 ⟨fun z hz => ?_, insBy_pair tr as x ys h.2⟩
      rcases List.mem_cons.1 ((insBy_perm le x ys).mem_iff.1 hz) with rfl | hz
      · exact as _ _ c
      · exact h.1 z hz
    | false =>
      refine List.pairwise_cons.2 ⟨fun z hz => ?_, h⟩
      rcases List.mem_cons.1 hz with rfl | hz
      · exact c
      · exact tr _ _ _ c ((List.pairwise_cons.1 h).1 z hz)

theorem isort_pair {α : Type} {le : α → α → Bool} (tr : ∀ a b c, le b a = false → le c b = false → le c a = false) (as : ∀ a b, le a b = true → le b a = false) : ∀ xs : List α, (isort le xs).Pairwise (fun a b => le b a = false)
  | [] => List.Pairwise.nil
  | x :: xs => insBy_pair tr as x _ (isort_pair tr as xs)

theorem isort_rank (xs : List Rule) : (isort rankLess xs).Pairwise (fun a b => b.rank ≤ a.rank) := by
  refine (isort_pair (le := rankLess) ?_ ?_ xs).imp ?_
  · intro a b c h g; simp only [rankLess, decide_eq_false_iff_not] at *; omega
  · intro a b h; simp only [rankLess, decide_eq_false_iff_not, decide_eq_true_eq] at *; omega
  · intro a b h; simp only [rankLess, decide_eq_false_iff_not] at h; omega

/-- how many messages take something away -/
def nGone (was now : List Rule) : Nat := (gone now (ordOf was)).length

theorem between_len (was now : List Rule) : (betweenS was now).length ≤ was.length + now.length := by
  unfold betweenS
  rw [List.length_append, List.length_map, (isort_perm _ _).length_eq]
  have h1 := gone_le now (ordOf was)
  have h2 := ordOf_le was
  have h3 := addsOf_le was now (ordOf now)
  have h4 := ordOf_le now
  omega

theorem between_gone {was now : List Rule} {i : Nat} {m : RMsg} (h : (betweenS was now)[i]? = some m) (hi : i < nGone was now) : m.act = 3 := by
  unfold betweenS at h
  rw [List.getElem?_append_left hi] at h
  unfold gone at h
  rw [List.getElem?_map] at h
  simp only [Option.map_eq_some_iff] at h
  obtain ⟨p, _, rfl⟩ := h
  rfl

theorem between_add {was now : List Rule} {i : Nat} {m : RMsg} (h : (betweenS was now)[i]? = some m) (hi : nGone was now ≤ i) : m.act = 0 := by
  unfold betweenS at h
  rw [List.getElem?_append_right hi, List.getElem?_map] at h
  simp only [Option.map_eq_some_iff] at h
  obtain ⟨p, _, rfl⟩ := h
  rfl

theorem between_falls {was now : List Rule} {i : Nat} {m m' : RMsg} (h : (betweenS was now)[i]? = some m) (h' : (betweenS was now)[i + 1]? = some m') (hi : nGone was now ≤ i) : m'.rule.rank ≤ m.rule.rank := by
  unfold betweenS at h h'
  rw [List.getElem?_append_right hi, List.getElem?_map] at h
  rw [List.getElem?_append_right (by unfold nGone at hi; omega), List.getElem?_map, show i + 1 - (gone now (ordOf was)).length = i - (gone now (ordOf was)).length + 1 by unfold nGone at hi; omega] at h'
  simp only [Option.map_eq_some_iff] at h h'
  obtain ⟨a, ha, rfl⟩ := h
  obtain ⟨b, hb, rfl⟩ := h'
  have hp := isort_rank (addsOf was now (ordOf now))
  rw [List.pairwise_iff_getElem] at hp
  have l1 : i - (gone now (ordOf was)).length < (isort rankLess (addsOf was now (ordOf now))).length := by
    rcases Nat.lt_or_ge (i - (gone now (ordOf was)).length) (isort rankLess (addsOf was now (ordOf now))).length with g | g
    · exact g
    · rw [List.getElem?_eq_none g] at ha; cases ha
  have l2 : i - (gone now (ordOf was)).length + 1 < (isort rankLess (addsOf was now (ordOf now))).length := by
    rcases Nat.lt_or_ge (i - (gone now (ordOf was)).length + 1) (isort rankLess (addsOf was now (ordOf now))).length with g | g
    · exact g
    · rw [List.getElem?_eq_none g] at hb; cases hb
  have := hp _ _ l1 l2 (by omega)
  rw [List.getElem?_eq_getElem l1] at ha
  rw [List.getElem?_eq_getElem l2] at hb
  cases ha; cases hb
  exact this

end Go.Eng
