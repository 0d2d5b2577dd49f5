/-
  The plain law of DiffStill: between lists that hold the same nothing is to be said; what both have is not touched.
  No condition.
-/
import Derived.Test.YtmdhbgkmkmmmpaaDat6
namespace Go.Eng
open Go

/-- of each place the last rule, the last place first -/
def bkS : List Rule → List Rule
  | [] => []
  | x :: xs => if (xs.any fun y => decide (plOf y = plOf x)) = true then bkS xs else bkS xs ++ [x]

theorem lastOf_cons (x : Rule) (xs : List Rule) (p : Pl) : lastOf (x :: xs) p = (lastOf xs p).or (if plOf x = p then some x else none) := by
  unfold lastOf
  rw [List.reverse_cons, List.find?_append]
  congr 1
  simp only [List.find?_cons, List.find?_nil]
  by_cases c : plOf x = p <;> simp [c]

theorem lastOf_none {xs : List Rule} {p : Pl} : lastOf xs p = none ↔ ∀ y ∈ xs, plOf y ≠ p := by
  unfold lastOf
  rw [List.find?_eq_none]
  simp

theorem lastOf_bk : ∀ (l : List Rule) (p : Pl), lastOf (bkS l) p = lastOf l p
  | [], p => rfl
  | x :: xs, p => by
    simp only [bkS]
    split
    · rename_i h
      rw [lastOf_bk xs p, lastOf_cons]
      by_cases c : plOf x = p
      · rw [List.any_eq_true] at h
        obtain ⟨y, hy, hp⟩ := h
        cases e : lastOf xs p with
        | some z => rfl
        | none => exact absurd ((of_decide_eq_true hp).trans c) (lastOf_none.1 e y hy)
      · rw [if_neg c, Option.or_none]
    · rename_i h
      rw [lastOf_snoc, lastOf_bk xs p, lastOf_cons]
      by_cases c : plOf x = p
      · rw [if_pos c, if_pos c]
        have e : lastOf xs p = none := lastOf_none.2 fun y hy hp => h (by
          rw [List.any_eq_true]
          exact ⟨y, hy, decide_eq_true (hp.trans c.symm)⟩)
        rw [e]; rfl
      · rw [if_neg c, if_neg c, Option.or_none]

theorem bk_last : ∀ {l : List Rule} {x : Rule}, x ∈ bkS l → lastOf l (plOf x) = some x
  | [], x, h => by simp [bkS] at h
  | y :: ys, x, h => by
    simp only [bkS] at h
    rw [lastOf_cons]
    split at h
    · rw [bk_last h]; rfl
    · rename_i hn
      rcases List.mem_append.1 h with h | h
      · rw [bk_last h]; rfl
      · simp at h; subst h
        have e : lastOf ys (plOf x) = none := lastOf_none.2 fun z hz hp => hn (by
          rw [List.any_eq_true]
          exact ⟨z, hz, decide_eq_true hp⟩)
        rw [e, if_pos rfl]; rfl

theorem between_same {a b : List Rule} (h : ∀ p, lastOf b p = lastOf a p) : betweenS a b = [] := by
  have h1 : gone b (ordOf a) = [] := by
    unfold gone
    rw [List.map_eq_nil_iff, List.filter_eq_nil_iff]
    intro p hp
    obtain ⟨r, hr⟩ := lastOf_some hp
    rw [h p, hr]; simp
  have h2 : addsOf a b (ordOf b) = [] := by
    unfold addsOf
    rw [List.filterMap_eq_nil_iff]
    intro p hp
    unfold addOf
    rw [h p]
    cases lastOf a p with
    | none => rfl
    | some r => simp
  unfold betweenS
  rw [h1, h2]; rfl

theorem between_spares {was now : List Rule} {m : RMsg} {x y : Rule} (hm : m ∈ betweenS was now) (hx : lastOf now (plOf x) = some x) (hy : lastOf was (plOf y) = some y)
    (h1 : x.rank = y.rank) (h2 : x.mat = y.mat) (h3 : x.cookie = y.cookie) (h4 : x.cps = y.cps) (hp : m.rule.rank = x.rank ∧ m.rule.mat = x.mat) : False := by
  have hxy : plOf x = plOf y := by simp only [plOf, h1, h2]
  have hmp : plOf m.rule = plOf x := by simp only [plOf, hp.1, hp.2]
  unfold betweenS at hm
  rcases List.mem_append.1 hm with hm | hm
  · unfold gone at hm
    rw [List.mem_map] at hm
    obtain ⟨p, hpf, rfl⟩ := hm
    have hpn := (List.mem_filter.1 hpf).2
    have e : plOf (strictMsg p).rule = p := rfl
    rw [e] at hmp
    rw [hmp, hx] at hpn
    cases hpn
  · rw [List.mem_map] at hm
    obtain ⟨r, hr, rfl⟩ := hm
    have hr := (isort_perm _ _).mem_iff.1 hr
    unfold addsOf at hr
    rw [List.mem_filterMap] at hr
    obtain ⟨p, _, hpa⟩ := hr
    unfold addOf at hpa
    cases e1 : lastOf now p with
    | none => rw [e1] at hpa; cases hpa
    | some z =>
      rw [e1] at hpa
      have hz : r = z := by
        cases e2 : lastOf was p with
        | none => rw [e2] at hpa; cases hpa; rfl
        | some o => rw [e2] at hpa; simp only at hpa; split at hpa <;> cases hpa; rfl
      subst hz
      have hpr := (lastOf_mem e1).2
      have hpx : p = plOf x := hpr.symm.trans hmp
      rw [hpx, hx] at e1
      cases e1
      rw [hpx, hxy, hy] at hpa
      simp only at hpa
      rw [if_pos ⟨h3.symm, h4.symm⟩] at hpa
      cases hpa

end Go.Eng
