/-
  Small laws of lists, for loops over slices.
  No condition.
-/
import Derived.Test.YtmdhbgkmkmmmpaaStl
import Derived.Test.YtmdhbgkmkmmmpaaEngS
namespace Go.Eng
open Go

theorem any_snoc {α : Type} (l : List α) (f : α → Bool) (s k : Nat) (h : s ≤ k) (hk : k < l.length) :
    ((l.drop s).take (k + 1 - s)).any f = (((l.drop s).take (k - s)).any f || f l[k]) := by
  rw [show k + 1 - s = k - s + 1 by omega, List.take_succ_eq_append_getElem (by rw [List.length_drop]; omega), List.any_append]
  congr 1
  simp only [List.any_cons, List.any_nil, Bool.or_false, List.getElem_drop]
  simp only [show s + (k - s) = k from by omega]

theorem any_full {α : Type} (l : List α) (f : α → Bool) (s k : Nat) (hk : l.length ≤ k) : ((l.drop s).take (k - s)).any f = (l.drop s).any f := by
  rw [List.take_of_length_le (by rw [List.length_drop]; omega)]

theorem any_none {α : Type} (l : List α) (f : α → Bool) (s : Nat) : ((l.drop s).take (s - s)).any f = false := by
  rw [Nat.sub_self]; rfl

theorem getL {α : Type} {l : List α} {i : Nat} (h : i < l.length) : ∃ x, x = l[i] ∧ l[i]? = some x := ⟨_, rfl, List.getElem?_eq_getElem h⟩

/-- a fact stays where nothing old changes -/
theorem rf {α : Type} {R : Rep α} {sz : Nat} {X : Nat → Prop} {w w' : World} {c : List Value} {x : α} (h : R X w c x) (ok : R.Ok sz) (f : Fr0 w w') : R X w' c x := ok.frame h f (fun _ _ h => h)
theorem sf {α : Type} {R : Rep α} {sz : Nat} {X : Nat → Prop} {w w' : World} {v : Value} {x : List α} (h : SlR sz R X w v x) (ok : R.Ok sz) (f : Fr0 w w') : SlR sz R X w' v x := h.frame ok f (fun _ _ h => h)
/-- of a bound that grows -/
theorem sfB {α : Type} {R : Rep α} {sz : Nat} {w w' : World} {v : Value} {x : List α} (h : SlR sz R (Bel w) w v x) (ok : R.Ok sz) (f : Fr0 w w') : SlR sz R (Bel w') w' v x :=
  (sf h ok f).mono ok fun _ hk => Nat.lt_of_lt_of_le hk f.size

theorem ne_at {α : Type} {a b : List α} {i : Nat} {x y : α} (hx : a[i]? = some x) (hy : b[i]? = some y) (h : x ≠ y) : a ≠ b := fun e => by subst e; rw [hx] at hy; cases hy; exact h rfl
theorem ne_len {α : Type} {a b : List α} (h : a.length ≠ b.length) : a ≠ b := fun e => h (by rw [e])
theorem bfalse {α : Type} [DecidableEq α] {a b : α} (h : a ≠ b) : Value.bool false = Value.bool (decide (a = b)) := by rw [decide_eq_false h]
theorem btrue {α : Type} [DecidableEq α] {a b : α} (h : a = b) : Value.bool true = Value.bool (decide (a = b)) := by rw [decide_eq_true h]
theorem ext_upto {α : Type} {a b : List α} (hl : a.length = b.length) (h : ∀ j, j < a.length → a[j]? = b[j]?) : a = b := by
  apply List.ext_getElem?
  intro j
  rcases Nat.lt_or_ge j a.length with c | c
  · exact h j c
  · rw [List.getElem?_eq_none c, List.getElem?_eq_none (by omega)]

/-! ### what the reference of package diff tells -/

/-- of each place the last rule, in order -/
def refLast : List Rule → List Rule
  | [] => []
  | x :: xs => if (xs.any fun y => decide (plOf x = plOf y)) = true then refLast xs else x :: refLast xs

theorem refLast_bk (l : List Rule) : refLast l = (bkS l).reverse := by
  induction l with
  | nil => rfl
  | cons x xs ih =>
    have e : (xs.any fun y => decide (plOf x = plOf y)) = (xs.any fun y => decide (plOf y = plOf x)) := by
      congr 1; funext y; exact decide_eq_decide.2 eq_comm
    simp only [refLast, bkS, e]
    split
    · exact ih
    · rw [List.reverse_append, ih]; rfl

theorem refLast_le : ∀ l : List Rule, (refLast l).length ≤ l.length
  | [] => by simp [refLast]
  | x :: xs => by
    have := refLast_le xs
    simp only [refLast]
    split
    · simp; omega
    · simp; omega

theorem ords_cons_rev (x : Rule) (xs : List Rule) : ordOf (x :: xs) = if (xs.any fun y => decide (plOf x = plOf y)) = true then ordOf xs else plOf x :: ordOf xs := by
  unfold ordOf
  rw [List.reverse_cons, ords_snoc]
  unfold ordStep
  have hm : plOf x ∈ ords xs.reverse ↔ (xs.any fun y => decide (plOf x = plOf y)) = true := by
    rw [mem_ords, cnt, List.countP_pos_iff, List.any_eq_true]
    constructor
    · rintro ⟨a, ha, h⟩; exact ⟨a, by simpa using ha, by simpa using (of_decide_eq_true h).symm⟩
    · rintro ⟨a, ha, h⟩; exact ⟨a, by simpa using ha, by simpa using (of_decide_eq_true h).symm⟩
  by_cases c : plOf x ∈ ords xs.reverse
  · rw [if_pos c, if_pos (hm.1 c)]
  · rw [if_neg c, if_neg (fun h => c (hm.2 h)), List.reverse_append]; rfl

theorem refLast_pl : ∀ l : List Rule, (refLast l).map plOf = ordOf l
  | [] => rfl
  | x :: xs => by
    rw [ords_cons_rev]
    simp only [refLast]
    split
    · exact refLast_pl xs
    · rw [List.map_cons, refLast_pl xs]

theorem refLast_last {l : List Rule} {x : Rule} (h : x ∈ refLast l) : lastOf l (plOf x) = some x := by
  rw [refLast_bk] at h
  exact bk_last (by simpa using h)

theorem lastOf_refLast (l : List Rule) (p : Pl) : lastOf l p = (refLast l).find? fun r => decide (plOf r = p) := by
  cases h : (refLast l).find? fun r => decide (plOf r = p) with
  | some x =>
    have h1 := List.mem_of_find?_eq_some h
    have h2 : plOf x = p := by simpa using List.find?_some h
    rw [← h2]; exact refLast_last h1
  | none =>
    rw [List.find?_eq_none] at h
    cases e : lastOf l p with
    | none => rfl
    | some x =>
      exfalso
      have hp := (lastOf_mem e).2
      have h3 : p ∈ ordOf l := by
        rw [show ordOf l = (ords l.reverse).reverse from rfl, List.mem_reverse, mem_ords, cnt, List.countP_pos_iff]
        exact ⟨x, by simpa using (lastOf_mem e).1, by simpa using hp⟩
      rw [← refLast_pl, List.mem_map] at h3
      obtain ⟨y, hy, hyp⟩ := h3
      exact h y hy (by simpa using hyp)

/-- one more, behind all that are not less -/
def insAft (x : Rule) : List Rule → List Rule
  | [] => [x]
  | y :: ys => if y.rank < x.rank then x :: y :: ys else y :: insAft x ys

theorem insBy_pass {y z : Rule} {l : List Rule} (h : y.rank < z.rank) : insBy rankLess y (z :: l) = z :: insBy rankLess y l := by
  simp only [insBy, rankLess, h, decide_true, cond_true]
theorem insBy_here {y z : Rule} {l : List Rule} (h : ¬ y.rank < z.rank) : insBy rankLess y (z :: l) = y :: z :: l := by
  simp only [insBy, rankLess, h, decide_false, cond_false]
theorem insAft_here {x z : Rule} {l : List Rule} (h : z.rank < x.rank) : insAft x (z :: l) = x :: z :: l := by simp only [insAft, if_pos h]
theorem insAft_pass {x z : Rule} {l : List Rule} (h : ¬ z.rank < x.rank) : insAft x (z :: l) = z :: insAft x l := by simp only [insAft, if_neg h]

theorem insAft_comm (x y : Rule) : ∀ l : List Rule, l.Pairwise (fun a b => b.rank ≤ a.rank) → insBy rankLess y (insAft x l) = insAft x (insBy rankLess y l)
  | [], _ => by
    show insBy rankLess y [x] = insAft x [y]
    by_cases c : y.rank < x.rank
    · rw [insBy_pass c, insAft_here c]; rfl
    · rw [insBy_here c, insAft_pass c]; rfl
  | z :: l, h => by
    have ih := insAft_comm x y l (List.pairwise_cons.1 h).2
    by_cases c : z.rank < x.rank
    · rw [insAft_here c]
      by_cases d : y.rank < x.rank
      · rw [insBy_pass d]
        by_cases e : y.rank < z.rank
        · rw [insBy_pass e, insAft_here c]
        · rw [insBy_here e, insAft_here d]
      · have e : ¬ y.rank < z.rank := by omega
        rw [insBy_here d, insBy_here e, insAft_pass d, insAft_here c]
    · rw [insAft_pass c]
      by_cases e : y.rank < z.rank
      · rw [insBy_pass e, insBy_pass e, insAft_pass c, ih]
      · have d : ¬ y.rank < x.rank := by omega
        rw [insBy_here e, insBy_here e, insAft_pass d, insAft_pass c]

theorem isort_snoc (x : Rule) : ∀ l : List Rule, isort rankLess (l ++ [x]) = insAft x (isort rankLess l)
  | [] => rfl
  | y :: l => by
    show insBy rankLess y (isort rankLess (l ++ [x])) = insAft x (insBy rankLess y (isort rankLess l))
    rw [isort_snoc x l, insAft_comm x y _ (isort_rank l)]

/-- how it is put in: behind the last one that is not less -/
theorem insAft_split {x : Rule} : ∀ {l : List Rule} {k : Nat}, l.Pairwise (fun a b => b.rank ≤ a.rank) → k ≤ l.length → (∀ j y, k ≤ j → l[j]? = some y → y.rank < x.rank) → (∀ y, 0 < k → l[k - 1]? = some y → ¬ y.rank < x.rank) →
    insAft x l = l.take k ++ x :: l.drop k
  | [], k, _, hk, _, _ => by
    have : k = 0 := by simpa using hk
    subst this; rfl
  | z :: l, 0, _, _, h1, _ => by
    have := h1 0 z (Nat.le_refl _) rfl
    simp [insAft, this]
  | z :: l, k + 1, hp, hk, h1, h2 => by
    have hz : ¬ z.rank < x.rank := by
      have hlt : k < (z :: l).length := by simp at hk ⊢; omega
      obtain ⟨y, hy⟩ : ∃ y, (z :: l)[k]? = some y := ⟨_, List.getElem?_eq_getElem hlt⟩
      have h3 := h2 y (by omega) (by simpa using hy)
      cases k with
      | zero => simp at hy; subst hy; exact h3
      | succ k =>
        have : y ∈ l := List.mem_of_getElem? (by simpa using hy)
        have := (List.pairwise_cons.1 hp).1 y this
        omega
    simp only [insAft, if_neg hz, List.take_succ_cons, List.drop_succ_cons, List.cons_append]
    rw [insAft_split (k := k) (List.pairwise_cons.1 hp).2 (by simpa using hk) (fun j y hj hy => h1 (j + 1) y (by omega) (by simpa using hy)) (fun y hk0 hy => ?_)]
    have : k - 1 + 1 = k := by omega
    exact h2 y (by omega) (by rw [show k + 1 - 1 = (k - 1) + 1 by omega]; simpa using hy)

/-! ### the reference's answer is the program's -/

def refGone (b a : List Rule) : List RMsg := (a.filter fun x => !b.any fun y => decide (plOf x = plOf y)).map fun x => strictMsg (plOf x)
def refAdds (a b : List Rule) : List Rule := b.filter fun x => !a.any fun y => decide (x = y)
def refBetween (was now : List Rule) : List RMsg := refGone (refLast now) (refLast was) ++ (isort rankLess (refAdds (refLast was) (refLast now))).map addMsg

theorem refBetween_eq (was now : List Rule) : refBetween was now = betweenS was now := by
  unfold refBetween betweenS
  congr 1
  · unfold refGone gone
    rw [← refLast_pl was, List.filter_map, List.map_map]
    congr 1
    apply List.filter_congr
    intro x _
    simp only [Function.comp]
    rw [lastOf_refLast]
    cases h : (refLast now).find? fun r => decide (plOf r = plOf x) with
    | none =>
      rw [List.find?_eq_none] at h
      have : ((refLast now).any fun y => decide (plOf x = plOf y)) = false := by
        rw [List.any_eq_false]
        intro y hy e
        exact h y hy (by simpa using (of_decide_eq_true e).symm)
      rw [this]; rfl
    | some y =>
      have h1 := List.mem_of_find?_eq_some h
      have h2 : plOf y = plOf x := by simpa using List.find?_some h
      have : ((refLast now).any fun y => decide (plOf x = plOf y)) = true := by
        rw [List.any_eq_true]; exact ⟨y, h1, by simpa using h2.symm⟩
      rw [this]; rfl
  · congr 2
    unfold refAdds addsOf
    rw [← refLast_pl now, List.filterMap_map]
    have key : ∀ l : List Rule, (∀ x ∈ l, lastOf now (plOf x) = some x) → l.filter (fun x => !(refLast was).any fun y => decide (x = y)) = l.filterMap (addOf was now ∘ plOf) := by
      intro l
      induction l with
      | nil => intro _; rfl
      | cons x l ih =>
        intro h
        have hx := h x (by simp)
        have hr := ih (fun y hy => h y (by simp [hy]))
        rw [List.filter_cons, List.filterMap_cons, hr]
        have e : addOf was now (plOf x) = if ((refLast was).any fun y => decide (x = y)) = true then none else some x := by
          unfold addOf
          rw [hx]
          simp only
          rw [lastOf_refLast was]
          cases hf : (refLast was).find? fun r => decide (plOf r = plOf x) with
          | none =>
            rw [List.find?_eq_none] at hf
            have : ¬ ((refLast was).any fun y => decide (x = y)) = true := by
              rw [List.any_eq_true]
              rintro ⟨y, hy, e⟩
              have := of_decide_eq_true e
              subst this
              exact hf x hy (by simp)
            rw [if_neg this]
          | some o =>
            have h1 := List.mem_of_find?_eq_some hf
            have h2 : plOf o = plOf x := by simpa using List.find?_some hf
            have ho := refLast_last h1
            simp only
            by_cases c : o.cookie = x.cookie ∧ o.cps = x.cps
            · rw [if_pos c]
              have hxo : x = o := by
                have hr : o.rank = x.rank := congrArg Pl.rank h2
                have hm : o.mat = x.mat := congrArg Pl.mat h2
                cases x; cases o; simp_all
              have : ((refLast was).any fun y => decide (x = y)) = true := by
                rw [List.any_eq_true]; exact ⟨o, h1, by simpa using hxo⟩
              rw [if_pos this]
            · rw [if_neg c]
              have : ¬ ((refLast was).any fun y => decide (x = y)) = true := by
                rw [List.any_eq_true]
                rintro ⟨y, hy, e⟩
                have := of_decide_eq_true e
                subst this
                have hy2 := refLast_last hy
                rw [← h2, ho] at hy2
                cases hy2
                exact c ⟨rfl, rfl⟩
              rw [if_neg this]
        simp only [Function.comp, e]
        cases ((refLast was).any fun y => decide (x = y)) <;> simp
    exact key _ fun x hx => refLast_last hx

end Go.Eng
