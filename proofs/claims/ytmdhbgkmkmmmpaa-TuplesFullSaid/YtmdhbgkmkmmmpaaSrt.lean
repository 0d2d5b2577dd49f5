/-
  Stable sorting, as Lean has it: which positions change places, and when a row is in order. No program in sight.
  No condition.
-/
namespace Go.Eng

/-- the places from a to b are shuffled, all others stay -/
def Pm (a b : Nat) (p q : Nat → Nat) : Prop :=
  ∃ s : Nat → Nat, (∀ k, q k = p (s k)) ∧ (∀ i j, s i = s j → i = j) ∧ (∀ k, a ≤ k → k < b → a ≤ s k ∧ s k < b) ∧ ∀ k, ¬ (a ≤ k ∧ k < b) → s k = k

theorem Pm.refl (a b : Nat) (p : Nat → Nat) : Pm a b p p := ⟨id, fun _ => rfl, fun _ _ h => h, fun _ h g => ⟨h, g⟩, fun _ _ => rfl⟩

theorem Pm.trans {a b : Nat} {p q r : Nat → Nat} (h : Pm a b p q) (g : Pm a b q r) : Pm a b p r := by
  obtain ⟨s, s1, s2, s3, s4⟩ := h
  obtain ⟨t, t1, t2, t3, t4⟩ := g
  refine ⟨fun k => s (t k), fun k => by rw [t1, s1], fun i j e => t2 i j (s2 _ _ e), fun k h1 h2 => s3 _ (t3 k h1 h2).1 (t3 k h1 h2).2, fun k hk => by
    show s (t k) = k
    rw [t4 k hk, s4 k hk]⟩

theorem Pm.wide {a b a' b' : Nat} {p q : Nat → Nat} (h : Pm a b p q) (ha : a' ≤ a) (hb : b ≤ b') : Pm a' b' p q := by
  obtain ⟨s, s1, s2, s3, s4⟩ := h
  refine ⟨s, s1, s2, fun k h1 h2 => ?_, fun k hk => s4 k (by omega)⟩
  by_cases c : a ≤ k ∧ k < b
  · have := s3 k c.1 c.2; omega
  · rw [s4 k c]; exact ⟨h1, h2⟩

theorem Pm.out {a b : Nat} {p q : Nat → Nat} (h : Pm a b p q) {k : Nat} (hk : ¬ (a ≤ k ∧ k < b)) : q k = p k := by
  obtain ⟨s, s1, _, _, s4⟩ := h
  rw [s1, s4 k hk]

/-- whatever holds of all in a range still holds -/
theorem Pm.all {a b c d : Nat} {p q : Nat → Nat} (h : Pm a b p q) (hc : c ≤ a ∧ b ≤ d ∨ d ≤ a ∨ b ≤ c) {T : Nat → Prop} (hT : ∀ k, c ≤ k → k < d → T (p k)) : ∀ k, c ≤ k → k < d → T (q k) := by
  intro k h1 h2
  by_cases g : a ≤ k ∧ k < b
  · obtain ⟨s, s1, _, s3, _⟩ := h
    have := s3 k g.1 g.2
    rw [s1]; exact hT _ (by omega) (by omega)
  · rw [h.out g]; exact hT k h1 h2

/-- two places change -/
def sw {α : Type} (p : Nat → α) (i j : Nat) : Nat → α := fun k => if k = i then p j else if k = j then p i else p k

theorem Pm.sw {a b i j : Nat} (p : Nat → Nat) (hi : a ≤ i ∧ i < b) (hj : a ≤ j ∧ j < b) : Pm a b p (sw p i j) := by
  refine ⟨fun k => if k = i then j else if k = j then i else k, fun k => ?_, fun x y e => ?_, fun k h1 h2 => ?_, fun k hk => ?_⟩
  · simp only [Eng.sw]; split
    · rfl
    · split <;> rfl
  · simp only at e; split at e <;> split at e <;> (try split at e) <;> (try split at e) <;> omega
  · simp only; split
    · omega
    · split <;> omega
  · simp only
    rw [if_neg (by omega), if_neg (by omega)]

/-! ### orders -/

/-- what the elements at two places of the first row are to one another -/
structure SOrd (less : Nat → Nat → Bool) : Prop where
  asymm : ∀ {i j}, less i j = true → less j i = false
  trans : ∀ {i j k}, less j i = false → less k j = false → less k i = false

variable {less : Nat → Nat → Bool}

/-- less, or alike and ahead -/
def lt (less : Nat → Nat → Bool) (i j : Nat) : Prop := less i j = true ∨ (less j i = false ∧ i < j)

theorem lt_of_less {i j : Nat} (h : less i j = true) : lt less i j := .inl h
theorem lt_of_not {i j : Nat} (h : less j i = false) (hij : i < j) : lt less i j := .inr ⟨h, hij⟩
theorem lt_not (o : SOrd less) {i j : Nat} (h : lt less i j) : less j i = false := by
  rcases h with h | h
  · exact o.asymm h
  · exact h.1

theorem lt_trans (o : SOrd less) {i j k : Nat} (h : lt less i j) (g : lt less j k) : lt less i k := by
  have hki := o.trans (lt_not o h) (lt_not o g)
  cases c : less i k with
  | true => exact .inl c
  | false =>
    -- then all three are alike
    rcases h with h | ⟨h, hij⟩
    · have : less i j = false := o.trans (lt_not o g) c
      rw [h] at this; cases this
    · rcases g with g | ⟨g, hjk⟩
      · have : less j k = false := o.trans c h
        rw [g] at this; cases this
      · exact .inr ⟨hki, by omega⟩

theorem lt_irrefl (o : SOrd less) {i : Nat} (h : lt less i i) : False := by
  rcases h with h | ⟨_, h⟩
  · have := o.asymm h; rw [h] at this; cases this
  · omega

theorem lt_asymm (o : SOrd less) {i j : Nat} (h : lt less i j) (g : lt less j i) : False := lt_irrefl o (lt_trans o h g)

/-- a range is in order -/
def So (less : Nat → Nat → Bool) (p : Nat → Nat) (a b : Nat) : Prop := ∀ i j, a ≤ i → i < j → j < b → lt less (p i) (p j)

theorem So.less2 {p : Nat → Nat} {a b : Nat} (h : b ≤ a + 1) : So less p a b := fun i j _ _ _ => by omega

/-- all of one range comes ahead of all of the next one -/
def Ahead (T : Nat → Nat → Prop) (p : Nat → Nat) (a m b : Nat) : Prop := ∀ i j, a ≤ i → i < m → m ≤ j → j < b → T (p i) (p j)

theorem So.join {p : Nat → Nat} {a m b : Nat} (h1 : So less p a m) (h2 : So less p m b) (h3 : Ahead (lt less) p a m b) : So less p a b := by
  intro i j hi hij hj
  rcases Nat.lt_or_ge j m with c | c
  · exact h1 i j hi hij c
  · rcases Nat.lt_or_ge i m with c2 | c2
    · exact h3 i j hi c2 c hj
    · exact h2 i j c2 hij hj

theorem Ahead.pm {T : Nat → Nat → Prop} {p q : Nat → Nat} {a m b c d : Nat} (h : Ahead T p a m b) (g : Pm c d p q) (hcd : (a ≤ c ∧ d ≤ m) ∨ (m ≤ c ∧ d ≤ b)) : Ahead T q a m b := by
  intro i j hi him hj hjb
  have := g.all (c := a) (d := m) (by omega) (T := fun x => ∀ j, m ≤ j → j < b → T x (p j)) (fun k h1 h2 j h3 h4 => h k j h1 h2 h3 h4) i hi him
  exact g.all (c := m) (d := b) (by omega) (T := fun y => T (q i) y) (fun k h1 h2 => this k h1 h2) j hj hjb

theorem Ahead.out {T : Nat → Nat → Prop} {p q : Nat → Nat} {a m b c d : Nat} (h : Ahead T p a m b) (g : Pm c d p q) (hcd : b ≤ c ∨ d ≤ a) : Ahead T q a m b := by
  intro i j hi him hj hjb
  rw [g.out (by omega), g.out (by omega)]
  exact h i j hi him hj hjb

theorem So.out {p q : Nat → Nat} {a b c d : Nat} (h : So less p a b) (g : Pm c d p q) (hcd : b ≤ c ∨ d ≤ a) : So less q a b := by
  intro i j hi hij hj
  rw [g.out (by omega), g.out (by omega)]
  exact h i j hi hij hj

/-! ### inserting -/

/-- within one round: the element at j goes down -/
structure InsInv (less : Nat → Nat → Bool) (p : Nat → Nat) (a i j : Nat) (q : Nat → Nat) : Prop where
  pm : Pm a (i + 1) p q
  rest : ∀ x y, a ≤ x → x < y → y ≤ i → x ≠ j → y ≠ j → lt less (q x) (q y)
  above : ∀ y, j < y → y ≤ i → lt less (q j) (q y)
  it : q j = p i
  lo : a ≤ j
  hi : j ≤ i

theorem InsInv.start {p : Nat → Nat} {a i : Nat} (h : So less p a i) (hi : a ≤ i) : InsInv less p a i i p :=
  ⟨Pm.refl _ _ _, fun x y h1 h2 h3 _ h5 => h x y h1 h2 (by omega), fun y h1 h2 => by omega, rfl, hi, Nat.le_refl _⟩

theorem InsInv.step {p q : Nat → Nat} {a i j : Nat} (h : InsInv less p a i j q) (hj : a < j) (hl : less (q j) (q (j - 1)) = true) : InsInv less p a i (j - 1) (sw q j (j - 1)) := by
  have hlo := h.lo
  have hhi := h.hi
  refine ⟨h.pm.trans (Pm.sw q (by omega) (by omega)), fun x y h1 h2 h3 h4 h5 => ?_, fun y h1 h2 => ?_, ?_, by omega, by omega⟩
  · simp only [sw]
    by_cases cx : x = j
    · rw [if_pos cx, if_neg (by omega), if_neg (by omega)]
      exact h.rest _ _ (by omega) (by omega) h3 (by omega) (by omega)
    · rw [if_neg cx, if_neg h4]
      by_cases cy : y = j
      · rw [if_pos cy]; exact h.rest _ _ h1 (by omega) (by omega) cx (by omega)
      · rw [if_neg cy, if_neg h5]; exact h.rest _ _ h1 h2 h3 cx cy
  · simp only [sw]
    rw [if_neg (show j - 1 ≠ j by omega), if_pos True.intro]
    by_cases cy : y = j
    · rw [if_pos cy]; exact .inl hl
    · rw [if_neg cy, if_neg (by omega)]; exact h.above y (by omega) h2
  · simp only [sw]; rw [if_neg (by omega), if_pos True.intro]; exact h.it

theorem InsInv.stop {p q : Nat → Nat} {a i j : Nat} (o : SOrd less) (h : InsInv less p a i j q) (hp : ∀ x, a ≤ x → x < i → p x < p i) (hl : a < j → less (q j) (q (j - 1)) = false) : So less q a (i + 1) := by
  have hlo := h.lo
  have hhi := h.hi
  intro x y h1 h2 h3
  by_cases cx : x = j
  · subst cx; exact h.above y h2 (by omega)
  · by_cases cy : y = j
    · subst cy
      have hb : lt less (q (y - 1)) (q y) := by
        refine .inr ⟨hl (by omega), ?_⟩
        have hall : ∀ k, a ≤ k → k < i + 1 → q k ≤ p i := h.pm.all (c := a) (d := i + 1) (by omega) (T := fun z => z ≤ p i) (fun k g1 g2 => by
          by_cases c : k = i
          · rw [c]; exact Nat.le_refl _
          · exact Nat.le_of_lt (hp k g1 (by omega)))
        have h4 := hall (y - 1) (by omega) (by omega)
        have hne : q (y - 1) ≠ q y := by
          intro e
          obtain ⟨s, s1, s2, s3, s4⟩ := h.pm
          have e2 := h.it
          have := s3 (y - 1) (by omega) (by omega)
          have hs : s y ≠ s (y - 1) := fun e => by have := s2 _ _ e; omega
          have hy := s3 y (by omega) (by omega)
          -- both stand for the greatest of the range
          have f1 : s (y - 1) = i := by
            rcases Nat.lt_or_ge (s (y - 1)) i with c | c
            · have := hp _ this.1 c
              rw [← s1, e, e2] at this; omega
            · omega
          have f2 : s y = i := by
            rcases Nat.lt_or_ge (s y) i with c | c
            · have := hp _ hy.1 c
              rw [← s1, e2] at this; omega
            · omega
          exact hs (f2.trans f1.symm)
        rw [h.it] at hne ⊢; omega
      by_cases c : x = y - 1
      · rw [c]; exact hb
      · exact lt_trans o (h.rest x (y - 1) h1 (by omega) (by omega) cx (by omega)) hb
    · exact h.rest x y h1 h2 (by omega) cx cy

/-! ### merging -/

/-- the first of a range goes behind the others -/
def shl (p : Nat → Nat) (a k : Nat) : Nat → Nat := fun x => if a ≤ x ∧ x < k then p (x + 1) else if x = k then p a else p x
/-- the last of a range goes ahead of the others -/
def shr (p : Nat → Nat) (m k : Nat) : Nat → Nat := fun x => if k < x ∧ x ≤ m then p (x - 1) else if x = k then p m else p x

theorem shl_self (p : Nat → Nat) (a : Nat) : shl p a a = p := by
  funext x; simp only [shl]; rw [if_neg (by omega)]; split
  · rename_i h; rw [h]
  · rfl
theorem shr_self (p : Nat → Nat) (m : Nat) : shr p m m = p := by
  funext x; simp only [shr]; rw [if_neg (by omega)]; split
  · rename_i h; rw [h]
  · rfl

theorem shl_next (p : Nat → Nat) {a k : Nat} (h : a ≤ k) : sw (shl p a k) k (k + 1) = shl p a (k + 1) := by
  funext x; simp only [sw, shl, if_true]
  repeat' split
  all_goals first | rfl | (exfalso; omega) | (congr 1; omega)

theorem shr_next (p : Nat → Nat) {m k : Nat} (h : k ≤ m) (h0 : 0 < k) : sw (shr p m k) k (k - 1) = shr p m (k - 1) := by
  funext x; simp only [sw, shr, if_true]
  repeat' split
  all_goals first | rfl | (exfalso; omega) | (congr 1; omega)

theorem Pm.shl (p : Nat → Nat) {a k b : Nat} (h : a ≤ k) (hk : k < b) : Pm a b p (shl p a k) := by
  refine ⟨fun x => if a ≤ x ∧ x < k then x + 1 else if x = k then a else x, fun x => ?_, fun x y e => ?_, fun x h1 h2 => ?_, fun x hx => ?_⟩
  · simp only [Eng.shl]; split
    · rfl
    · split <;> rfl
  · simp only at e; split at e <;> split at e <;> (try split at e) <;> (try split at e) <;> omega
  · simp only; split
    · omega
    · split <;> omega
  · simp only
    rw [if_neg (by omega), if_neg (by omega)]

theorem Pm.shr (p : Nat → Nat) {m k a b : Nat} (h : k ≤ m) (ha : a ≤ k) (hm : m < b) : Pm a b p (shr p m k) := by
  refine ⟨fun x => if k < x ∧ x ≤ m then x - 1 else if x = k then m else x, fun x => ?_, fun x y e => ?_, fun x h1 h2 => ?_, fun x hx => ?_⟩
  · simp only [Eng.shr]; split
    · rfl
    · split <;> rfl
  · simp only at e; split at e <;> split at e <;> (try split at e) <;> (try split at e) <;> omega
  · simp only; split
    · omega
    · split <;> omega
  · simp only
    rw [if_neg (by omega), if_neg (by omega)]

/-- what merging asks for -/
structure SmPre (less : Nat → Nat → Bool) (p : Nat → Nat) (a m b : Nat) : Prop where
  am : a < m
  mb : m < b
  left : So less p a m
  right : So less p m b
  tags : Ahead (· < ·) p a m b

theorem merge_one_left (o : SOrd less) {p : Nat → Nat} {a b i : Nat} (h : SmPre less p a (a + 1) b) (hi : a + 1 ≤ i ∧ i ≤ b)
    (h1 : i = a + 1 ∨ less (p (i - 1)) (p a) = true) (h2 : i = b ∨ less (p i) (p a) = false) : So less (shl p a (i - 1)) a b := by
  have hlow : ∀ x, a < x → x < i → lt less (p x) (p a) := by
    intro x g1 g2
    rcases h1 with c | c
    · omega
    · by_cases e : x = i - 1
      · rw [e]; exact .inl c
      · exact lt_trans o (h.right x (i - 1) (by omega) (by omega) (by omega)) (.inl c)
  have hup : ∀ x, i ≤ x → x < b → lt less (p a) (p x) := by
    intro x g1 g2
    rcases h2 with c | c
    · omega
    · have h0 : lt less (p a) (p i) := .inr ⟨c, h.tags a i (by omega) (by omega) (by omega) (by omega)⟩
      by_cases e : x = i
      · rw [e]; exact h0
      · exact lt_trans o h0 (h.right i x (by omega) (by omega) g2)
  intro x y g1 g2 g3
  simp only [shl]
  by_cases cx : a ≤ x ∧ x < i - 1
  · rw [if_pos cx]
    by_cases cy : a ≤ y ∧ y < i - 1
    · rw [if_pos cy]; exact h.right _ _ (by omega) (by omega) (by omega)
    · rw [if_neg cy]
      by_cases cy2 : y = i - 1
      · rw [if_pos cy2]; exact hlow _ (by omega) (by omega)
      · rw [if_neg cy2]; exact h.right _ _ (by omega) (by omega) (by omega)
  · rw [if_neg cx, if_neg (show ¬ (a ≤ y ∧ y < i - 1) by omega), if_neg (show ¬ y = i - 1 by omega)]
    by_cases cx2 : x = i - 1
    · rw [if_pos cx2]; exact hup _ (by omega) (by omega)
    · rw [if_neg cx2]; exact h.right _ _ (by omega) (by omega) (by omega)

theorem merge_one_right (o : SOrd less) {p : Nat → Nat} {a m i : Nat} (h : SmPre less p a m (m + 1)) (hi : a ≤ i ∧ i ≤ m)
    (h1 : i = a ∨ less (p m) (p (i - 1)) = false) (h2 : i = m ∨ less (p m) (p i) = true) : So less (shr p m i) a (m + 1) := by
  have ham := h.am
  have hlow : ∀ x, a ≤ x → x < i → lt less (p x) (p m) := by
    intro x g1 g2
    rcases h1 with c | c
    · omega
    · have h0 : lt less (p (i - 1)) (p m) := .inr ⟨c, h.tags (i - 1) m (by omega) (by omega) (by omega) (by omega)⟩
      by_cases e : x = i - 1
      · rw [e]; exact h0
      · exact lt_trans o (h.left x (i - 1) (by omega) (by omega) (by omega)) h0
  have hup : ∀ x, i ≤ x → x < m → lt less (p m) (p x) := by
    intro x g1 g2
    rcases h2 with c | c
    · omega
    · by_cases e : x = i
      · rw [e]; exact .inl c
      · exact lt_trans o (.inl c) (h.left i x (by omega) (by omega) g2)
  intro x y g1 g2 g3
  simp only [shr]
  by_cases cx : i < x ∧ x ≤ m
  · rw [if_pos cx, if_pos (by omega)]; exact h.left _ _ (by omega) (by omega) (by omega)
  · rw [if_neg cx]
    by_cases cx2 : x = i
    · rw [if_pos cx2, if_pos (by omega)]; exact hup _ (by omega) (by omega)
    · rw [if_neg cx2]
      by_cases cy : i < y ∧ y ≤ m
      · rw [if_pos cy]; exact h.left _ _ (by omega) (by omega) (by omega)
      · rw [if_neg cy]
        by_cases cy2 : y = i
        · rw [if_pos cy2]; exact hlow _ (by omega) (by omega)
        · rw [if_neg cy2]; exact h.left _ _ (by omega) (by omega) (by omega)

/-- the range from a to m and the one from m to b change places -/
def rot {α : Type} (p : Nat → α) (a m b : Nat) : Nat → α := fun x => if a ≤ x ∧ x < a + (b - m) then p (x - a + m) else if a + (b - m) ≤ x ∧ x < b then p (x - (a + (b - m)) + a) else p x

/-- two ranges of n change places -/
def swr {α : Type} (p : Nat → α) (a b n : Nat) : Nat → α := fun x => if a ≤ x ∧ x < a + n then p (x - a + b) else if b ≤ x ∧ x < b + n then p (x - b + a) else p x

theorem swr_zero {α : Type} (p : Nat → α) (a b : Nat) : swr p a b 0 = p := by
  funext x; simp only [swr]; rw [if_neg (by omega), if_neg (by omega)]

theorem swr_next {α : Type} (p : Nat → α) {a b n : Nat} (h : a + n < b) : sw (swr p a b n) (a + n) (b + n) = swr p a b (n + 1) := by
  funext x; simp only [sw, swr]
  repeat' split
  all_goals first | rfl | (exfalso; omega) | (congr 1; omega)

theorem rot_gt {α : Type} (p : Nat → α) {m i j : Nat} (hi : i ≤ m) (h : j < i) : rot (swr p (m - i) m j) (m - (i - j)) m (m + j) = rot p (m - i) m (m + j) := by
  funext x; simp only [rot, swr]
  repeat' split
  all_goals first | rfl | (exfalso; omega) | (congr 1; omega)

theorem rot_lt {α : Type} (p : Nat → α) {m i j : Nat} (hi : i ≤ m) (h : i < j) : rot (swr p (m - i) (m + j - i) i) (m - i) m (m + (j - i)) = rot p (m - i) m (m + j) := by
  funext x; simp only [rot, swr]
  repeat' split
  all_goals first | rfl | (exfalso; omega) | (congr 1; omega)

theorem rot_eq {α : Type} (p : Nat → α) {m i : Nat} (hi : i ≤ m) : swr p (m - i) m i = rot p (m - i) m (m + i) := by
  funext x; simp only [rot, swr]
  repeat' split
  all_goals first | rfl | (exfalso; omega) | (congr 1; omega)

theorem rot_none {α : Type} (p : Nat → α) {a m b : Nat} (ha : a ≤ m) (hb : m ≤ b) (h : ¬ (a < m ∧ m < b)) : rot p a m b = p := by
  funext x; simp only [rot]
  repeat' split
  all_goals first | rfl | (exfalso; omega) | (congr 1; omega)

theorem Pm.rot (p : Nat → Nat) {a m b : Nat} (ha : a ≤ m) (hb : m ≤ b) : Pm a b p (rot p a m b) := by
  refine ⟨fun x => if a ≤ x ∧ x < a + (b - m) then x - a + m else if a + (b - m) ≤ x ∧ x < b then x - (a + (b - m)) + a else x, fun x => ?_, fun x y e => ?_, fun x h1 h2 => ?_, fun x hx => ?_⟩
  · simp only [Eng.rot]; split
    · rfl
    · split <;> rfl
  · simp only at e; split at e <;> split at e <;> (try split at e) <;> (try split at e) <;> omega
  · simp only; split
    · omega
    · split <;> omega
  · simp only
    rw [if_neg (by omega), if_neg (by omega)]

/-- what is known where the search has ended -/
structure SmCut (less : Nat → Nat → Bool) (p : Nat → Nat) (a m b s e mid : Nat) : Prop where
  bd : a < mid ∧ mid < b
  sum : s + e = mid + m
  s0 : a ≤ s
  s1 : s ≤ m
  s2 : s ≤ mid
  e1 : m ≤ e
  e0 : e ≤ b
  low : s = a ∨ e = b ∨ less (p e) (p (s - 1)) = false
  high : s = m ∨ e = m ∨ less (p (e - 1)) (p s) = true

/-- behind the rotation: two pairs of ranges, each to be merged, and the first pair goes ahead of the second one -/
theorem SmCut.parts (o : SOrd less) {p : Nat → Nat} {a m b s e mid : Nat} (h : SmPre less p a m b) (c : SmCut less p a m b s e mid) :
    Ahead (lt less) (rot p s m e) a mid b ∧ So less (rot p s m e) a s ∧ So less (rot p s m e) s mid ∧ Ahead (· < ·) (rot p s m e) a s mid ∧
    So less (rot p s m e) mid e ∧ So less (rot p s m e) e b ∧ Ahead (· < ·) (rot p s m e) mid e b := by
  obtain ⟨⟨hm1, hm2⟩, hsum, hs0, hs1, hs2, he1, he0, hlow, hhigh⟩ := c
  have ham := h.am
  have hmb := h.mb
  have r1 : ∀ x, x < s → rot p s m e x = p x := fun x g => by simp only [rot]; rw [if_neg (by omega), if_neg (by omega)]
  have r2 : ∀ x, s ≤ x → x < mid → rot p s m e x = p (x - s + m) := fun x g1 g2 => by simp only [rot]; rw [if_pos (by omega)]
  have r3 : ∀ x, mid ≤ x → x < e → rot p s m e x = p (x - mid + s) := fun x g1 g2 => by
    simp only [rot]; rw [if_neg (by omega), if_pos (by omega)]; congr 1; omega
  have r4 : ∀ x, e ≤ x → rot p s m e x = p x := fun x g => by simp only [rot]; rw [if_neg (by omega), if_neg (by omega)]
  have lo : ∀ x y, a ≤ x → x < s → e ≤ y → y < b → lt less (p x) (p y) := by
    intro x y g1 g2 g3 g4
    rcases hlow with c | c | c
    · omega
    · omega
    · have h0 : lt less (p (s - 1)) (p e) := .inr ⟨c, h.tags _ _ (by omega) (by omega) (by omega) (by omega)⟩
      have h1 : lt less (p x) (p e) := by
        by_cases q : x = s - 1
        · rw [q]; exact h0
        · exact lt_trans o (h.left x (s - 1) g1 (by omega) (by omega)) h0
      by_cases q : y = e
      · rw [q]; exact h1
      · exact lt_trans o h1 (h.right e y (by omega) (by omega) g4)
  have hi : ∀ x y, m ≤ x → x < e → s ≤ y → y < m → lt less (p x) (p y) := by
    intro x y g1 g2 g3 g4
    rcases hhigh with c | c | c
    · omega
    · omega
    · have h0 : lt less (p (e - 1)) (p s) := .inl c
      have h1 : lt less (p x) (p s) := by
        by_cases q : x = e - 1
        · rw [q]; exact h0
        · exact lt_trans o (h.right x (e - 1) g1 (by omega) (by omega)) h0
      by_cases q : y = s
      · rw [q]; exact h1
      · exact lt_trans o h1 (h.left s y (by omega) (by omega) g4)
  refine ⟨fun x y g1 g2 g3 g4 => ?_, fun x y g1 g2 g3 => ?_, fun x y g1 g2 g3 => ?_, fun x y g1 g2 g3 g4 => ?_, fun x y g1 g2 g3 => ?_, fun x y g1 g2 g3 => ?_, fun x y g1 g2 g3 g4 => ?_⟩
  · by_cases cx : x < s
    · rw [r1 x cx]
      by_cases cy : y < e
      · rw [r3 y g3 cy]; exact h.left _ _ g1 (by omega) (by omega)
      · rw [r4 y (by omega)]; exact lo _ _ g1 cx (by omega) g4
    · rw [r2 x (by omega) g2]
      by_cases cy : y < e
      · rw [r3 y g3 cy]; exact hi _ _ (by omega) (by omega) (by omega) (by omega)
      · rw [r4 y (by omega)]; exact h.right _ _ (by omega) (by omega) g4
  · rw [r1 x (by omega), r1 y (by omega)]; exact h.left _ _ g1 g2 (by omega)
  · rw [r2 x (by omega) (by omega), r2 y (by omega) (by omega)]; exact h.right _ _ (by omega) (by omega) (by omega)
  · rw [r1 x (by omega), r2 y (by omega) (by omega)]; exact h.tags _ _ (by omega) (by omega) (by omega) (by omega)
  · rw [r3 x (by omega) (by omega), r3 y (by omega) (by omega)]; exact h.left _ _ (by omega) (by omega) (by omega)
  · rw [r4 x (by omega), r4 y (by omega)]; exact h.right _ _ (by omega) (by omega) (by omega)
  · rw [r3 x (by omega) (by omega), r4 y (by omega)]; exact h.tags _ _ (by omega) (by omega) (by omega) (by omega)

/-! ### runs -/

/-- a range holds what stood there -/
def OwnR (q : Nat → Nat) (x y : Nat) : Prop := ∀ k, x ≤ k → k < y → x ≤ q k ∧ q k < y

/-- runs side by side, each in order -/
inductive Runs (less : Nat → Nat → Bool) (q : Nat → Nat) (bs : Nat) : Nat → Nat → Prop
  | done {x y : Nat} (h : y ≤ x) : Runs less q bs x y
  | step {x y z : Nat} (h : x < y) (hz : z = x + bs ∧ z ≤ y ∨ z = y ∧ y < x + bs) (hs : So less q x z) (ho : OwnR q x z) (hr : Runs less q bs (x + bs) y) : Runs less q bs x y

theorem Runs.inv {q : Nat → Nat} {bs x y : Nat} (h : Runs less q bs x y) (hxy : x < y) : ∃ z, (z = x + bs ∧ z ≤ y ∨ z = y ∧ y < x + bs) ∧ So less q x z ∧ OwnR q x z ∧ Runs less q bs (x + bs) y := by
  cases h with
  | done h => omega
  | step h hz hs ho hr => exact ⟨_, hz, hs, ho, hr⟩

theorem So.congr {p q : Nat → Nat} {a b : Nat} (h : So less p a b) (e : ∀ k, a ≤ k → k < b → q k = p k) : So less q a b := by
  intro i j hi hij hj
  rw [e i hi (by omega), e j (by omega) hj]; exact h i j hi hij hj

theorem OwnR.congr {p q : Nat → Nat} {a b : Nat} (h : OwnR p a b) (e : ∀ k, a ≤ k → k < b → q k = p k) : OwnR q a b := by
  intro k h1 h2; rw [e k h1 h2]; exact h k h1 h2

theorem OwnR.pm {p q : Nat → Nat} {a b : Nat} (h : OwnR p a b) (g : Pm a b p q) : OwnR q a b := fun k h1 h2 =>
  g.all (c := a) (d := b) (by omega) (T := fun v => a ≤ v ∧ v < b) h k h1 h2

theorem OwnR.join {p : Nat → Nat} {a m b : Nat} (h : OwnR p a m) (g : OwnR p m b) (ham : a ≤ m) (hmb : m ≤ b) : OwnR p a b := by
  intro k h1 h2
  rcases Nat.lt_or_ge k m with c | c
  · have := h k h1 c; omega
  · have := g k c h2; omega

theorem OwnR.ahead {p : Nat → Nat} {a m b : Nat} (h : OwnR p a m) (g : OwnR p m b) : Ahead (· < ·) p a m b := by
  intro i j hi him hj hjb
  have := h i hi him; have := g j hj hjb
  show p i < p j
  omega

theorem Runs.congr {p q : Nat → Nat} {bs x y : Nat} (h : Runs less p bs x y) (e : ∀ k, x ≤ k → k < y → q k = p k) : Runs less q bs x y := by
  induction h with
  | done h => exact .done h
  | step h hz hs ho hr ih => exact .step h hz (hs.congr fun k h1 h2 => e k h1 (by omega)) (ho.congr fun k h1 h2 => e k h1 (by omega)) (ih fun k h1 h2 => e k (by omega) h2)

theorem Runs.zero {q : Nat → Nat} {bs n : Nat} (hq : Runs less q bs 0 n) (hb : n ≤ bs) : So less q 0 n := by
  rcases Nat.eq_zero_or_pos n with c | c
  · exact So.less2 (by omega)
  · obtain ⟨z, hz, hs, _⟩ := hq.inv c
    have e : z = n := by omega
    exact e ▸ hs

/-- the runs from x on, if made, make all of them -/
def Left (less : Nat → Nat → Bool) (q : Nat → Nat) (bs x n : Nat) : Prop := ∀ q', (∀ k, k < x → q' k = q k) → Runs less q' bs x n → Runs less q' bs 0 n

theorem Left.zero {q : Nat → Nat} {bs n : Nat} : Left less q bs 0 n := fun _ _ h => h

theorem Left.next {p q : Nat → Nat} {bs x z n : Nat} (h : Left less p bs x n) (hxn : x < n) (g : Pm x z p q) (hz : z = x + bs ∧ z ≤ n ∨ z = n ∧ n < x + bs) (hs : So less q x z) (ho : OwnR q x z) : Left less q bs (x + bs) n := by
  intro q' e hr
  refine h q' (fun k hk => ?_) (.step hxn hz (hs.congr fun k h1 h2 => e k (by omega)) (ho.congr fun k h1 h2 => e k (by omega)) hr)
  rw [e k (by omega)]; exact g.out (by omega)

theorem Left.end {q : Nat → Nat} {bs x n : Nat} (h : Left less q bs x n) (hx : n ≤ x) : Runs less q bs 0 n := h q (fun _ _ => rfl) (.done hx)

/-! ### the whole, as a list -/

/-- insertion, an earlier one stays ahead of those that are like it -/
def insBy {α : Type} (le : α → α → Bool) (x : α) : List α → List α
  | [] => [x]
  | y :: ys => bif le y x then y :: insBy le x ys else x :: y :: ys

/-- stable sorting: 'le y x' says that y is less than x -/
def isort {α : Type} (le : α → α → Bool) : List α → List α
  | [] => []
  | x :: xs => insBy le x (isort le xs)

theorem insBy_map {α β : Type} (le : β → β → Bool) (f : α → β) (x : α) : ∀ xs : List α, insBy le (f x) (xs.map f) = (insBy (fun a b => le (f a) (f b)) x xs).map f
  | [] => rfl
  | y :: ys => by
    simp only [List.map_cons, insBy]
    cases le (f y) (f x) with
    | true => simp [insBy_map le f x ys]
    | false => rfl

theorem isort_map {α β : Type} (le : β → β → Bool) (f : α → β) : ∀ xs : List α, isort le (xs.map f) = (isort (fun a b => le (f a) (f b)) xs).map f
  | [] => rfl
  | x :: xs => by
    simp only [List.map_cons, isort]
    rw [isort_map le f xs, insBy_map]

theorem insBy_perm {α : Type} (le : α → α → Bool) (x : α) : ∀ xs : List α, (insBy le x xs).Perm (x :: xs)
  | [] => List.Perm.refl _
  | y :: ys => by
    simp only [insBy]
    cases le y x with
    | true => exact ((insBy_perm le x ys).cons y).trans (List.Perm.swap _ _ _)
    | false => exact List.Perm.refl _

theorem isort_perm {α : Type} (le : α → α → Bool) : ∀ xs : List α, (isort le xs).Perm xs
  | [] => List.Perm.refl _
  | x :: xs => (insBy_perm le x _).trans ((isort_perm le xs).cons x)

theorem insBy_lt (o : SOrd less) (x : Nat) : ∀ xs : List Nat, xs.Pairwise (lt less) → (∀ y ∈ xs, x < y) → (insBy less x xs).Pairwise (lt less)
  | [], _, _ => by simp [insBy]
  | y :: ys, h, hx => by
    simp only [insBy]
    cases c : less y x with
    | true =>
      rw [List.pairwise_cons] at h
      refine List.pairwise_cons.2 ⟨fun z hz => ?_, insBy_lt o x ys h.2 fun z hz => hx z (by simp [hz])⟩
      rcases List.mem_cons.1 ((insBy_perm less x ys).mem_iff.1 hz) with rfl | hz
      · exact .inl c
      · exact h.1 z hz
    | false =>
      have h0 : lt less x y := .inr ⟨c, hx y (by simp)⟩
      refine List.pairwise_cons.2 ⟨fun z hz => ?_, h⟩
      rcases List.mem_cons.1 hz with rfl | hz
      · exact h0
      · exact lt_trans o h0 ((List.pairwise_cons.1 h).1 z hz)

theorem isort_lt (o : SOrd less) : ∀ xs : List Nat, xs.Pairwise (· < ·) → (isort less xs).Pairwise (lt less)
  | [], _ => List.Pairwise.nil
  | x :: xs, h => by
    rw [List.pairwise_cons] at h
    exact insBy_lt o x _ (isort_lt o xs h.2) fun y hy => h.1 y ((isort_perm less xs).mem_iff.1 hy)

theorem pairwise_unique {T : Nat → Nat → Prop} (asym : ∀ i j, T i j → T j i → False) : ∀ {xs ys : List Nat}, xs.Perm ys → xs.Pairwise T → ys.Pairwise T → xs = ys
  | [], ys, h, _, _ => (List.Perm.nil_eq h)
  | x :: xs, [], h, _, _ => by have := h.length_eq; simp at this
  | x :: xs, y :: ys, h, hx, hy => by
    rw [List.pairwise_cons] at hx hy
    have e : x = y := by
      rcases List.mem_cons.1 (h.mem_iff.1 (List.mem_cons_self ..)) with e | e
      · exact e
      · rcases List.mem_cons.1 (h.mem_iff.2 (List.mem_cons_self ..)) with e2 | e2
        · exact e2.symm
        · exact (asym _ _ (hx.1 y e2) (hy.1 x e)).elim
    subst e
    rw [pairwise_unique asym h.cons_inv hx.2 hy.2]

theorem nodup_subset_perm : ∀ {l m : List Nat}, l.Nodup → l ⊆ m → m.length ≤ l.length → l.Perm m
  | [], m, _, _, h => by
    have : m = [] := List.eq_nil_of_length_eq_zero (by simpa using h)
    subst this; exact List.Perm.refl _
  | x :: xs, m, hn, hs, h => by
    rw [List.nodup_cons] at hn
    have hx : x ∈ m := hs (by simp)
    refine List.Perm.trans ?_ (List.perm_cons_erase hx).symm
    refine (nodup_subset_perm hn.2 (fun y hy => ?_) ?_).cons x
    · have hne : y ≠ x := fun e => hn.1 (e ▸ hy)
      exact (List.mem_erase_of_ne hne).2 (hs (by simp [hy]))
    · rw [List.length_erase_of_mem hx]; simp at h; omega

theorem inj_range_perm {n : Nat} {s : Nat → Nat} (hinj : ∀ i j, s i = s j → i = j) (hs : ∀ k, k < n → s k < n) : ((List.range n).map s).Perm (List.range n) := by
  have hnd : ((List.range n).map s).Nodup := by
    rw [List.nodup_iff_pairwise_ne, List.pairwise_map]
    exact (List.nodup_iff_pairwise_ne.1 List.nodup_range).imp (fun h e => h (hinj _ _ e))
  have hsub : (List.range n).map s ⊆ List.range n := by
    intro x hx
    obtain ⟨k, hk, rfl⟩ := List.mem_map.1 hx
    simpa using hs k (by simpa using hk)
  exact nodup_subset_perm hnd hsub (by simp)

/-- a stable order of a list is the one that insertion gives -/
theorem isort_of {α : Type} (le : α → α → Bool) (f : Nat → α) {n : Nat} {q : Nat → Nat} (o : SOrd fun i j => le (f i) (f j)) (hp : Pm 0 n id q) (hs : So (fun i j => le (f i) (f j)) q 0 n) :
    (List.range n).map (fun k => f (q k)) = isort le ((List.range n).map f) := by
  rw [isort_map]
  have hq : (List.range n).map q = isort (fun i j => le (f i) (f j)) (List.range n) := by
    refine pairwise_unique (fun i j => lt_asymm o) ?_ ?_ (isort_lt o _ ?_)
    · obtain ⟨s, s1, s2, s3, _⟩ := hp
      have e : (List.range n).map q = (List.range n).map s := List.map_congr_left fun k _ => s1 k
      rw [e]
      exact (inj_range_perm s2 fun k hk => (s3 k (Nat.zero_le _) hk).2).trans (isort_perm _ _).symm
    · rw [List.pairwise_map]
      have hr : (List.range n).Pairwise (fun i j => i < j ∧ j < n) := by
        refine List.Pairwise.imp_of_mem (fun {i j} hi hj h => ⟨h, by simpa using hj⟩) List.pairwise_lt_range
      exact hr.imp fun h => hs _ _ (Nat.zero_le _) h.1 h.2
    · exact List.pairwise_lt_range
  rw [← hq, List.map_map]; rfl

end Go.Eng
