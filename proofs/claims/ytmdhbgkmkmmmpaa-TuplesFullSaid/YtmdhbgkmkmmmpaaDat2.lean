/-
  More of the program's data: places, lists of places, what 'last' of package diff tells; rows that a call owns.
  No condition.
-/
import Derived.Test.YtmdhbgkmkmmmpaaDat
import Derived.Test.YtmdhbgkmkmmmpaaEngG
import Derived.Test.YtmdhbgkmkmmmpaaEngI
namespace Go.Eng
open Go

abbrev AllB : Nat → Prop := fun _ => True
abbrev Bel (w : World) : Nat → Prop := fun k => k < w.heap.size

def Hdr.lits (h : Hdr) : List (IntKind × Int) :=
  [(.u64, (h 0 : Nat)), (.u64, (h 1 : Nat)), (.u64, (h 2 : Nat)), (.u64, (h 3 : Nat)), (.u64, (h 4 : Nat)), (.u64, (h 5 : Nat)), (.u64, (h 6 : Nat)), (.u64, (h 7 : Nat)), (.u64, (h 8 : Nat)), (.u64, (h 9 : Nat)), (.u64, (h 10 : Nat))]

theorem Hdr.lits_inj {a b : Hdr} (h : a.lits = b.lits) : a = b := by
  simp only [Hdr.lits, List.cons.injEq, Prod.mk.injEq, true_and, and_true] at h
  obtain ⟨h0, h1, h2, h3, h4, h5, h6, h7, h8, h9, h10⟩ := h
  funext i
  have : i = 0 ∨ i = 1 ∨ i = 2 ∨ i = 3 ∨ i = 4 ∨ i = 5 ∨ i = 6 ∨ i = 7 ∨ i = 8 ∨ i = 9 ∨ i = 10 := by omega
  rcases this with rfl | rfl | rfl | rfl | rfl | rfl | rfl | rfl | rfl | rfl | rfl <;> omega

theorem wf_u64 {n : Nat} (h : n < 18446744073709551616) : (Lit.int .u64 (n : Nat)).wf = true := by
  simp [Lit.wf, IntKind.min, IntKind.max, IntKind.signed, IntKind.bits]; omega
theorem wf_i64 {i : Int} (h : -9223372036854775808 ≤ i ∧ i < 9223372036854775808) : (Lit.int .i64 i).wf = true := by
  simp [Lit.wf, IntKind.min, IntKind.max, IntKind.signed, IntKind.bits]; omega
theorem wf_i8 {i : Int} (h : -128 ≤ i ∧ i < 128) : (Lit.int .i8 i).wf = true := by
  simp [Lit.wf, IntKind.min, IntKind.max, IntKind.signed, IntKind.bits]; omega

theorem Hdr.lits_wf {h : Hdr} (w : h.wf) : intsWf h.lits := by
  intro p hp
  simp only [Hdr.lits, List.mem_cons, List.not_mem_nil, or_false] at hp
  rcases hp with rfl | rfl | rfl | rfl | rfl | rfl | rfl | rfl | rfl | rfl | rfl <;> exact wf_u64 (w _)

def Mat.lits (m : Mat) : List (IntKind × Int) := m.val.lits ++ m.mask.lits
theorem Mat.lits_inj {a b : Mat} (h : a.lits = b.lits) : a = b := by
  have := List.append_inj h rfl
  cases a; cases b
  simp only [Mat.mk.injEq]
  exact ⟨Hdr.lits_inj this.1, Hdr.lits_inj this.2⟩
theorem Mat.lits_wf {m : Mat} (w : m.wf) : intsWf m.lits := by
  intro p hp
  rcases List.mem_append.1 hp with h | h
  · exact Hdr.lits_wf w.1 p h
  · exact Hdr.lits_wf w.2 p h

def Actn.lits (a : Actn) : List (IntKind × Int) := [(.i8, a.kind), (.i8, a.fld), (.u64, (a.num : Nat))]
theorem Actn.lits_inj {a b : Actn} (h : a.lits = b.lits) : a = b := by
  cases a; cases b
  simp only [Actn.lits, List.cons.injEq, Prod.mk.injEq, true_and, and_true] at h
  simp only [Actn.mk.injEq]
  exact ⟨h.1, h.2.1, by omega⟩
theorem Actn.lits_wf {a : Actn} (w : a.wf) : intsWf a.lits := by
  obtain ⟨h1, h2, h3, h4, h5⟩ := w
  intro p hp
  simp only [Actn.lits, List.mem_cons, List.not_mem_nil, or_false] at hp
  rcases hp with rfl | rfl | rfl
  · exact wf_i8 ⟨h1, h2⟩
  · exact wf_i8 ⟨h3, h4⟩
  · exact wf_u64 h5
theorem Actn.lits_ne (a b : Actn) : decide (a.lits ≠ b.lits) = decide (a ≠ b) := by
  by_cases h : a = b
  · subst h; simp
  · have : a.lits ≠ b.lits := fun e => h (Actn.lits_inj e)
    simp [h, this]

/-- where a rule stands -/
structure Pl where
  rank : Int
  mat : Mat
  deriving DecidableEq

def Pl.lits (p : Pl) : List (IntKind × Int) := (.i64, p.rank) :: p.mat.lits
def Pl.wf (p : Pl) : Prop := -9223372036854775808 ≤ p.rank ∧ p.rank < 9223372036854775808 ∧ p.mat.wf
def Pl.cells (p : Pl) : List Value := ints p.lits
def plKinds : List IntKind := .i64 :: List.replicate 22 .u64
theorem Pl.lits_inj (a b : Pl) (h : a.lits = b.lits) : a = b := by
  cases a; cases b
  simp only [Pl.lits, List.cons.injEq, Prod.mk.injEq, true_and] at h
  simp only [Pl.mk.injEq]
  exact ⟨h.1, Mat.lits_inj h.2⟩
theorem Pl.lits_wf {p : Pl} (w : p.wf) : intsWf p.lits := by
  intro q hq
  rcases List.mem_cons.1 hq with rfl | h
  · exact wf_i64 ⟨w.1, w.2.1⟩
  · exact Mat.lits_wf w.2.2 q h
theorem Pl.kinds (p : Pl) : p.lits.map (·.1) = plKinds := rfl
theorem Pl.len (p : Pl) : p.cells.length = 23 := rfl
theorem Pl.one (p : Pl) : ∀ c ∈ p.cells, c.oneCell' = true := by
  intro c hc
  simp only [Pl.cells, ints, List.mem_map] at hc
  obtain ⟨q, _, rfl⟩ := hc
  rfl
def plV (p : Pl) : Value := .agg p.cells.toArray

def plOf (r : Rule) : Pl := ⟨r.rank, r.mat⟩
theorem plOf_wf {r : Rule} (h : r.wf) : (plOf r).wf := ⟨h.1, h.2.1, h.2.2.1⟩

def plR : Rep Pl := fun _ _ cs p => cs = p.cells ∧ p.wf
theorem plR_ok : plR.Ok 23 where
  frame := fun h _ _ => h
  mono := fun h _ => h
  one := fun ⟨e, _⟩ c hc => by subst e; exact Pl.one _ c hc
  len := fun ⟨e, _⟩ => by subst e; rfl

/-! ### maps -/

theorem kvGet_set {κ : Type} [DecidableEq κ] (k j : κ) (v : Value) : ∀ kv : List (κ × Value), kvGet j (kvSet k v kv) = if k = j then some v else kvGet j kv
  | [] => by simp only [kvSet, kvGet]
  | (x, u) :: r => by
    simp only [kvSet]
    by_cases c : x = k
    · subst c
      rw [if_pos rfl]
      simp only [kvGet]
      by_cases d : x = j
      · simp [d]
      · simp [d]
    · rw [if_neg c]
      simp only [kvGet]
      rw [kvGet_set k j v r]
      by_cases d : x = j
      · subst d
        simp [Ne.symm c]
      · simp [d]

theorem kvSet_mem {κ : Type} [DecidableEq κ] {k : κ} {v : Value} {ok : κ → Prop} (hk : ok k) : ∀ {kv : List (κ × Value)}, (∀ p ∈ kv, ok p.1) → ∀ p ∈ kvSet k v kv, ok p.1
  | [], _, p, hp => by simp [kvSet] at hp; subst hp; exact hk
  | (x, u) :: r, h, p, hp => by
    simp only [kvSet] at hp
    by_cases c : x = k
    · rw [if_pos c] at hp
      rcases List.mem_cons.1 hp with rfl | hp
      · exact h (x, u) (by simp)
      · exact h p (by simp [hp])
    · rw [if_neg c] at hp
      rcases List.mem_cons.1 hp with rfl | hp
      · exact h _ (by simp)
      · exact kvSet_mem hk (fun q hq => h q (by simp [hq])) p hp

/-- the last rule of a place -/
def lastOf (l : List Rule) (p : Pl) : Option Rule := l.reverse.find? fun r => decide (plOf r = p)

theorem lastOf_snoc (l : List Rule) (x : Rule) (p : Pl) : lastOf (l ++ [x]) p = if plOf x = p then some x else lastOf l p := by
  unfold lastOf
  rw [List.reverse_append]
  simp only [List.reverse_cons, List.reverse_nil, List.nil_append, List.cons_append, List.find?_cons]
  by_cases c : plOf x = p <;> simp [c]

/-- a map that tells of each place the last rule of a list -/
def MapsTo (X : Nat → Prop) (w : World) (kv : List (Pl × Value)) (l : List Rule) : Prop :=
  ∀ p, match lastOf l p with
    | none => kvGet p kv = none
    | some x => ∃ c, kvGet p kv = some (.agg c.toArray) ∧ ruleR X w c x

theorem MapsTo.nil (X : Nat → Prop) (w : World) : MapsTo X w [] [] := fun _ => rfl
theorem MapsTo.snoc {X : Nat → Prop} {w : World} {kv : List (Pl × Value)} {l : List Rule} {x : Rule} {c : List Value} (h : MapsTo X w kv l) (hc : ruleR X w c x) : MapsTo X w (kvSet (plOf x) (.agg c.toArray) kv) (l ++ [x]) := by
  intro p
  rw [lastOf_snoc, kvGet_set]
  by_cases e : plOf x = p
  · rw [if_pos e, if_pos e]; exact ⟨c, rfl, hc⟩
  · rw [if_neg e, if_neg e]; exact h p
theorem MapsTo.frame {X S : Nat → Prop} {w w' : World} {kv : List (Pl × Value)} {l : List Rule} (h : MapsTo X w kv l) (f : Fr S w w') (hx : ∀ k, X k → ¬ S k) : MapsTo X w' kv l := by
  intro p
  have := h p
  cases e : lastOf l p with
  | none => rw [e] at this; exact this
  | some x => rw [e] at this; obtain ⟨c, h1, h2⟩ := this; exact ⟨c, h1, ruleR_ok.frame h2 f hx⟩

/-! ### places in order -/

def ordStep (acc : List Pl) (x : Rule) : List Pl := if plOf x ∈ acc then acc else acc ++ [plOf x]
def ords (xs : List Rule) : List Pl := xs.foldl ordStep []
theorem ords_snoc (xs : List Rule) (x : Rule) : ords (xs ++ [x]) = ordStep (ords xs) x := by simp [ords, List.foldl_append]
def cnt (xs : List Rule) (p : Pl) : Nat := xs.countP fun r => decide (plOf r = p)
theorem cnt_snoc (xs : List Rule) (x : Rule) (p : Pl) : cnt (xs ++ [x]) p = cnt xs p + if plOf x = p then 1 else 0 := by
  simp [cnt, List.countP_append, List.countP_cons]
theorem mem_ords (xs : List Rule) (p : Pl) : p ∈ ords xs ↔ 0 < cnt xs p := by
  have gen : ∀ (n : Nat) (xs : List Rule), xs.length = n → (p ∈ ords xs ↔ 0 < cnt xs p) := by
    intro n
    induction n with
    | zero => intro xs h; have : xs = [] := List.eq_nil_of_length_eq_zero h; subst this; simp [ords, cnt]
    | succ n ih =>
      intro xs h
      have hne : xs ≠ [] := by intro e; subst e; simp at h
      have hx := List.dropLast_concat_getLast hne
      generalize xs.getLast hne = x at hx
      rw [← hx] at h ⊢
      have := ih xs.dropLast (by simpa using h)
      rw [ords_snoc, cnt_snoc, ordStep]
      by_cases c : plOf x ∈ ords xs.dropLast
      · rw [if_pos c, this]
        by_cases d : plOf x = p
        · rw [d] at c; have := this.1 c; simp [d]; omega
        · simp [d]
      · rw [if_neg c]
        by_cases d : plOf x = p
        · simp [d]
        · simp [d, this, Ne.symm d]
  exact gen _ xs rfl
theorem cnt_le (xs : List Rule) (p : Pl) : cnt xs p ≤ xs.length := List.countP_le_length
theorem ords_le (xs : List Rule) : (ords xs).length ≤ xs.length := by
  have gen : ∀ (n : Nat) (xs : List Rule), xs.length = n → (ords xs).length ≤ xs.length := by
    intro n
    induction n with
    | zero => intro xs h; have : xs = [] := List.eq_nil_of_length_eq_zero h; subst this; simp [ords]
    | succ n ih =>
      intro xs h
      have hne : xs ≠ [] := by intro e; subst e; simp at h
      have hx := List.dropLast_concat_getLast hne
      generalize xs.getLast hne = x at hx
      rw [← hx] at h ⊢
      have := ih xs.dropLast (by simpa using h)
      rw [ords_snoc, ordStep]
      split <;> simp at * <;> omega
  exact gen _ xs rfl

/-- counts in a map -/
def Counts (kv : List (Pl × Value)) (xs : List Rule) : Prop := ∀ p, kvGet p kv = if cnt xs p = 0 then none else some (.int .i64 (cnt xs p : Nat))
theorem Counts.nil : Counts [] [] := fun p => by simp [cnt, kvGet]
theorem Counts.get {kv : List (Pl × Value)} {xs : List Rule} (h : Counts kv xs) (p : Pl) : (kvGet p kv).getD (.int .i64 0) = .int .i64 (cnt xs p : Nat) := by
  rw [h p]
  by_cases c : cnt xs p = 0
  · rw [if_pos c, c]; rfl
  · rw [if_neg c]; rfl
theorem Counts.snoc {kv : List (Pl × Value)} {xs : List Rule} (h : Counts kv xs) (x : Rule) : Counts (kvSet (plOf x) (.int .i64 ((cnt xs (plOf x) : Nat) + 1)) kv) (xs ++ [x]) := by
  intro p
  rw [kvGet_set, cnt_snoc]
  by_cases c : plOf x = p
  · subst c; simp
  · simp [c, h p]

/-! ### rows that a call owns -/

def catL {α : Type} (f : α → List Value) : List α → List Value
  | [] => []
  | x :: xs => f x ++ catL f xs

theorem catL_app {α : Type} (f : α → List Value) : ∀ xs ys : List α, catL f (xs ++ ys) = catL f xs ++ catL f ys
  | [], _ => rfl
  | x :: xs, ys => by simp [catL, catL_app f xs ys]

theorem catL_len {α : Type} {f : α → List Value} {sz : Nat} (h : ∀ x, (f x).length = sz) : ∀ xs : List α, (catL f xs).length = xs.length * sz
  | [] => by simp [catL]
  | x :: xs => by simp [catL, h x, catL_len h xs, Nat.succ_mul, Nat.add_comm]

theorem catL_get {α : Type} {f : α → List Value} {sz : Nat} (h : ∀ x, (f x).length = sz) : ∀ {xs : List α} {i : Nat} {x : α}, xs[i]? = some x → ∀ j v, (f x)[j]? = some v → (catL f xs)[i * sz + j]? = some v
  | [], i, x, e, _, _, _ => by simp at e
  | y :: ys, 0, x, e, j, v, hv => by
    simp at e; subst e
    simp only [catL, Nat.zero_mul, Nat.zero_add]
    have hj : j < (f y).length := by
      rcases Nat.lt_or_ge j (f y).length with c | c
      · exact c
      · rw [List.getElem?_eq_none c] at hv; cases hv
    rw [List.getElem?_append_left hj]; exact hv
  | y :: ys, i + 1, x, e, j, v, hv => by
    have := catL_get h (xs := ys) (i := i) (by simpa using e) j v hv
    simp only [catL]
    rw [List.getElem?_append_right (by rw [h y, Nat.succ_mul]; omega), h y, show (i + 1) * sz + j - sz = i * sz + j by rw [Nat.succ_mul]; omega]
    exact this

/-- an owned row as a block of elements -/
theorem Own.arr {w : World} {e sz m : Nat} {v : Value} {xs : List Value} (h : Own w e sz v m xs) (hm : 0 < m) (hm2 : m ≤ 140737488355328) (h1 : ∀ c ∈ xs, c.oneCell' = true) :
    ∃ b cap post, v = .slice (some ⟨b, 0, none⟩) m cap ∧ m ≤ cap ∧ m ≤ 140737488355328 ∧ Arr w b e sz m [] post (fun i => (xs.drop (i * sz)).take sz) := by
  rcases h.2 with ⟨_, h2⟩ | ⟨g, cap, cur, hv, hg, hh, hn, hc, hz, ht⟩
  · omega
  · have hlen := h.1
    refine ⟨g, cap, cur.toList.drop (m * sz), hv, hn, hm2, ?_, fun i hi => ?_, fun i hi c hc => ?_⟩
    · have e1 : cat (fun i => (xs.drop (i * sz)).take sz) m = xs := by
        have gen : ∀ k, k ≤ m → cat (fun i => (xs.drop (i * sz)).take sz) k = xs.take (k * sz) := by
          intro k
          induction k with
          | zero => intro _; simp [cat]
          | succ k ih =>
            intro hk
            simp only [cat]
            rw [ih (by omega), Nat.succ_mul, List.take_add]
        rw [gen m (Nat.le_refl _), List.take_of_length_le (by omega)]
      show w.heap[g]? = _
      rw [e1, hh, ← ht]
      simp
    · simp only [List.length_take, List.length_drop]
      have : i * sz + sz ≤ m * sz := by rw [← Nat.succ_mul]; exact Nat.mul_le_mul_right _ hi
      omega
    · exact h1 c (List.mem_of_mem_drop (List.mem_of_mem_take hc))

end Go.Eng
