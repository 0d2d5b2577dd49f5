/-
  The program's data as Lean has them: headers, matches, actions, rules; and the cells in which they lie.
  No condition.
-/
import Derived.Test.YtmdhbgkmkmmmpaaEngD
namespace Go.Eng
open Go

/-- a header: eleven numbers -/
abbrev Hdr := Fin 11 → Nat
def Hdr.cells (h : Hdr) : List Value :=
  [.int .u64 (h 0), .int .u64 (h 1), .int .u64 (h 2), .int .u64 (h 3), .int .u64 (h 4), .int .u64 (h 5), .int .u64 (h 6), .int .u64 (h 7), .int .u64 (h 8), .int .u64 (h 9), .int .u64 (h 10)]
instance : DecidableEq Hdr := fun f g => decidable_of_iff (∀ i, f i = g i) ⟨funext, fun h i => by rw [h]⟩
def Hdr.wf (h : Hdr) : Prop := ∀ i, h i < 18446744073709551616

structure Mat where
  val : Hdr
  mask : Hdr
  deriving DecidableEq

def Mat.cells (m : Mat) : List Value := m.val.cells ++ m.mask.cells
def Mat.wf (m : Mat) : Prop := m.val.wf ∧ m.mask.wf

structure Actn where
  kind : Int
  fld : Int
  num : Nat
  deriving DecidableEq

def Actn.cells (a : Actn) : List Value := [.int .i8 a.kind, .int .i8 a.fld, .int .u64 a.num]
def Actn.wf (a : Actn) : Prop := -128 ≤ a.kind ∧ a.kind < 128 ∧ -128 ≤ a.fld ∧ a.fld < 128 ∧ a.num < 18446744073709551616

structure Rule where
  rank : Int
  mat : Mat
  cps : List (List Actn)
  cookie : Nat
  deriving DecidableEq

def Rule.wf (r : Rule) : Prop := -9223372036854775808 ≤ r.rank ∧ r.rank < 9223372036854775808 ∧ r.mat.wf ∧ r.cookie < 18446744073709551616

/-- a rule's cells; 'cv' is the slice of its copies -/
def ruleCells (rank : Int) (m : Mat) (cv : Value) (cookie : Nat) : List Value := .int .i64 rank :: (m.cells ++ [cv, .int .u64 cookie])

/-! ### how data lie in memory -/

/-- a way to read data off cells; the first argument names the blocks that it may look into -/
abbrev Rep (α : Type) := (Nat → Prop) → World → List Value → α → Prop

structure Rep.Ok {α : Type} (R : Rep α) (sz : Nat) : Prop where
  frame : ∀ {X S w w' cs x}, R X w cs x → Fr S w w' → (∀ k, X k → ¬ S k) → R X w' cs x
  mono : ∀ {X X' : Nat → Prop} {w cs x}, R X w cs x → (∀ k, X k → X' k) → R X' w cs x
  one : ∀ {X w cs x}, R X w cs x → ∀ c ∈ cs, c.oneCell' = true
  len : ∀ {X w cs x}, R X w cs x → cs.length = sz

/-- the elements of a slice, in a row of cells from an address on -/
def Row {α : Type} (sz : Nat) (R : Rep α) (X : Nat → Prop) (w : World) (b o : Nat) (xs : List α) : Prop :=
  ∀ i x, xs[i]? = some x → ∃ c, Seg w b (o + i * sz) c ∧ R X w c x

/-- a slice's value, and what it holds -/
def SlR {α : Type} (sz : Nat) (R : Rep α) (X : Nat → Prop) (w : World) (v : Value) (xs : List α) : Prop :=
  (∃ p cap, v = .slice p 0 cap ∧ xs = []) ∨
  ∃ b o cap, v = .slice (some ⟨b, o, none⟩) xs.length cap ∧ X b ∧ b < w.heap.size ∧ xs.length ≤ cap ∧ xs.length ≤ 140737488355328 ∧ Row sz R X w b o xs

variable {α : Type} {R : Rep α} {sz : Nat} {X X' S : Nat → Prop} {w w' : World} {v : Value} {xs : List α}

theorem Row.frame {b o : Nat} (hR : R.Ok sz) (h : Row sz R X w b o xs) (f : Fr S w w') (hx : ∀ k, X k → ¬ S k) (hb : X b) : Row sz R X w' b o xs := by
  intro i x e
  obtain ⟨c, h1, h2⟩ := h i x e
  exact ⟨c, h1.frame f (hx b hb), hR.frame h2 f hx⟩

theorem SlR.frame (hR : R.Ok sz) (h : SlR sz R X w v xs) (f : Fr S w w') (hx : ∀ k, X k → ¬ S k) : SlR sz R X w' v xs := by
  rcases h with h | ⟨b, o, cap, h1, h2, h3, h4, h5, h6⟩
  · exact .inl h
  · exact .inr ⟨b, o, cap, h1, h2, Nat.lt_of_lt_of_le h3 f.size, h4, h5, h6.frame hR f hx h2⟩

theorem SlR.mono (hR : R.Ok sz) (h : SlR sz R X w v xs) (hx : ∀ k, X k → X' k) : SlR sz R X' w v xs := by
  rcases h with h | ⟨b, o, cap, h1, h2, h3, h4, h5, h6⟩
  · exact .inl h
  · refine .inr ⟨b, o, cap, h1, hx b h2, h3, h4, h5, fun i x e => ?_⟩
    obtain ⟨c, g1, g2⟩ := h6 i x e
    exact ⟨c, g1, hR.mono g2 hx⟩

theorem SlR.shape (h : SlR sz R X w v xs) : ∃ p cap, v = .slice p xs.length cap ∧ xs.length ≤ 140737488355328 := by
  rcases h with ⟨p, cap, rfl, rfl⟩ | ⟨b, o, cap, h1, h2, h3, h4, h5, h6⟩
  · exact ⟨p, cap, rfl, by simp⟩
  · exact ⟨_, _, h1, h5⟩

/-- where there is an element -/
theorem SlR.at (h : SlR sz R X w v xs) {i : Nat} (hi : i < xs.length) :
    ∃ b o cap, v = .slice (some ⟨b, o, none⟩) xs.length cap ∧ X b ∧ b < w.heap.size ∧ xs.length ≤ cap ∧ xs.length ≤ 140737488355328 ∧ Row sz R X w b o xs := by
  rcases h with ⟨p, cap, rfl, rfl⟩ | h
  · simp at hi
  · exact h

theorem SlR.at' {p : Option Addr} {n cap : Nat} (h : SlR sz R X w (.slice p n cap) xs) {i : Nat} (hi : i < xs.length) :
    ∃ b o, p = some ⟨b, o, none⟩ ∧ Row sz R X w b o xs := by
  obtain ⟨b, o, cap, h1, _, _, _, _, h6⟩ := h.at hi
  cases h1
  exact ⟨b, o, rfl, h6⟩

theorem SlR.one (h : SlR sz R X w v xs) : v.oneCell' = true := by
  obtain ⟨p, cap, rfl, _⟩ := h.shape; rfl

/-- a slice in one cell -/
def rowR {α : Type} (sz : Nat) (R : Rep α) : Rep (List α) := fun X w cs xs => ∃ v, cs = [v] ∧ SlR sz R X w v xs

theorem rowR_ok (hR : R.Ok sz) : (rowR sz R).Ok 1 where
  frame := fun ⟨v, e, h⟩ f hx => ⟨v, e, h.frame hR f hx⟩
  mono := fun ⟨v, e, h⟩ hx => ⟨v, e, h.mono hR hx⟩
  one := fun ⟨v, e, h⟩ c hc => by subst e; simp at hc; subst hc; exact h.one
  len := fun ⟨v, e, _⟩ => by subst e; rfl

def actR : Rep Actn := fun _ _ cs a => cs = a.cells ∧ a.wf
theorem actR_ok : actR.Ok 3 where
  frame := fun h _ _ => h
  mono := fun h _ => h
  one := fun ⟨e, _⟩ c hc => by subst e; simp [Actn.cells] at hc; rcases hc with rfl | rfl | rfl <;> rfl
  len := fun ⟨e, _⟩ => by subst e; rfl

/-- the copies of a rule -/
def cpsR : Rep (List Actn) := rowR 3 actR
theorem cpsR_ok : cpsR.Ok 1 := rowR_ok actR_ok

def ruleR : Rep Rule := fun X w cs r => ∃ cv, cs = ruleCells r.rank r.mat cv r.cookie ∧ SlR 1 cpsR X w cv r.cps ∧ r.wf

theorem cells_one (h : Hdr) : ∀ c ∈ h.cells, c.oneCell' = true := by
  intro c hc; simp [Hdr.cells] at hc
  rcases hc with rfl | rfl | rfl | rfl | rfl | rfl | rfl | rfl | rfl | rfl | rfl <;> rfl

theorem mat_one (m : Mat) : ∀ c ∈ m.cells, c.oneCell' = true := by
  intro c hc; simp only [Mat.cells, List.mem_append] at hc
  rcases hc with h | h <;> exact cells_one _ c h

theorem ruleCells_one {rank : Int} {m : Mat} {cv : Value} {ck : Nat} (h : cv.oneCell' = true) : ∀ c ∈ ruleCells rank m cv ck, c.oneCell' = true := by
  intro c hc
  simp only [ruleCells, List.mem_cons, List.mem_append, List.not_mem_nil, or_false] at hc
  rcases hc with rfl | h1 | rfl | rfl
  · rfl
  · exact mat_one m c h1
  · exact h
  · rfl

theorem ruleR_ok : ruleR.Ok 25 where
  frame := fun ⟨cv, e, h, hw⟩ f hx => ⟨cv, e, h.frame cpsR_ok f hx, hw⟩
  mono := fun ⟨cv, e, h, hw⟩ hx => ⟨cv, e, h.mono cpsR_ok hx, hw⟩
  one := fun ⟨cv, e, h, _⟩ => by subst e; exact ruleCells_one h.one
  len := fun ⟨cv, e, _, _⟩ => by subst e; rfl

abbrev rulesR := SlR 25 ruleR

end Go.Eng
