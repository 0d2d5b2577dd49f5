/-
  Messages that bear rules; what package diff's Between tells, as Lean has it.
  No condition.
-/
import Derived.Test.YtmdhbgkmkmmmpaaDat4
namespace Go.Eng
open Go

/-- a message that bears a rule -/
structure RMsg where
  act : Int
  rule : Rule
  deriving DecidableEq

def msgCells (a : Int) (rc : List Value) : List Value :=
  .int .i8 5 :: .int .u32 0 :: .int .i8 a :: (rc ++ [.int .u16 0, .bool false, .int .u16 0, .slice none 0 0, .slice none 0 0, .slice none 0 0, .slice none 0 0, .int .u16 0])

def msgR : Rep RMsg := fun X w cs m => ∃ rc, cs = msgCells m.act rc ∧ ruleR X w rc m.rule

theorem msgR_ok : msgR.Ok 36 where
  frame := fun ⟨rc, e, h⟩ f hx => ⟨rc, e, ruleR_ok.frame h f hx⟩
  mono := fun ⟨rc, e, h⟩ hx => ⟨rc, e, ruleR_ok.mono h hx⟩
  one := fun ⟨rc, e, h⟩ c hc => by
    subst e
    simp only [msgCells, List.mem_cons, List.mem_append, List.not_mem_nil, or_false] at hc
    rcases hc with rfl | rfl | rfl | h1 | rfl | rfl | rfl | rfl | rfl | rfl | rfl | rfl
    · rfl
    · rfl
    · rfl
    · exact ruleR_ok.one h c h1
    all_goals rfl
  len := fun ⟨rc, e, h⟩ => by subst e; simp [msgCells, ruleR_ok.len h]

abbrev msgsR := SlR 36 msgR

/-! ### blocks below a bound -/

section tight
variable {X : Nat → Prop} {w : World} {v : Value}

theorem actsR_tight {xs : List Actn} (h : SlR 3 actR X w v xs) : SlR 3 actR (fun k => X k ∧ k < w.heap.size) w v xs := by
  rcases h with h | ⟨b, o, cap, h1, h2, h3, h4, h5, h6⟩
  · exact .inl h
  · exact .inr ⟨b, o, cap, h1, ⟨h2, h3⟩, h3, h4, h5, h6⟩

theorem cpsR_tight {xs : List (List Actn)} (h : SlR 1 cpsR X w v xs) : SlR 1 cpsR (fun k => X k ∧ k < w.heap.size) w v xs := by
  rcases h with h | ⟨b, o, cap, h1, h2, h3, h4, h5, h6⟩
  · exact .inl h
  · refine .inr ⟨b, o, cap, h1, ⟨h2, h3⟩, h3, h4, h5, fun i x e => ?_⟩
    obtain ⟨c, g1, u, g2, g3⟩ := h6 i x e
    exact ⟨c, g1, u, g2, actsR_tight g3⟩

theorem ruleR_tight {cs : List Value} {r : Rule} (h : ruleR X w cs r) : ruleR (fun k => X k ∧ k < w.heap.size) w cs r := by
  obtain ⟨cv, e, h1, h2⟩ := h
  exact ⟨cv, e, cpsR_tight h1, h2⟩

theorem rulesR_tight {xs : List Rule} (h : rulesR X w v xs) : rulesR (fun k => X k ∧ k < w.heap.size) w v xs := by
  rcases h with h | ⟨b, o, cap, h1, h2, h3, h4, h5, h6⟩
  · exact .inl h
  · refine .inr ⟨b, o, cap, h1, ⟨h2, h3⟩, h3, h4, h5, fun i x e => ?_⟩
    obtain ⟨c, g1, g2⟩ := h6 i x e
    exact ⟨c, g1, ruleR_tight g2⟩
end tight

/-! ### what Between tells -/

def ordOf (l : List Rule) : List Pl := (ords l.reverse).reverse
def strictMsg (p : Pl) : RMsg := ⟨3, ⟨p.rank, p.mat, [], 0⟩⟩
def gone (now : List Rule) (ps : List Pl) : List RMsg := (ps.filter fun p => (lastOf now p).isNone).map strictMsg
def addOf (was now : List Rule) (p : Pl) : Option Rule :=
  match lastOf now p with
  | none => none
  | some r => match lastOf was p with
    | none => some r
    | some o => if o.cookie = r.cookie ∧ o.cps = r.cps then none else some r
def addsOf (was now : List Rule) (ps : List Pl) : List Rule := ps.filterMap (addOf was now)
def rankLess (a b : Rule) : Bool := decide (b.rank < a.rank)
def addMsg (r : Rule) : RMsg := ⟨0, r⟩
def betweenS (was now : List Rule) : List RMsg := gone now (ordOf was) ++ (isort rankLess (addsOf was now (ordOf now))).map addMsg

theorem gone_snoc (now : List Rule) (ps : List Pl) (p : Pl) : gone now (ps ++ [p]) = gone now ps ++ (if (lastOf now p).isNone then [strictMsg p] else []) := by
  simp only [gone, List.filter_append, List.map_append]
  cases h : (lastOf now p).isNone <;> simp [h]

theorem addsOf_snoc (was now : List Rule) (ps : List Pl) (p : Pl) : addsOf was now (ps ++ [p]) = addsOf was now ps ++ (addOf was now p).toList := by
  simp only [addsOf, List.filterMap_append]
  cases h : addOf was now p <;> simp [h]

theorem lastOf_some {l : List Rule} {p : Pl} (h : p ∈ ordOf l) : ∃ r, lastOf l p = some r := by
  have h1 : p ∈ ords l.reverse := by simpa [ordOf] using h
  have h2 := (mem_ords _ _).1 h1
  unfold cnt at h2
  rw [List.countP_pos_iff] at h2
  obtain ⟨a, ha, hp⟩ := h2
  cases h3 : lastOf l p with
  | some r => exact ⟨r, rfl⟩
  | none =>
    unfold lastOf at h3
    rw [List.find?_eq_none] at h3
    exact absurd hp (h3 a ha)

theorem lastOf_mem {l : List Rule} {p : Pl} {r : Rule} (h : lastOf l p = some r) : r ∈ l ∧ plOf r = p := by
  unfold lastOf at h
  exact ⟨by simpa using List.mem_of_find?_eq_some h, by simpa using List.find?_some h⟩

theorem ordOf_le (l : List Rule) : (ordOf l).length ≤ l.length := by
  have := ords_le l.reverse
  simpa [ordOf] using this

theorem addsOf_le (was now : List Rule) (ps : List Pl) : (addsOf was now ps).length ≤ ps.length := List.length_filterMap_le _ _
theorem gone_le (now : List Rule) (ps : List Pl) : (gone now ps).length ≤ ps.length := by
  simp only [gone, List.length_map]; exact List.length_filter_le _ _

theorem addsOf_mem {was now : List Rule} {ps : List Pl} {r : Rule} (h : r ∈ addsOf was now ps) : r ∈ now := by
  simp only [addsOf, List.mem_filterMap] at h
  obtain ⟨p, _, hp⟩ := h
  unfold addOf at hp
  cases h1 : lastOf now p with
  | none => rw [h1] at hp; cases hp
  | some x =>
    rw [h1] at hp
    have hx := (lastOf_mem h1).1
    cases h2 : lastOf was p with
    | none => rw [h2] at hp; cases hp; exact hx
    | some o => rw [h2] at hp; simp only at hp; split at hp <;> cases hp; exact hx

theorem MapsTo.mono {X X' : Nat → Prop} {w : World} {kv : List (Pl × Value)} {l : List Rule} (h : MapsTo X w kv l) (hx : ∀ k, X k → X' k) : MapsTo X' w kv l := by
  intro p
  have := h p
  cases e : lastOf l p with
  | none => rw [e] at this; exact this
  | some x => rw [e] at this; obtain ⟨c, h1, h2⟩ := this; exact ⟨c, h1, ruleR_ok.mono h2 hx⟩

theorem upd_all {z c : List Value} (h : c.length = z.length) : upd z 0 c = c := by
  simp only [upd, List.take_zero, List.nil_append, Nat.zero_add, h, List.drop_length, List.append_nil]

/-- blocks that are there and are not this slice's own -/
def Xo (w : World) (v : Value) : Nat → Prop := fun j => j < w.heap.size ∧ v.ownBlock ≠ some j

end Go.Eng
