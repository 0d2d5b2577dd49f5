/-
  The engine, part A: how the model's operations, regions, branches and loops are stepped through, one lemma each, with the frame as a list of slots.
  No condition: general lemmas over any program.
-/
import Derived.Calls
import Derived.CallsIn
import Derived.WalkKit
import Derived.Sort.LoopGhostIn
namespace Go.Eng
open Go

/-! ### slots -/

/-- the value of a slot in a list of slots (the first one counts) -/
def look : List (Nat × Value) → Nat → Option Value
  | [], _ => none
  | (k, v) :: r, t => bif Nat.beq k t then some v else look r t

theorem beq_ne {a b : Nat} (h : a ≠ b) : Nat.beq a b = false := by
  cases h' : Nat.beq a b with
  | false => rfl
  | true => exact absurd (Nat.eq_of_beq_eq_true h') h

/-- a frame holds what a list of slots says -/
structure Has (n : Nat) (D : List Deferred) (L : List (Nat × Value)) (a : Act) : Prop where
  size : a.tmps.size = n
  defers : a.defers = D
  get : ∀ t v, look L t = some v → a.tmps[t]? = some v

/-- an operand's value -/
def evl (L : List (Nat × Value)) : Operand → Option Value
  | .tmp t => look L t
  | .const v => some v
  | .global g => some (.pointer (some ⟨g, 0, none⟩))
  | .func f => some (.func (.func f) #[] #[])

def evls (L : List (Nat × Value)) : List Operand → Option (List Value)
  | [] => some []
  | x :: xs => match evl L x, evls L xs with
    | some v, some vs => some (v :: vs)
    | _, _ => none

/-- every slot of the second list is in the first one -/
def Sub (L' L : List (Nat × Value)) : Prop := ∀ t v, look L' t = some v → look L t = some v

theorem Sub.nil (L : List (Nat × Value)) : Sub [] L := fun t v h => by simp [look] at h

theorem Sub.cons {L' L : List (Nat × Value)} {t : Nat} {v : Value} (h : look L t = some v) (hs : Sub L' L) : Sub ((t, v) :: L') L := by
  intro u x hx
  simp only [look] at hx
  by_cases e : t = u
  · subst e; simp at hx; rw [h, hx]
  · rw [beq_ne e] at hx; exact hs u x hx

theorem Sub.refl (L : List (Nat × Value)) : Sub L L := fun _ _ h => h

variable {n : Nat} {D : List Deferred} {L L' : List (Nat × Value)} {a : Act}

theorem Has.sub (h : Has n D L a) (hs : Sub L' L) : Has n D L' a := ⟨h.size, h.defers, fun t v e => h.get t v (hs t v e)⟩

theorem Has.eval (h : Has n D L a) {x : Operand} {v : Value} (e : evl L x = some v) : a.eval x = v := by
  cases x with
  | tmp t =>
    have := h.get t v e
    simp only [Act.eval, Array.getD_eq_getD_getElem?, this, Option.getD_some]
  | const v' => simpa [evl, Act.eval] using e
  | global g => simpa [evl, Act.eval] using e
  | func f => simpa [evl, Act.eval] using e

theorem Has.evals (h : Has n D L a) : ∀ {xs : List Operand} {vs : List Value}, evls L xs = some vs → xs.map a.eval = vs
  | [], vs, e => by simp [evls] at e; subst e; rfl
  | x :: xs, vs, e => by
    simp only [evls] at e
    split at e
    · rename_i v vs' h1 h2
      simp at e; subst e
      simp [h.eval h1, h.evals h2]
    · exact absurd e (by simp)

theorem Has.put (h : Has n D L a) {d : Nat} (hd : Nat.blt d n = true) (v : Value) : Has n D ((d, v) :: L) (a.put (some d) v) := by
  have hd' : d < n := by simpa [Nat.blt_eq] using hd
  refine ⟨by simp [Act.put, h.size], h.defers, fun t x e => ?_⟩
  simp only [look] at e
  by_cases c : d = t
  · subst c
    simp at e; subst e
    simp [Act.put, h.size, hd']
  · rw [beq_ne c] at e
    simp only [Act.put]
    rw [Array.getElem?_setIfInBounds_ne c]
    exact h.get t x e

theorem Has.putN (h : Has n D L a) (v : Value) : Has n D L (a.put none v) := h

/-! ### what is to be shown of a rest of a region, a code, an end -/

/-- an end is fine for all frames that hold L -/
def NX (Q : Exit → Act → World → Prop) (n : Nat) (D : List Deferred) (e : Exit) (L : List (Nat × Value)) (w : World) : Prop :=
  ∀ a, Has n D L a → Q e a w

/-- no fence; within a round of a range over a function, or not -/
def GF (r : Option Nat) : Fence := { Fence.wide with round := r }

def CW (r : Option Nat) (P : Program) (c : Code) (Q : Exit → Act → World → Prop) (n : Nat) (D : List Deferred) (L : List (Nat × Value)) (w : World) : Prop :=
  ∀ a, Has n D L a → c.wpIn (GF r) 0 P Q a w

/-- the operations of a region, one by one -/
def wpL (P : Program) (ops : Array Oper) (Q : Exit → Act → World → Prop) : List Oper → Act → World → Prop
  | [], a, w => Q .normal a w
  | o :: rest, a, w =>
    if Region.wanted o (yielded ops a.tmps) then o.wpIn Fence.wide 0 P a w (wpL P ops Q rest) Q
    else wpL P ops Q rest (a.put o.dst undef) w

def OW (P : Program) (ops : Array Oper) (Q : Exit → Act → World → Prop) (n : Nat) (D : List Deferred) (todo : List Oper) (L : List (Nat × Value)) (w : World) : Prop :=
  ∀ a, Has n D L a → wpL P ops Q todo a w

/-- no operation defers a call -/
def noDefer (r : Option Nat) (os : List Oper) : Bool := r.isNone || os.all fun o => match o.op with | .defer _ => false | _ => true

theorem sem_eq {r : Option Nat} {os : List Oper} (h : noDefer r os = true) {o : Oper} (ho : o ∈ os) (ρ : Operand → Value) : o.semAt r ρ = o.semAt none ρ := by
  rw [Oper.semAt_none]
  simp only [noDefer, Bool.or_eq_true] at h
  rcases h with h | h
  · cases r with
    | none => rfl
    | some l => cases h
  · rw [List.all_eq_true] at h
    have := h o ho
    refine Oper.semAt_eq r ρ o fun c e => ?_
    rw [e] at this; cases this

theorem wpIn_round {r : Option Nat} {P : Program} {os : List Oper} {o : Oper} {a : Act} {w : World} {K K' : Act → World → Prop} {Q Q' : Exit → Act → World → Prop} (hn : noDefer r os = true) (ho : o ∈ os)
    (hk : ∀ a w, K a w → K' a w) (hp : ∀ ch a w, Q (.panic ch) a w → Q' (.panic ch) a w) (hl : LetsOut Q → LetsOut Q') (h : o.wpIn Fence.wide 0 P a w K Q) : o.wpIn (GF r) 0 P a w K' Q' := by
  refine ⟨fun _ _ => trivial, ?_⟩
  have h2 := h.2
  show o.uponIn (GF r) 0 P a K' Q' ((o.semAt r a.eval).run P w)
  rw [sem_eq hn ho]
  have h3 : o.uponIn Fence.wide 0 P a K Q ((o.semAt none a.eval).run P w) := h2
  generalize (o.semAt none a.eval).run P w = res at h3 ⊢
  have hd : ∀ m : Nat, (GF r).depth.isSome = true → 1 ≤ m := fun _ c => by cases c
  cases res with
  | ok x w' =>
    cases x with
    | value v => exact hk _ _ h3
    | skip => exact hk _ _ h3
    | defer d => exact hk _ _ h3
    | enter f args =>
      refine ⟨hd _, ?_⟩
      refine CallsIn.mono (show CallsIn (GF r) 0 P f args w' _ from h3.2) fun e w'' he => ?_
      cases e with
      | returned v => exact hk _ _ he
      | panicked ch => exact hp _ _ _ he
      | outgrown => exact hl he
    | row row args => exact ⟨hd _, RowsIn.mono (show RowsIn (GF r) 0 P row args w' _ from h3.2) fun v w'' he => hk _ _ he⟩
    | round l f tmps assign body =>
      refine ⟨hd _, ?_⟩
      refine RoundIn.mono (show RoundIn (GF r) 0 P l f tmps assign body w' _ from h3.2) fun e w'' he => ?_
      cases e with
      | returned v => exact hk _ _ he
      | panicked ch => exact hp _ _ _ he
      | outgrown => exact hl he
    | _ => exact h3.elim
  | halt x w' =>
    cases x with
    | panic v => exact hp _ _ _ h3
    | _ => exact h3.elim

theorem wpOps_of_wpL {r : Option Nat} {P : Program} {os : List Oper} {Q : Exit → Act → World → Prop} (hn : noDefer r os = true) : ∀ (is : List Nat) (a : Act) (w : World),
    wpL P os.toArray Q (is.filterMap (os.toArray[·]?)) a w → wpOpsIn (GF r) 0 P os.toArray Q is a w
  | [], a, w, h => h
  | i :: is, a, w, h => by
    simp only [wpOpsIn]
    cases ho : os.toArray[i]? with
    | none =>
      simp only [List.filterMap_cons, ho] at h
      exact wpOps_of_wpL hn is a w h
    | some o =>
      have hm : o ∈ os := by
        have := Array.mem_of_getElem? ho
        simpa using this
      simp only [List.filterMap_cons, ho, wpL] at h
      simp only
      split
      · rename_i hw
        rw [if_pos hw] at h
        exact wpIn_round hn hm (fun a w h => wpOps_of_wpL hn is a w h) (fun _ _ _ h => h) id h
      · rename_i hw
        rw [if_neg hw] at h
        exact ⟨fun _ _ => trivial, wpOps_of_wpL hn is _ _ h⟩

theorem filterMap_range' (os : List Oper) : ∀ (pre : List Oper), (List.range' pre.length os.length).filterMap ((pre ++ os)[·]?) = os := by
  induction os with
  | nil => intro pre; rfl
  | cons o os ih =>
    intro pre
    have h := ih (pre ++ [o])
    simp only [List.length_append, List.length_cons, List.length_nil, List.append_assoc, List.cons_append, List.nil_append] at h
    simp only [List.length_cons, List.range'_succ, List.filterMap_cons]
    rw [List.getElem?_append_right (Nat.le_refl _), Nat.sub_self]
    simp only [List.getElem?_cons_zero]
    rw [h]

theorem filterMap_range_toArray (os : List Oper) : (List.range os.toArray.size).filterMap (os.toArray[·]?) = os := by
  have h := filterMap_range' os []
  simp only [List.length_nil, List.nil_append] at h
  rw [← List.range_eq_range'] at h
  simpa using h

variable {P : Program} {Q : Exit → Act → World → Prop} {w : World} {r : Option Nat}

theorem CW.region {id : Nat} {os : List Oper} (h : OW P os.toArray Q n D os L w) (hn : noDefer r os = true := by rfl) : CW r P (.region id os.toArray false) Q n D L w := by
  intro a ha
  refine wpIn_region (wpOps_of_wpL hn _ _ _ ?_)
  rw [filterMap_range_toArray]
  exact h a ha

theorem OW.nil {ops : Array Oper} (h : NX Q n D .normal L w) : OW P ops Q n D [] L w := fun a ha => h a ha

theorem OW.sub {ops : Array Oper} {todo : List Oper} (hs : Sub L' L) (h : OW P ops Q n D todo L' w) : OW P ops Q n D todo L w := fun a ha => h a (ha.sub hs)
theorem CW.sub {c : Code} (hs : Sub L' L) (h : CW r P c Q n D L' w) : CW r P c Q n D L w := fun a ha => h a (ha.sub hs)
theorem NX.sub {e : Exit} (hs : Sub L' L) (h : NX Q n D e L' w) : NX Q n D e L w := fun a ha => h a (ha.sub hs)

/-! ### code -/

theorem CW.seq {x y : Code} (h : CW r P x (Exit.then (y.wpIn (GF r) 0 P Q) Q) n D L w) : CW r P (.seq x y) Q n D L w := fun a ha => wpIn_seq (h a ha)
theorem CW.skip (h : NX Q n D .normal L w) : CW r P .skip Q n D L w := fun a ha => wpIn_skip (h a ha)
theorem CW.label {l : Nat} (h : NX Q n D .normal L w) : CW r P (.label l) Q n D L w := fun a ha => wpIn_label (h a ha)
theorem CW.exit {id : Nat} (h : NX Q n D (.exit id) L w) : CW r P (.exit id) Q n D L w := fun a ha => wpIn_exit (h a ha)
theorem CW.ret (h : NX Q n D .ret L w) : CW r P .ret Q n D L w := fun a ha => wpIn_ret (h a ha)
theorem CW.block {id : Nat} {c : Code} (h : CW r P c (Exit.inBlock id Q) n D L w) : CW r P (.block id c) Q n D L w := fun a ha => wpIn_block (h a ha)

theorem CW.cond {c : Operand} {x y : Code} {p : Prop} [Decidable p] (hc : evl L c = some (.bool (decide p)))
    (ht : p → CW r P x Q n D L w) (hf : ¬ p → CW r P y Q n D L w) : CW r P (.cond c x y) Q n D L w := by
  intro a ha
  have he := ha.eval hc
  by_cases hp : p
  · exact wpIn_cond_true (by rw [he]; simp [hp]) (ht hp a ha)
  · exact wpIn_cond_false (by rw [he]; simp [hp]) (hf hp a ha)

theorem CW.condB {c : Operand} {x y : Code} {b : Bool} (hc : evl L c = some (.bool b))
    (ht : b = true → CW r P x Q n D L w) (hf : b = false → CW r P y Q n D L w) : CW r P (.cond c x y) Q n D L w := by
  intro a ha
  have he := ha.eval hc
  cases b with
  | true => exact wpIn_cond_true he (ht rfl a ha)
  | false => exact wpIn_cond_false he (hf rfl a ha)

theorem CW.condT {c : Operand} {x y : Code} (hc : evl L c = some (.bool true)) (h : CW r P x Q n D L w) : CW r P (.cond c x y) Q n D L w :=
  fun a ha => wpIn_cond_true (ha.eval hc) (h a ha)
theorem CW.condF {c : Operand} {x y : Code} (hc : evl L c = some (.bool false)) (h : CW r P y Q n D L w) : CW r P (.cond c x y) Q n D L w :=
  fun a ha => wpIn_cond_false (ha.eval hc) (h a ha)

/-! ### ends -/

theorem NX.seq {y : Code} (h : CW r P y Q n D L w) : NX (Exit.then (y.wpIn (GF r) 0 P Q) Q) n D .normal L w := fun a ha => h a ha
theorem NX.thenExit {K : Act → World → Prop} {i : Nat} (h : NX Q n D (.exit i) L w) : NX (Exit.then K Q) n D (.exit i) L w := fun a ha => h a ha
theorem NX.thenRet {K : Act → World → Prop} (h : NX Q n D .ret L w) : NX (Exit.then K Q) n D .ret L w := fun a ha => h a ha
theorem NX.thenPanic {K : Act → World → Prop} {ch : List PanicEntry} (h : NX Q n D (.panic ch) L w) : NX (Exit.then K Q) n D (.panic ch) L w := fun a ha => h a ha
theorem NX.thenGoto {K : Act → World → Prop} {l : Nat} (h : NX Q n D (.goto l) L w) : NX (Exit.then K Q) n D (.goto l) L w := fun a ha => h a ha
theorem NX.blockEq {i : Nat} (h : NX Q n D .normal L w) : NX (Exit.inBlock i Q) n D (.exit i) L w := fun a ha => by
  have := h a ha; simpa [Exit.inBlock] using this
theorem NX.blockNe {i j : Nat} (hij : Nat.beq j i = false) (h : NX Q n D (.exit j) L w) : NX (Exit.inBlock i Q) n D (.exit j) L w := fun a ha => by
  have hne : j ≠ i := Nat.ne_of_beq_eq_false hij
  have := h a ha; simpa [Exit.inBlock, hne] using this
theorem NX.blockN {i : Nat} (h : NX Q n D .normal L w) : NX (Exit.inBlock i Q) n D .normal L w := fun a ha => h a ha
theorem NX.blockRet {i : Nat} (h : NX Q n D .ret L w) : NX (Exit.inBlock i Q) n D .ret L w := fun a ha => h a ha
theorem NX.blockPanic {i : Nat} {ch : List PanicEntry} (h : NX Q n D (.panic ch) L w) : NX (Exit.inBlock i Q) n D (.panic ch) L w := fun a ha => h a ha

/-- a join: what is known behind a piece of code, once for all ways through it -/
theorem CW.mid {α : Type} {x y : Code} (Lf : α → List (Nat × Value)) (I : α → World → Prop)
    (h1 : CW r P x (Exit.then (fun a w' => ∃ i, Has n D (Lf i) a ∧ I i w') Q) n D L w)
    (h2 : ∀ i w', I i w' → CW r P y Q n D (Lf i) w') : CW r P (.seq x y) Q n D L w := by
  intro a ha
  refine wpIn_seq (wpIn_mono (h1 a ha) ?_)
  intro e a' w' hq
  cases e with
  | normal => obtain ⟨i, hi, hI⟩ := hq; exact h2 i w' hI a' hi
  | _ => exact hq

theorem NX.mid {α : Type} {Lf : α → List (Nat × Value)} {I : α → World → Prop} (i : α) (hs : Sub (Lf i) L) (hI : I i w) :
    NX (Exit.then (fun a w' => ∃ i, Has n D (Lf i) a ∧ I i w') Q) n D .normal L w := fun _ ha => ⟨i, ha.sub hs, hI⟩

/-- a loop: 'Lf' the slots, 'I' what holds, 'm' what falls, at every round's head -/
theorem CW.loop {α : Type} {c : Code} (Lf : α → List (Nat × Value)) (I : α → World → Prop) (m : α → Nat) (i₀ : α) (hs : Sub (Lf i₀) L) (h₀ : I i₀ w)
    (round : ∀ i w', I i w' → CW r P c (Exit.then (fun a w'' => ∃ j, Has n D (Lf j) a ∧ I j w'' ∧ m j < m i) Q) n D (Lf i) w') : CW r P (.loop c) Q n D L w := by
  intro a ha
  refine wpIn_loop_ghost (fun k a w => ∃ i, Has n D (Lf i) a ∧ I i w ∧ m i = k) (m i₀) ⟨i₀, ha.sub hs, h₀, rfl⟩ ?_
  rintro k a' w' ⟨i, hi, hI, rfl⟩
  refine wpIn_mono (round i w' hI a' hi) ?_
  intro e a'' w'' hq
  cases e with
  | normal => obtain ⟨j, hj, hJ, hm⟩ := hq; exact ⟨m j, hm, j, hj, hJ, rfl⟩
  | _ => exact hq

theorem NX.loop {α : Type} {Lf : α → List (Nat × Value)} {I : α → World → Prop} {m : α → Nat} {i : α} (j : α) (hs : Sub (Lf j) L) (hI : I j w) (hm : m j < m i) :
    NX (Exit.then (fun a w'' => ∃ j, Has n D (Lf j) a ∧ I j w'' ∧ m j < m i) Q) n D .normal L w := fun _ ha => ⟨j, ha.sub hs, hI, hm⟩

end Go.Eng
