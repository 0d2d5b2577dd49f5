/-
  The engine, part H: a region whose order is open, some of whose operations write: each operation is told by the stages at which it may come and by the value that it gives.
  No condition: general lemmas over any program.
-/
import Derived.Test.YtmdhbgkmkmmmpaaEngE
namespace Go.Eng
open Go

variable {r : Option Nat} {P : Program} {Q Q' : Exit → Act → World → Prop} {w w' : World} {n : Nat} {D : List Deferred} {L : List (Nat × Value)} {ops : Array Oper}

/-- when an operation may come: from which stage to which; and is it the one that ends the stage? -/
structure Stg where
  lo : Nat
  hi : Nat
  ch : Bool

def Stg.out (s : Stg) : Nat := if s.ch then s.lo + 1 else s.lo

def bpreds (o : Oper) : List Nat := o.after.toList.filterMap fun e => if Region.binds .any e then some e.on else none

theorem mem_bpreds {o : Oper} {j : Nat} : j ∈ bpreds o ↔ ∃ e ∈ o.after, Region.binds .any e = true ∧ e.on = j := by
  simp only [bpreds, List.mem_filterMap, Array.mem_toList_iff]
  constructor
  · rintro ⟨e, he, h⟩
    split at h
    · rename_i hb; cases h; exact ⟨e, he, hb, rfl⟩
    · cases h
  · rintro ⟨e, he, hb, rfl⟩
    exact ⟨e, he, by rw [if_pos hb]⟩

def stgOk (os : List Oper) (st : List Stg) (C : Nat) : Bool :=
  Nat.beq st.length os.length &&
  ((os.zip st).zipIdx.all fun ((o, s), i) => (bpreds o).all (Nat.blt · i) && (Nat.beq s.lo 0 || (bpreds o).any fun j => match st[j]? with | some t => Nat.ble s.lo t.out | none => false)) &&
  (st.zipIdx.all fun (s, i) => if s.ch then Nat.beq s.lo s.hi && Nat.blt s.lo C else Nat.ble C s.hi || (os.zip st).any fun (o, t) => (bpreds o).any (Nat.beq i) && (if t.ch then Nat.beq t.lo s.hi else Nat.ble t.hi s.hi)) &&
  (st.zipIdx.all fun (s, i) => !s.ch || st.zipIdx.all fun (t, j) => !t.ch || Nat.beq i j || !(Nat.beq s.lo t.lo)) &&
  ((List.range C).all fun k => st.any fun s => s.ch && Nat.beq s.lo k)

structure StgOk (os : List Oper) (st : List Stg) (C : Nat) : Prop where
  len : st.length = os.length
  back : ∀ {i o j : _}, os[i]? = some o → j ∈ bpreds o → j < i
  lower : ∀ {i : Nat} {o s : _}, os[i]? = some o → st[i]? = some s → s.lo = 0 ∨ ∃ (j : Nat) (t : Stg), j ∈ bpreds o ∧ st[j]? = some t ∧ s.lo ≤ t.out
  chain : ∀ {i : Nat} {s : _}, st[i]? = some s → s.ch = true → s.lo = s.hi ∧ s.lo < C
  upper : ∀ {i : Nat} {s : _}, st[i]? = some s → s.ch = false → C ≤ s.hi ∨ ∃ (j : Nat) (o : Oper) (t : Stg), os[j]? = some o ∧ st[j]? = some t ∧ i ∈ bpreds o ∧ ((t.ch = true ∧ t.lo = s.hi) ∨ (t.ch = false ∧ t.hi ≤ s.hi))
  uniq : ∀ {i j : Nat} {s t : _}, st[i]? = some s → st[j]? = some t → s.ch = true → t.ch = true → s.lo = t.lo → i = j
  full : ∀ k, k < C → ∃ (i : Nat) (s : Stg), st[i]? = some s ∧ s.ch = true ∧ s.lo = k

theorem zip_get {α β : Type} {xs : List α} {ys : List β} {i : Nat} {x : α} {y : β} (hx : xs[i]? = some x) (hy : ys[i]? = some y) : (xs.zip ys)[i]? = some (x, y) := by
  rw [List.getElem?_zip_eq_some]; exact ⟨hx, hy⟩

theorem StgOk.of {os : List Oper} {st : List Stg} {C : Nat} (h : stgOk os st C = true) : StgOk os st C := by
  simp only [stgOk, Bool.and_eq_true] at h
  obtain ⟨⟨⟨⟨h1, h2⟩, h3⟩, h4⟩, h5⟩ := h
  have h1 := Nat.eq_of_beq_eq_true h1
  have get : ∀ {i : Nat} {o : Oper}, os[i]? = some o → ∃ s, st[i]? = some s := by
    intro i o e
    have : i < os.length := by
      rcases Nat.lt_or_ge i os.length with c | c
      · exact c
      · rw [List.getElem?_eq_none c] at e; cases e
    exact ⟨st[i], List.getElem?_eq_getElem (by omega)⟩
  rw [List.all_eq_true] at h2 h3 h4 h5
  have k2 : ∀ {i : Nat} {o s : _}, os[i]? = some o → st[i]? = some s → (∀ j, j ∈ bpreds o → j < i) ∧ (s.lo = 0 ∨ ∃ j t, j ∈ bpreds o ∧ st[j]? = some t ∧ s.lo ≤ t.out) := by
    intro i o s ho hs
    have := h2 ((o, s), i) (by rw [List.mem_zipIdx_iff_getElem?]; exact zip_get ho hs)
    simp only [Bool.and_eq_true, Bool.or_eq_true, List.all_eq_true, List.any_eq_true, Nat.blt_eq] at this
    refine ⟨this.1, this.2.imp (fun c => Nat.eq_of_beq_eq_true c) ?_⟩
    rintro ⟨j, hj, hc⟩
    cases ht : st[j]? with
    | none => rw [ht] at hc; cases hc
    | some t => rw [ht] at hc; exact ⟨j, t, hj, ht, Nat.le_of_ble_eq_true hc⟩
  refine ⟨h1, fun ho hj => ?_, fun ho hs => (k2 ho hs).2, fun {i s} hs hc => ?_, fun {i s} hs hc => ?_, fun {i j s t} hs ht hcs hct he => ?_, fun k hk => ?_⟩
  · obtain ⟨s, hs⟩ := get ho
    exact (k2 ho hs).1 _ hj
  · have := h3 (s, i) (by rw [List.mem_zipIdx_iff_getElem?]; exact hs)
    simp only [hc, if_true, Bool.and_eq_true, Nat.blt_eq] at this
    exact ⟨Nat.eq_of_beq_eq_true this.1, this.2⟩
  · have := h3 (s, i) (by rw [List.mem_zipIdx_iff_getElem?]; exact hs)
    simp only [hc, Bool.false_eq_true, if_false, Bool.or_eq_true] at this
    rcases this with c | c
    · exact .inl (Nat.le_of_ble_eq_true c)
    · rw [List.any_eq_true] at c
      obtain ⟨⟨o, t⟩, hm, hx⟩ := c
      simp only [Bool.and_eq_true, List.any_eq_true] at hx
      obtain ⟨⟨j', hj', hij⟩, hx⟩ := hx
      have hij := Nat.eq_of_beq_eq_true hij
      subst hij
      obtain ⟨j, hj⟩ := List.mem_iff_getElem?.1 hm
      rw [List.getElem?_zip_eq_some] at hj
      refine .inr ⟨j, o, t, hj.1, hj.2, hj', ?_⟩
      cases hct : t.ch with
      | true => rw [hct] at hx; exact .inl ⟨rfl, Nat.eq_of_beq_eq_true hx⟩
      | false => rw [hct] at hx; exact .inr ⟨rfl, Nat.le_of_ble_eq_true hx⟩
  · have := h4 (s, i) (by rw [List.mem_zipIdx_iff_getElem?]; exact hs)
    simp only [hcs, Bool.not_true, Bool.false_or, List.all_eq_true] at this
    have := this (t, j) (by rw [List.mem_zipIdx_iff_getElem?]; exact ht)
    simp only [hct, Bool.not_true, Bool.false_or, Bool.or_eq_true, Bool.not_eq_true'] at this
    rcases this with c | c
    · exact Nat.eq_of_beq_eq_true c
    · rw [he] at c
      have : Nat.beq t.lo t.lo = true := by simp
      rw [this] at c; cases c
  · have := h5 k (by simpa using hk)
    simp only [List.any_eq_true, Bool.and_eq_true] at this
    obtain ⟨s, hm, hc, he⟩ := this
    obtain ⟨i, hi⟩ := List.mem_iff_getElem?.1 hm
    exact ⟨i, s, hi, hc, Nat.eq_of_beq_eq_true he⟩

/-- what is known of the slots that an operation reads -/
def predsOf (os : List Oper) (vs : List Value) (o : Oper) : List (Nat × Value) :=
  (bpreds o).filterMap fun j => match os[j]?.bind (·.dst), vs[j]? with
    | some d, some v => some (d, v)
    | _, _ => none

/-- what an operation leaves -/
def GivesO (Q : Exit → Act → World → Prop) (n : Nat) (D : List Deferred) (L : List (Nat × Value)) (dst : Option Nat) (v : Value) (Rel : World → Prop) : Exit → Act → World → Prop
  | .normal, a, w => Has n D (match dst with | some d => (d, v) :: L | none => L) a ∧ Rel w
  | .panic ch, a, w => Q (.panic ch) a w
  | _, _, _ => False

theorem NX.givesD {d : Nat} {Rel : World → Prop} {v v' : Value} (hv : v' = v) (hr : Rel w) : NX (GivesO Q n D L (some d) v Rel) n D .normal ((d, v') :: L) w :=
  fun _ ha => ⟨hv ▸ ha, hr⟩
theorem NX.givesN {Rel : World → Prop} {v : Value} (hr : Rel w) : NX (GivesO Q n D L none v Rel) n D .normal L w :=
  fun _ ha => ⟨ha, hr⟩

def drawStep (P : Program) (Q : Exit → Act → World → Prop) (n : Nat) (D : List Deferred) (L : List (Nat × Value)) (Rel : Nat → World → Prop) (os : List Oper) (vs : List Value) (o : Oper) (s : Stg) (v : Value) : Prop :=
  ∀ (L' : List (Nat × Value)) (c : Nat) (w' : World), s.lo ≤ c → c ≤ s.hi → Rel c w' →
    OW P os.toArray (GivesO Q n D (predsOf os vs o ++ (L ++ L')) o.dst v (Rel (if s.ch then c + 1 else c))) n D [o] (predsOf os vs o ++ (L ++ L')) w'

def drawAll (P : Program) (Q : Exit → Act → World → Prop) (n : Nat) (D : List Deferred) (L : List (Nat × Value)) (Rel : Nat → World → Prop) (os : List Oper) (vs : List Value) : List Oper → List Stg → List Value → Prop
  | o :: os', s :: ss, v :: vs' => drawStep P Q n D L Rel os vs o s v ∧ drawAll P Q n D L Rel os vs os' ss vs'
  | [], _, _ => True
  | _, _, _ => False

theorem drawAll.at {Rel : Nat → World → Prop} {os : List Oper} {vs : List Value} : ∀ {os' : List Oper} {ss : List Stg} {vs' : List Value}, drawAll P Q n D L Rel os vs os' ss vs' →
    ∀ {i : Nat} {o : Oper}, os'[i]? = some o → ∃ s v, ss[i]? = some s ∧ vs'[i]? = some v ∧ drawStep P Q n D L Rel os vs o s v
  | [], _, _, _, i, o, e => by simp at e
  | o' :: os', [], _, h, _, _, _ => by simp [drawAll] at h
  | o' :: os', s :: ss, [], h, _, _, _ => by simp [drawAll] at h
  | o' :: os', s :: ss, v :: vs', h, i, o, e => by
    cases i with
    | zero => simp at e; subst e; exact ⟨s, v, rfl, rfl, h.1⟩
    | succ i => exact drawAll.at h.2 (by simpa using e)

def allOf : List Oper → List Value → List (Nat × Value)
  | o :: os, v :: vs => match o.dst with | some d => (d, v) :: allOf os vs | none => allOf os vs
  | _, _ => []

theorem look_append : ∀ (L1 L2 : List (Nat × Value)) (t : Nat), look (L1 ++ L2) t = (look L1 t).or (look L2 t)
  | [], L2, t => by simp [look]
  | (k, v) :: L1, L2, t => by
    simp only [List.cons_append, look]
    cases Nat.beq k t with
    | true => rfl
    | false => exact look_append L1 L2 t

theorem Sub.app {L1 L2 L' : List (Nat × Value)} (h1 : Sub L1 L') (h2 : Sub L2 L') : Sub (L1 ++ L2) L' := by
  intro t v e
  rw [look_append] at e
  cases h : look L1 t with
  | some u => rw [h] at e; simp at e; subst e; exact h1 t u h
  | none => rw [h] at e; simp at e; exact h2 t v e

theorem Sub.all {L1 L' : List (Nat × Value)} (h : ∀ p ∈ L1, look L' p.1 = some p.2) : Sub L1 L' := by
  induction L1 with
  | nil => exact Sub.nil _
  | cons p L1 ih => exact Sub.cons (h p (by simp)) (ih fun q hq => h q (by simp [hq]))

theorem Sub.over {L1 L2 L' : List (Nat × Value)} (h1 : Sub L1 L') (h2 : Sub L' L2) : Sub L' (L1 ++ L2) := by
  intro t v e
  rw [look_append]
  cases h : look L1 t with
  | some u => have := h1 t u h; rw [e] at this; cases this; rfl
  | none => simpa using h2 t v e

theorem Sub.consK {L1 L2 : List (Nat × Value)} {d : Nat} {v : Value} (h : Sub L1 L2) : Sub ((d, v) :: L1) ((d, v) :: L2) := by
  intro t u e
  simp only [look] at e ⊢
  cases hb : Nat.beq d t with
  | true => rw [hb] at e; exact e
  | false => rw [hb] at e; exact h t u e

theorem mem_allOf : ∀ {os : List Oper} {vs : List Value} {p : Nat × Value}, p ∈ allOf os vs → ∃ (i : Nat) (o : Oper), os[i]? = some o ∧ o.dst = some p.1 ∧ vs[i]? = some p.2
  | [], _, p, h => by simp [allOf] at h
  | o :: os, [], p, h => by simp [allOf] at h
  | o :: os, v :: vs, p, h => by
    simp only [allOf] at h
    cases hd : o.dst with
    | none =>
      rw [hd] at h
      obtain ⟨i, o', h1, h2, h3⟩ := mem_allOf h
      exact ⟨i + 1, o', by simpa using h1, h2, by simpa using h3⟩
    | some d =>
      rw [hd] at h
      rcases List.mem_cons.1 h with rfl | h
      · exact ⟨0, o, rfl, hd, rfl⟩
      · obtain ⟨i, o', h1, h2, h3⟩ := mem_allOf h
        exact ⟨i + 1, o', by simpa using h1, h2, by simpa using h3⟩

theorem mem_predsOf {os : List Oper} {vs : List Value} {o : Oper} {p : Nat × Value} (h : p ∈ predsOf os vs o) : ∃ j o', j ∈ bpreds o ∧ os[j]? = some o' ∧ o'.dst = some p.1 ∧ vs[j]? = some p.2 := by
  simp only [predsOf, List.mem_filterMap] at h
  obtain ⟨j, hj, h⟩ := h
  cases ho : os[j]? with
  | none => rw [ho] at h; simp at h
  | some o' =>
    rw [ho] at h
    cases hd : o'.dst with
    | none => simp [hd] at h
    | some d =>
      cases hv : vs[j]? with
      | none => simp [hd, hv] at h
      | some v => simp [hd, hv] at h; subst h; exact ⟨j, o', hj, ho, hd, hv⟩

/-- slots: each its own, and none of what is known before -/
def freshAll (os : List Oper) (keys : List Nat) : Bool :=
  os.zipIdx.all fun (o, i) => match o.dst with
    | none => true
    | some d => !(keys.any (Nat.beq d)) && os.zipIdx.all fun (o', j) => match o'.dst with
      | none => true
      | some d' => Nat.beq i j || !(Nat.beq d d')

theorem freshAll.of {os : List Oper} {keys : List Nat} (h : freshAll os keys = true) {i : Nat} {o : Oper} {d : Nat} (ho : os[i]? = some o) (hd : o.dst = some d) :
    d ∉ keys ∧ ∀ (j : Nat) (o' : Oper), os[j]? = some o' → o'.dst = some d → i = j := by
  simp only [freshAll, List.all_eq_true] at h
  have h1 := h (o, i) (by rw [List.mem_zipIdx_iff_getElem?]; exact ho)
  simp only [hd, Bool.and_eq_true, Bool.not_eq_true', List.any_eq_false, List.all_eq_true] at h1
  refine ⟨fun hin => h1.1 d hin (by simp), fun j o' ho' hd' => ?_⟩
  have := h1.2 (o', j) (by rw [List.mem_zipIdx_iff_getElem?]; exact ho')
  simp only [hd', Bool.or_eq_true, Bool.not_eq_true'] at this
  rcases this with c | c
  · exact Nat.eq_of_beq_eq_true c
  · have e : Nat.beq d d = true := by simp
    rw [e] at c; cases c

structure KnownO (os : List Oper) (st : List Stg) (C : Nat) (n : Nat) (D : List Deferred) (L : List (Nat × Value)) (Rel : Nat → World → Prop) (vs : List Value) (c : Nat) (listed : Array Bool) (a : Act) (w : World) : Prop where
  size : listed.size = os.length
  closed : ∀ (i : Nat) (o : Oper), os[i]? = some o → listed.getD i true = true → ∀ j ∈ bpreds o, listed.getD j true = true
  le : c ≤ C
  done : ∀ (i : Nat) (s : Stg), st[i]? = some s → listed.getD i true = true → s.out ≤ c
  todo : ∀ (i : Nat) (s : Stg), st[i]? = some s → listed.getD i true = false → c ≤ s.hi
  slots : ∃ L', Has n D L' a ∧ Sub L L' ∧ Rel c w ∧ ∀ (i : Nat) (o : Oper) (d : Nat) (v : Value), os[i]? = some o → listed.getD i true = true → o.dst = some d → vs[i]? = some v → look L' d = some v

/-- how many operations are still to come -/
def leftO (N : Nat) (listed : Array Bool) : List Nat := (List.range N).filter fun j => !listed.getD j true

theorem getD_set {listed : Array Bool} {i j : Nat} (hj : j < listed.size) : (listed.setIfInBounds i true).getD j true = (decide (i = j) || listed.getD j true) := by
  simp only [Array.getD_eq_getD_getElem?, Array.getElem?_setIfInBounds]
  by_cases c : i = j
  · subst c; simp [hj]
  · simp [c]

theorem leftO_set {N i : Nat} {listed : Array Bool} (hN : listed.size = N) (hi : i < N) (hl : listed.getD i true = false) {k : Nat} (hk : (leftO N listed).length = k + 1) : (leftO N (listed.setIfInBounds i true)).length = k := by
  have : leftO N (listed.setIfInBounds i true) = (leftO N listed).erase i := by
    have hnd : (leftO N listed).Nodup := List.Pairwise.filter _ List.nodup_range
    rw [hnd.erase_eq_filter]
    unfold leftO
    rw [List.filter_filter]
    apply List.filter_congr
    intro j hj
    have hj' : j < N := by simpa using hj
    rw [getD_set (by omega)]
    by_cases c : i = j
    · subst c; simp
    · have : (j != i) = true := by simp; omega
      simp [c, this]
  rw [this, List.length_erase_of_mem, hk]; rfl
  simp only [leftO, List.mem_filter, List.mem_range]
  exact ⟨hi, by rw [hl]; rfl⟩

theorem CW.drawG {id : Nat} {os : List Oper} (st : List Stg) (C : Nat) (vs : List Value) (Rel : Nat → World → Prop) (hmix : P.follows .mixedOrders = true)
    (hok : stgOk os st C = true) (hfr : freshAll os (keysOf L) = true) (hR0 : Rel 0 w.drew)
    (hall : drawAll P Q n D L Rel os vs os st vs)
    (htail : ∀ w', Rel C w' → NX Q n D .normal (allOf os vs ++ L) w') (hnd : noDefer r os = true := by rfl) :
    CW r P (.region id os.toArray true) Q n D L w := by
  intro a ha
  have sok := StgOk.of hok
  refine wpIn_region_any hmix ?_
  have hlt : ∀ {i : Nat} {o : Oper}, os[i]? = some o → i < os.length := by
    intro i o e
    rcases Nat.lt_or_ge i os.length with c | c
    · exact c
    · rw [List.getElem?_eq_none c] at e; cases e
  suffices key : ∀ (k c : Nat) (listed : Array Bool) (a : Act) (w' : World), (leftO os.length listed).length = k → KnownO os st C n D L Rel vs c listed a w' → wpAnyIn (GF r) 0 P .any os.toArray Q k listed a w' by
    have hf : ∀ i, i < os.length → (Array.replicate os.toArray.size false).getD i true = false := by
      intro i hi; simp [Array.getD, hi]
    have hl : (leftO os.length (Array.replicate os.toArray.size false)).length = os.length := by
      have : leftO os.length (Array.replicate os.toArray.size false) = List.range os.length := by
        apply List.filter_eq_self.2
        intro j hj
        rw [hf j (by simpa using hj)]; rfl
      rw [this]; simp
    have hst : ∀ {i : Nat} {s : Stg}, st[i]? = some s → i < os.length := by
      intro i s e
      rcases Nat.lt_or_ge i os.length with c | c
      · exact c
      · rw [List.getElem?_eq_none (by rw [sok.len]; exact c)] at e; cases e
    have h := key os.length 0 _ a w.drew hl ⟨by simp, fun i o ho h => (by rw [hf i (hlt ho)] at h; cases h), Nat.zero_le _, fun i s hs h => (by rw [hf i (hst hs)] at h; cases h), fun i s _ _ => Nat.zero_le _, L, ha, Sub.refl L, hR0,
      fun i o d v ho h => (by rw [hf i (hlt ho)] at h; cases h)⟩
    simpa using h
  intro k
  induction k with
  | zero =>
    intro c listed a w' hk hK
    have hdone : ∀ j, j < os.length → listed.getD j true = true := by
      intro j hj
      have hnil : leftO os.length listed = [] := List.eq_nil_of_length_eq_zero hk
      have := List.filter_eq_nil_iff.1 hnil j (by simpa using hj)
      simpa using this
    have hr : Region.ready .any os.toArray listed = [] := by
      rw [List.eq_nil_iff_forall_not_mem]
      intro i hi
      obtain ⟨o, ho, hl, _⟩ := ready_iff.1 hi
      rw [hdone i (hlt ho)] at hl; cases hl
    simp only [wpAnyIn]
    refine ⟨hr, ?_⟩
    obtain ⟨L', hH, hs, hrel, hslots⟩ := hK.slots
    have hc : c = C := by
      have := hK.le
      rcases Nat.eq_zero_or_pos C with c0 | c0
      · omega
      · obtain ⟨i, s, hs1, hs2, hs3⟩ := sok.full (C - 1) (by omega)
        have hil : i < os.length := by
          rcases Nat.lt_or_ge i os.length with c | c
          · exact c
          · rw [List.getElem?_eq_none (by rw [sok.len]; exact c)] at hs1; cases hs1
        have := hK.done i s hs1 (hdone i hil)
        simp [Stg.out, hs2] at this; omega
    subst hc
    refine htail w' hrel a (hH.sub (Sub.app (Sub.all fun p hp => ?_) hs))
    obtain ⟨i, o, h1, h2, h3⟩ := mem_allOf hp
    exact hslots i o p.1 p.2 h1 (hdone i (hlt h1)) h2 h3
  | succ k ih =>
    intro c listed a w' hk hK
    have hsz : ∀ i, i < os.length → listed.getD i false = listed.getD i true := fun i hi => getD_ft (by rw [hK.size]; exact hi)
    have hsome : ∃ i, i ∈ Region.ready .any os.toArray listed := by
      have hne : leftO os.length listed ≠ [] := by intro e; rw [e] at hk; simp at hk
      obtain ⟨j, hj⟩ := List.exists_mem_of_ne_nil _ hne
      have hj := List.mem_filter.1 hj
      have : ∀ g j, j ≤ g → j < os.length → listed.getD j true = false → ∃ i, i ∈ Region.ready .any os.toArray listed := by
        intro g
        induction g with
        | zero =>
          intro j hj hjl hf
          have hj0 : j = 0 := by omega
          subst hj0
          refine ⟨0, ready_iff.2 ⟨os[0], List.getElem?_eq_getElem hjl, hf, fun e he hb => ?_⟩⟩
          exact absurd (sok.back (List.getElem?_eq_getElem hjl) (mem_bpreds.2 ⟨e, he, hb, rfl⟩)) (by omega)
        | succ g ihg =>
          intro j hj hjl hf
          by_cases c : ∃ q ∈ bpreds os[j], listed.getD q true = false
          · obtain ⟨q, hq, hqf⟩ := c
            have := sok.back (List.getElem?_eq_getElem hjl) hq
            exact ihg q (by omega) (by omega) hqf
          · refine ⟨j, ready_iff.2 ⟨os[j], List.getElem?_eq_getElem hjl, hf, fun e he hb => ?_⟩⟩
            have hm : e.on ∈ bpreds os[j] := mem_bpreds.2 ⟨e, he, hb, rfl⟩
            have := sok.back (List.getElem?_eq_getElem hjl) hm
            rw [hsz _ (by omega)]
            cases h : listed.getD e.on true with
            | true => rfl
            | false => exact absurd ⟨e.on, hm, h⟩ c
      exact this j j (Nat.le_refl _) (by simpa using hj.1) (by simpa using hj.2)
    simp only [wpAnyIn]
    refine ⟨fun hr => by obtain ⟨i, hi⟩ := hsome; rw [hr] at hi; simp at hi, fun i hi => ?_⟩
    obtain ⟨o, ho, hl, hd⟩ := ready_iff.1 hi
    have hil := hlt ho
    obtain ⟨L', hH, hs, hrel, hslots⟩ := hK.slots
    obtain ⟨s, v, hs1, hv1, hstep⟩ := hall.at ho
    have hpre : ∀ j, j ∈ bpreds o → j < i ∧ listed.getD j true = true := by
      intro j hj
      have hji := sok.back ho hj
      obtain ⟨e, he, hb, rfl⟩ := mem_bpreds.1 hj
      refine ⟨hji, ?_⟩
      rw [← hsz _ (by omega)]; exact hd e he hb
    have hhi : c ≤ s.hi := hK.todo i s hs1 hl
    have hlo : s.lo ≤ c := by
      rcases sok.lower ho hs1 with h0 | ⟨j, t, hj, ht, hle⟩
      · omega
      · exact Nat.le_trans hle (hK.done j t ht (hpre j hj).2)
    have hpsub : Sub (predsOf os vs o) L' := Sub.all fun p hp => by
      obtain ⟨j, o', hj, ho', hd', hv'⟩ := mem_predsOf hp
      exact hslots j o' p.1 p.2 ho' (hpre j hj).2 hd' hv'
    have hop := hstep L' c w' hlo hhi hrel a (hH.sub (Sub.app hpsub (Sub.app hs (Sub.refl _))))
    -- behind it
    have hlist : ∀ j, j < os.length → (listed.setIfInBounds i true).getD j true = (decide (i = j) || listed.getD j true) := fun j hj => getD_set (by rw [hK.size]; exact hj)
    have hleft := leftO_set hK.size hil hl hk
    have hnext : ∀ (a' : Act) (w'' : World), Has n D (match o.dst with | some d => (d, v) :: (predsOf os vs o ++ (L ++ L')) | none => predsOf os vs o ++ (L ++ L')) a' ∧ Rel (if s.ch then c + 1 else c) w'' →
        KnownO os st C n D L Rel vs (if s.ch then c + 1 else c) (listed.setIfInBounds i true) a' w'' := by
      rintro a' w'' ⟨hH', hrel'⟩
      have hstl : ∀ {j : Nat} {t : Stg}, st[j]? = some t → j < os.length := by
        intro j t e
        rcases Nat.lt_or_ge j os.length with c | c
        · exact c
        · rw [List.getElem?_eq_none (by rw [sok.len]; exact c)] at e; cases e
      have hcle : c ≤ (if s.ch then c + 1 else c) := by split <;> omega
      refine ⟨by simp [hK.size], fun j o' ho' hlj q hq => ?_, ?_, fun j t ht hlj => ?_, fun j t ht hlj => ?_, ?_⟩
      · have hjl := hlt ho'
        rw [hlist j hjl] at hlj
        have hqj := sok.back ho' hq
        rw [hlist q (by omega)]
        by_cases cij : i = j
        · subst cij
          rw [ho] at ho'; cases ho'
          rw [(hpre q hq).2]; simp
        · have hlj : listed.getD j true = true := by simpa only [cij, decide_false, Bool.false_or] using hlj
          rw [hK.closed j o' ho' hlj q hq]; simp
      · cases hch : s.ch with
        | false => simpa using hK.le
        | true =>
          have := sok.chain hs1 hch
          simp; omega
      · rw [hlist j (hstl ht)] at hlj
        by_cases cij : i = j
        · subst cij
          rw [hs1] at ht; cases ht
          cases hch : s.ch with
          | false => simp [Stg.out, hch]; exact hlo
          | true => simp [Stg.out, hch]; exact hlo
        · have hlj : listed.getD j true = true := by simpa only [cij, decide_false, Bool.false_or] using hlj
          exact Nat.le_trans (hK.done j t ht hlj) hcle
      · rw [hlist j (hstl ht)] at hlj
        simp only [Bool.or_eq_false_iff, decide_eq_false_iff_not] at hlj
        obtain ⟨cij, hlj⟩ := hlj
        have h0 := hK.todo j t ht hlj
        cases hch : s.ch with
        | false => simpa using h0
        | true =>
          simp only [if_true]
          obtain ⟨hslh, hsC⟩ := sok.chain hs1 hch
          have hsc : s.lo = c := by omega
          rcases Nat.lt_or_ge c t.hi with g | g
          · omega
          · exfalso
            have hthi : t.hi = c := by omega
            cases htc : t.ch with
            | true =>
              have := (sok.chain ht htc).1
              exact cij (sok.uniq hs1 ht hch htc (by omega))
            | false =>
              -- all that must come before it is listed, from the last on down
              have hdown : ∀ g j (t : Stg), j + g + 1 = os.length → st[j]? = some t → t.ch = false → t.hi ≤ c → listed.getD j true = true := by
                intro g
                induction g using Nat.strongRecOn with
                | _ g ihg =>
                  intro j t hj ht htc hth
                  rcases sok.upper ht htc with h1 | ⟨q, o', t', hq, ht', hjq, h2⟩
                  · omega
                  · have hjq' := sok.back hq hjq
                    have hql := hlt hq
                    rcases h2 with ⟨hc', he'⟩ | ⟨hc', he'⟩
                    · by_cases cq : t'.lo = c
                      · have hqi : q = i := sok.uniq ht' hs1 hc' hch (by omega)
                        subst hqi
                        rw [ho] at hq; cases hq
                        exact (hpre j hjq).2
                      · cases hlq : listed.getD q true with
                        | true => exact hK.closed q o' hq hlq j hjq
                        | false =>
                          have := hK.todo q t' ht' hlq
                          have := (sok.chain ht' hc').1
                          omega
                    · have := ihg (os.length - 1 - q) (by omega) q t' (by omega) ht' hc' (by omega)
                      exact hK.closed q o' hq this j hjq
              have := hdown (os.length - 1 - j) j t (by have := hstl ht; omega) ht htc (by omega)
              rw [this] at hlj; cases hlj
      · have hback : Sub L' (predsOf os vs o ++ (L ++ L')) := Sub.over hpsub (Sub.over hs (Sub.refl _))
        cases hdst : o.dst with
        | none =>
          rw [hdst] at hH'
          refine ⟨L', hH'.sub hback, hs, hrel', fun j o' d v' ho' hlj hd' hv' => ?_⟩
          rw [hlist j (hlt ho')] at hlj
          have cij : i ≠ j := by intro e; subst e; rw [ho] at ho'; cases ho'; rw [hdst] at hd'; cases hd'
          exact hslots j o' d v' ho' (by simpa only [cij, decide_false, Bool.false_or] using hlj) hd' hv'
        | some d =>
          rw [hdst] at hH'
          have hfro := freshAll.of hfr ho hdst
          refine ⟨(d, v) :: L', hH'.sub (Sub.consK hback), ?_, hrel', fun j o' d' v' ho' hlj hd' hv' => ?_⟩
          · intro t x hx
            have := hs t x hx
            simp only [look]
            have hne : d ≠ t := fun e => hfro.1 (e ▸ look_keys hx)
            rw [beq_ne hne]; exact this
          · by_cases cij : i = j
            · subst cij
              rw [ho] at ho'; cases ho'
              rw [hdst] at hd'; cases hd'
              rw [hv1] at hv'; cases hv'
              simp [look]
            · rw [hlist j (hlt ho')] at hlj
              have hj := hslots j o' d' v' ho' (by simpa only [cij, decide_false, Bool.false_or] using hlj) hd' hv'
              have hne : d ≠ d' := by intro e; subst e; exact cij (hfro.2 j o' ho' hd')
              simp only [look]; rw [beq_ne hne]; exact hj
    have hstep2 := ih (if s.ch then c + 1 else c) (listed.setIfInBounds i true)
    simp only [wpL] at hop
    simp only [wpOpIn, List.getElem?_toArray, ho]
    split
    · rename_i hw
      rw [if_pos hw] at hop
      exact wpIn_round (Q := GivesO Q n D (predsOf os vs o ++ (L ++ L')) o.dst v (Rel (if s.ch then c + 1 else c))) hnd (List.mem_of_getElem? ho) (fun a' w'' h => hstep2 a' w'' hleft (hnext a' w'' h)) (fun _ _ _ h => h) (fun ⟨_, _, h⟩ => h.elim) hop
    · rename_i hw
      rw [if_neg hw] at hop
      exact ⟨fun _ _ => trivial, hstep2 _ _ hleft (hnext _ _ hop)⟩

/-- the marks: all of the first j, none of the others -/
def upTo (N j : Nat) (listed : Array Bool) : Prop := listed.size = N ∧ ∀ i, i < N → listed.getD i true = decide (i < j)

theorem upTo.getF {N j : Nat} {listed : Array Bool} (h : upTo N j listed) {i : Nat} (hi : i < N) : listed.getD i false = decide (i < j) := by
  have := h.2 i hi
  have hl : i < listed.size := by rw [h.1]; exact hi
  simp only [Array.getD, hl, dif_pos] at this ⊢
  exact this

theorem upTo.next {N j : Nat} {listed : Array Bool} (h : upTo N j listed) : upTo N (j + 1) (listed.setIfInBounds j true) := by
  refine ⟨by simp [h.1], fun i hi => ?_⟩
  have hl : i < listed.size := by rw [h.1]; exact hi
  have := h.2 i hi
  simp only [Array.getD_eq_getD_getElem?, Array.getElem?_setIfInBounds] at this ⊢
  by_cases c : j = i
  · subst c; simp [hl]
  · rw [if_neg c, this]
    have : (i < j) ↔ (i < j + 1) := by omega
    simp [this]

structure KnownT (os : List Oper) (m : Nat) (st : List Stg) (C : Nat) (n : Nat) (D : List Deferred) (L : List (Nat × Value)) (Rel : Nat → World → Prop) (vs : List Value) (c : Nat) (listed : Array Bool) (a : Act) (w : World) : Prop where
  size : listed.size = os.length
  late : ∀ i, i < os.length → listed.getD i true = true → i < m
  closed : ∀ (i : Nat) (o : Oper), os[i]? = some o → listed.getD i true = true → ∀ j ∈ bpreds o, listed.getD j true = true
  le : c ≤ C
  done : ∀ (i : Nat) (s : Stg), st[i]? = some s → listed.getD i true = true → s.out ≤ c
  todo : ∀ (i : Nat) (s : Stg), st[i]? = some s → listed.getD i true = false → c ≤ s.hi
  slots : ∃ L', Has n D L' a ∧ Sub L L' ∧ Rel c w ∧ ∀ (i : Nat) (o : Oper) (d : Nat) (v : Value), os[i]? = some o → listed.getD i true = true → o.dst = some d → vs[i]? = some v → look L' d = some v

/-- the operations behind the first part come in a row -/
def tailOk (os : List Oper) (m : Nat) : Bool :=
  Nat.ble m os.length &&
  (os.zipIdx.all fun (o, i) => Nat.ble i m || (bpreds o).any fun j => Nat.beq (j + 1) i) &&
  (os.zipIdx.all fun (o, i) => (bpreds o).all (Nat.blt · i)) &&
  (match os[m]? with
   | some o => (List.range m).all fun j => ((bpreds o).any (Nat.beq j)) || os.zipIdx.any fun (o', k) => Nat.blt k m && (bpreds o').any (Nat.beq j)
   | none => true)

structure TailOk (os : List Oper) (m : Nat) : Prop where
  le : m ≤ os.length
  chain : ∀ (i : Nat) (o : Oper), os[i]? = some o → m < i → ∃ j ∈ bpreds o, j + 1 = i
  back : ∀ {i : Nat} {o : Oper} {j : Nat}, os[i]? = some o → j ∈ bpreds o → j < i
  cover : ∀ o, os[m]? = some o → ∀ j, j < m → j ∈ bpreds o ∨ ∃ (k : Nat) (o' : Oper), k < m ∧ os[k]? = some o' ∧ j ∈ bpreds o'

theorem TailOk.of {os : List Oper} {m : Nat} (h : tailOk os m = true) : TailOk os m := by
  simp only [tailOk, Bool.and_eq_true] at h
  obtain ⟨⟨⟨h0, h1⟩, h2⟩, h3⟩ := h
  rw [List.all_eq_true] at h1 h2
  have mem : ∀ {i : Nat} {o : Oper}, os[i]? = some o → (o, i) ∈ os.zipIdx := by
    intro i o e
    rw [List.mem_zipIdx_iff_getElem?]; exact e
  have beq : ∀ {l : List Nat} {j : Nat}, l.any (Nat.beq j) = true → j ∈ l := by
    intro l j h
    rw [List.any_eq_true] at h
    obtain ⟨x, hx, he⟩ := h
    exact (Nat.eq_of_beq_eq_true he) ▸ hx
  refine ⟨Nat.le_of_ble_eq_true h0, fun i o e hi => ?_, fun {i o j} e hj => ?_, fun o e j hj => ?_⟩
  · have := h1 _ (mem e)
    simp only [Bool.or_eq_true] at this
    rcases this with c | c
    · have := Nat.le_of_ble_eq_true c; omega
    · rw [List.any_eq_true] at c
      obtain ⟨j, hj, he⟩ := c
      exact ⟨j, hj, Nat.eq_of_beq_eq_true he⟩
  · have := h2 _ (mem e)
    simp only [List.all_eq_true, Nat.blt_eq] at this
    exact this j hj
  · rw [e] at h3
    simp only [List.all_eq_true, List.mem_range, Bool.or_eq_true] at h3
    rcases h3 j hj with c | c
    · exact .inl (beq c)
    · rw [List.any_eq_true] at c
      obtain ⟨⟨o', k⟩, hk, hc⟩ := c
      simp only [Bool.and_eq_true, Nat.blt_eq] at hc
      rw [List.mem_zipIdx_iff_getElem?] at hk
      exact .inr ⟨k, o', hc.1, hk, beq hc.2⟩

theorem any_tail {os : List Oper} {m : Nat} (hok : TailOk os m) (hnd : noDefer r os = true) : ∀ (fuel j : Nat) (listed : Array Bool) (a : Act) (w : World), m ≤ j → fuel + j = os.length → upTo os.length j listed →
    wpL P os.toArray Q (os.drop j) a w → wpAnyIn (GF r) 0 P .any os.toArray Q fuel listed a w
  | 0, j, listed, a, w, _, hf, hu, h => by
    have hjl : j = os.length := by omega
    subst hjl
    have hr : Region.ready .any os.toArray listed = [] := by
      rw [List.eq_nil_iff_forall_not_mem]
      intro i hi
      obtain ⟨o, ho, hl, _⟩ := ready_iff.1 hi
      have hil : i < os.length := by
        rcases Nat.lt_or_ge i os.length with c | c
        · exact c
        · rw [List.getElem?_eq_none c] at ho; cases ho
      rw [hu.2 i hil] at hl
      simp [hil] at hl
    simp only [wpAnyIn]
    rw [List.drop_length] at h
    exact ⟨hr, h⟩
  | fuel + 1, j, listed, a, w, hm, hf, hu, h => by
    have hjl : j < os.length := by omega
    have only : ∀ i, i ∈ Region.ready .any os.toArray listed → i = j := by
      intro i hi
      obtain ⟨o, ho, hl, hd⟩ := ready_iff.1 hi
      have hil : i < os.length := by
        rcases Nat.lt_or_ge i os.length with c | c
        · exact c
        · rw [List.getElem?_eq_none c] at ho; cases ho
      rw [hu.2 i hil] at hl
      simp at hl
      rcases Nat.lt_or_ge j i with c | c
      · obtain ⟨q, hq, hei⟩ := hok.chain i o ho (by omega)
        obtain ⟨e, he, hb, rfl⟩ := mem_bpreds.1 hq
        have h1 := hd e he hb
        rw [hu.getF (by omega)] at h1
        simp at h1; omega
      · omega
    have hin : j ∈ Region.ready .any os.toArray listed := by
      refine ready_iff.2 ⟨os[j], List.getElem?_eq_getElem hjl, by rw [hu.2 j hjl]; simp, fun e he hb => ?_⟩
      have := hok.back (List.getElem?_eq_getElem hjl) (mem_bpreds.2 ⟨e, he, hb, rfl⟩)
      rw [hu.getF (by omega)]; simpa using this
    simp only [wpAnyIn]
    refine ⟨fun hr => by rw [hr] at hin; simp at hin, fun i hi => ?_⟩
    have := only i hi
    subst this
    rw [List.drop_eq_getElem_cons hjl] at h
    simp only [wpL] at h
    simp only [wpOpIn, List.getElem?_toArray, List.getElem?_eq_getElem hjl]
    have rec_ : ∀ a w, wpL P os.toArray Q (os.drop (i + 1)) a w → wpAnyIn (GF r) 0 P .any os.toArray Q fuel (listed.setIfInBounds i true) a w :=
      fun a w h => any_tail hok hnd fuel (i + 1) _ a w (by omega) (by omega) hu.next h
    split
    · rename_i hw
      rw [if_pos hw] at h
      exact wpIn_round hnd (List.getElem_mem hjl) rec_ (fun _ _ _ h => h) id h
    · rename_i hw
      rw [if_neg hw] at h
      exact ⟨fun _ _ => trivial, rec_ _ _ h⟩

theorem leftO_setT {N i : Nat} {listed : Array Bool} (hN : N ≤ listed.size) (hi : i < N) (hl : listed.getD i true = false) {k : Nat} (hk : (leftO N listed).length = k + 1) : (leftO N (listed.setIfInBounds i true)).length = k := by
  have : leftO N (listed.setIfInBounds i true) = (leftO N listed).erase i := by
    have hnd : (leftO N listed).Nodup := List.Pairwise.filter _ List.nodup_range
    rw [hnd.erase_eq_filter]
    unfold leftO
    rw [List.filter_filter]
    apply List.filter_congr
    intro j hj
    have hj' : j < N := by simpa using hj
    rw [getD_set (by omega)]
    by_cases c : i = j
    · subst c; simp
    · have : (j != i) = true := by simp; omega
      simp [c, this]
  rw [this, List.length_erase_of_mem, hk]; rfl
  simp only [leftO, List.mem_filter, List.mem_range]
  exact ⟨hi, by rw [hl]; rfl⟩

/-- the first part in whatever order, then the rest in a row -/
theorem CW.drawT {id : Nat} {os : List Oper} (m : Nat) (st : List Stg) (C : Nat) (vs : List Value) (Rel : Nat → World → Prop) (hmix : P.follows .mixedOrders = true)
    (hok : stgOk (os.take m) st C = true) (htk : tailOk os m = true) (hfr : freshAll (os.take m) (keysOf L) = true) (hR0 : Rel 0 w.drew)
    (hall : drawAll P Q n D L Rel os vs (os.take m) st vs)
    (htail : ∀ w', Rel C w' → OW P os.toArray Q n D (os.drop m) (allOf (os.take m) vs ++ L) w') (hnd : noDefer r os = true := by rfl) :
    CW r P (.region id os.toArray true) Q n D L w := by
  intro a ha
  have sok := StgOk.of hok
  have tok := TailOk.of htk
  have htake : ∀ {i : Nat}, i < m → (os.take m)[i]? = os[i]? := fun h => List.getElem?_take_of_lt h
  have hml : (os.take m).length = m := by rw [List.length_take]; exact Nat.min_eq_left tok.le
  refine wpIn_region_any hmix ?_
  have hlt : ∀ {i : Nat} {o : Oper}, os[i]? = some o → i < os.length := by
    intro i o e
    rcases Nat.lt_or_ge i os.length with c | c
    · exact c
    · rw [List.getElem?_eq_none c] at e; cases e
  suffices key : ∀ (k c : Nat) (listed : Array Bool) (a : Act) (w' : World), (leftO m listed).length = k → KnownT os m st C n D L Rel vs c listed a w' → wpAnyIn (GF r) 0 P .any os.toArray Q (os.length - m + k) listed a w' by
    have hf : ∀ i, i < os.length → (Array.replicate os.toArray.size false).getD i true = false := by
      intro i hi; simp [Array.getD, hi]
    have hl : (leftO m (Array.replicate os.toArray.size false)).length = m := by
      have : leftO m (Array.replicate os.toArray.size false) = List.range m := by
        apply List.filter_eq_self.2
        intro j hj
        have hj' : j < m := by simpa using hj
        rw [hf j (Nat.lt_of_lt_of_le hj' tok.le)]; rfl
      rw [this]; simp
    have hst : ∀ {i : Nat} {s : Stg}, st[i]? = some s → i < os.length := by
      intro i s e
      rcases Nat.lt_or_ge i m with c | c
      · exact Nat.lt_of_lt_of_le c tok.le
      · rw [List.getElem?_eq_none (by rw [sok.len, hml]; exact c)] at e; cases e
    have h := key m 0 _ a w.drew hl ⟨by simp, fun i hi h => (by rw [hf i hi] at h; cases h), fun i o ho h => (by rw [hf i (hlt ho)] at h; cases h), Nat.zero_le _, fun i s hs h => (by rw [hf i (hst hs)] at h; cases h), fun i s _ _ => Nat.zero_le _, L, ha, Sub.refl L, hR0,
      fun i o d v ho h => (by rw [hf i (hlt ho)] at h; cases h)⟩
    have e : os.length - m + m = os.toArray.size := by have := tok.le; simp; omega
    rw [e] at h
    exact h
  intro k
  induction k with
  | zero =>
    intro c listed a w' hk hK
    have hdone : ∀ j, j < m → listed.getD j true = true := by
      intro j hj
      have hnil : leftO m listed = [] := List.eq_nil_of_length_eq_zero hk
      have := List.filter_eq_nil_iff.1 hnil j (by simpa using hj)
      simpa using this
    have hu : upTo os.length m listed := by
      refine ⟨hK.size, fun i hi => ?_⟩
      by_cases c : i < m
      · rw [hdone i c]; simp [c]
      · cases hc : listed.getD i true with
        | false => simp [c]
        | true => exact absurd (hK.late i hi hc) c
    obtain ⟨L', hH, hs, hrel, hslots⟩ := hK.slots
    have hc : c = C := by
      have := hK.le
      rcases Nat.eq_zero_or_pos C with c0 | c0
      · omega
      · obtain ⟨i, s, hs1, hs2, hs3⟩ := sok.full (C - 1) (by omega)
        have hil : i < m := by
          rcases Nat.lt_or_ge i m with c | c
          · exact c
          · rw [List.getElem?_eq_none (by rw [sok.len, hml]; exact c)] at hs1; cases hs1
        have := hK.done i s hs1 (hdone i hil)
        simp [Stg.out, hs2] at this; omega
    subst hc
    refine any_tail tok hnd (os.length - m + 0) m listed a w' (Nat.le_refl _) (by have := tok.le; omega) hu ?_
    refine htail w' hrel a (hH.sub (Sub.app (Sub.all fun p hp => ?_) hs))
    obtain ⟨i, o, h1, h2, h3⟩ := mem_allOf hp
    have him : i < m := by
      rcases Nat.lt_or_ge i m with c | c
      · exact c
      · rw [List.getElem?_eq_none (by rw [hml]; exact c)] at h1; cases h1
    exact hslots i o p.1 p.2 (by rw [← htake him]; exact h1) (hdone i him) h2 h3
  | succ k ih =>
    intro c listed a w' hk hK
    have hsz : ∀ i, i < os.length → listed.getD i false = listed.getD i true := fun i hi => getD_ft (by rw [hK.size]; exact hi)
    have hsome : ∃ i, i ∈ Region.ready .any os.toArray listed := by
      have hne : leftO m listed ≠ [] := by intro e; rw [e] at hk; simp at hk
      obtain ⟨j, hj⟩ := List.exists_mem_of_ne_nil _ hne
      have hj := List.mem_filter.1 hj
      have : ∀ g j, j ≤ g → j < os.length → listed.getD j true = false → ∃ i, i ∈ Region.ready .any os.toArray listed := by
        intro g
        induction g with
        | zero =>
          intro j hj hjl hf
          have hj0 : j = 0 := by omega
          subst hj0
          refine ⟨0, ready_iff.2 ⟨os[0], List.getElem?_eq_getElem hjl, hf, fun e he hb => ?_⟩⟩
          exact absurd (tok.back (List.getElem?_eq_getElem hjl) (mem_bpreds.2 ⟨e, he, hb, rfl⟩)) (by omega)
        | succ g ihg =>
          intro j hj hjl hf
          by_cases c : ∃ q ∈ bpreds os[j], listed.getD q true = false
          · obtain ⟨q, hq, hqf⟩ := c
            have := tok.back (List.getElem?_eq_getElem hjl) hq
            exact ihg q (by omega) (by omega) hqf
          · refine ⟨j, ready_iff.2 ⟨os[j], List.getElem?_eq_getElem hjl, hf, fun e he hb => ?_⟩⟩
            have hm : e.on ∈ bpreds os[j] := mem_bpreds.2 ⟨e, he, hb, rfl⟩
            have := tok.back (List.getElem?_eq_getElem hjl) hm
            rw [hsz _ (by omega)]
            cases h : listed.getD e.on true with
            | true => rfl
            | false => exact absurd ⟨e.on, hm, h⟩ c
      exact this j j (Nat.le_refl _) (Nat.lt_of_lt_of_le (by simpa using hj.1) tok.le) (by simpa using hj.2)
    -- what is ready lies in the first part
    have hready : ∀ i, i ∈ Region.ready .any os.toArray listed → i < m := by
      intro i hi
      obtain ⟨o, ho, hl, hd⟩ := ready_iff.1 hi
      have hil := hlt ho
      have hpr : ∀ j, j ∈ bpreds o → listed.getD j true = true := by
        intro j hj
        have hji := tok.back ho hj
        obtain ⟨e, he, hb, rfl⟩ := mem_bpreds.1 hj
        rw [← hsz _ (by omega)]; exact hd e he hb
      rcases Nat.lt_or_ge i m with c | c
      · exact c
      · exfalso
        rcases Nat.lt_or_ge m i with c2 | c2
        · obtain ⟨q, hq, hei⟩ := tok.chain i o ho c2
          have := hK.late q (by omega) (hpr q hq)
          omega
        · have him : i = m := by omega
          subst him
          have hall : ∀ g j, j + g + 1 = i → listed.getD j true = true := by
            intro g
            induction g using Nat.strongRecOn with
            | _ g ihg =>
              intro j hj
              rcases tok.cover o ho j (by omega) with hm | ⟨q, o', hq, ho', hm⟩
              · exact hpr j hm
              · have hjq := tok.back ho' hm
                exact hK.closed q o' ho' (ihg (i - 1 - q) (by omega) q (by omega)) j hm
          have hne : leftO i listed ≠ [] := by intro e; rw [e] at hk; simp at hk
          obtain ⟨j, hj⟩ := List.exists_mem_of_ne_nil _ hne
          have hj := List.mem_filter.1 hj
          have hji : j < i := by simpa using hj.1
          have h2 := hall (i - 1 - j) j (by omega)
          have h3 : listed.getD j true = false := by simpa using hj.2
          rw [h2] at h3; cases h3
    rw [show os.length - m + (k + 1) = (os.length - m + k) + 1 by omega]
    simp only [wpAnyIn]
    refine ⟨fun hr => by obtain ⟨i, hi⟩ := hsome; rw [hr] at hi; simp at hi, fun i hi => ?_⟩
    have him := hready i hi
    obtain ⟨o, ho, hl, hd⟩ := ready_iff.1 hi
    have hil := hlt ho
    have hoT : (os.take m)[i]? = some o := by rw [htake him]; exact ho
    obtain ⟨L', hH, hs, hrel, hslots⟩ := hK.slots
    obtain ⟨s, v, hs1, hv1, hstep⟩ := hall.at hoT
    have hpre : ∀ j, j ∈ bpreds o → j < i ∧ listed.getD j true = true := by
      intro j hj
      have hji := tok.back ho hj
      obtain ⟨e, he, hb, rfl⟩ := mem_bpreds.1 hj
      refine ⟨hji, ?_⟩
      rw [← hsz _ (by omega)]; exact hd e he hb
    have hhi : c ≤ s.hi := hK.todo i s hs1 hl
    have hlo : s.lo ≤ c := by
      rcases sok.lower hoT hs1 with h0 | ⟨j, t, hj, ht, hle⟩
      · omega
      · exact Nat.le_trans hle (hK.done j t ht (hpre j hj).2)
    have hpsub : Sub (predsOf os vs o) L' := Sub.all fun p hp => by
      obtain ⟨j, o', hj, ho', hd', hv'⟩ := mem_predsOf hp
      exact hslots j o' p.1 p.2 ho' (hpre j hj).2 hd' hv'
    have hop := hstep L' c w' hlo hhi hrel a (hH.sub (Sub.app hpsub (Sub.app hs (Sub.refl _))))
    -- behind it
    have hlist : ∀ j, j < os.length → (listed.setIfInBounds i true).getD j true = (decide (i = j) || listed.getD j true) := fun j hj => getD_set (by rw [hK.size]; exact hj)
    have hleft := leftO_setT (show m ≤ listed.size by rw [hK.size]; exact tok.le) him hl hk
    have hnext : ∀ (a' : Act) (w'' : World), Has n D (match o.dst with | some d => (d, v) :: (predsOf os vs o ++ (L ++ L')) | none => predsOf os vs o ++ (L ++ L')) a' ∧ Rel (if s.ch then c + 1 else c) w'' →
        KnownT os m st C n D L Rel vs (if s.ch then c + 1 else c) (listed.setIfInBounds i true) a' w'' := by
      rintro a' w'' ⟨hH', hrel'⟩
      have hstm : ∀ {j : Nat} {t : Stg}, st[j]? = some t → j < m := by
        intro j t e
        rcases Nat.lt_or_ge j m with c | c
        · exact c
        · rw [List.getElem?_eq_none (by rw [sok.len, hml]; exact c)] at e; cases e
      have hstl : ∀ {j : Nat} {t : Stg}, st[j]? = some t → j < os.length := fun h => Nat.lt_of_lt_of_le (hstm h) tok.le
      have hcle : c ≤ (if s.ch then c + 1 else c) := by split <;> omega
      refine ⟨by simp [hK.size], fun j hj hlj => ?_, fun j o' ho' hlj q hq => ?_, ?_, fun j t ht hlj => ?_, fun j t ht hlj => ?_, ?_⟩
      · rw [hlist j hj] at hlj
        by_cases cij : i = j
        · omega
        · exact hK.late j hj (by simpa only [cij, decide_false, Bool.false_or] using hlj)
      · have hjl := hlt ho'
        rw [hlist j hjl] at hlj
        have hqj := tok.back ho' hq
        rw [hlist q (by omega)]
        by_cases cij : i = j
        · subst cij
          rw [ho] at ho'; cases ho'
          rw [(hpre q hq).2]; simp
        · have hlj : listed.getD j true = true := by simpa only [cij, decide_false, Bool.false_or] using hlj
          rw [hK.closed j o' ho' hlj q hq]; simp
      · cases hch : s.ch with
        | false => simpa using hK.le
        | true =>
          have := sok.chain hs1 hch
          simp; omega
      · rw [hlist j (hstl ht)] at hlj
        by_cases cij : i = j
        · subst cij
          rw [hs1] at ht; cases ht
          cases hch : s.ch with
          | false => simp [Stg.out, hch]; exact hlo
          | true => simp [Stg.out, hch]; exact hlo
        · have hlj : listed.getD j true = true := by simpa only [cij, decide_false, Bool.false_or] using hlj
          exact Nat.le_trans (hK.done j t ht hlj) hcle
      · rw [hlist j (hstl ht)] at hlj
        simp only [Bool.or_eq_false_iff, decide_eq_false_iff_not] at hlj
        obtain ⟨cij, hlj⟩ := hlj
        have h0 := hK.todo j t ht hlj
        cases hch : s.ch with
        | false => simpa using h0
        | true =>
          simp only [if_true]
          obtain ⟨hslh, hsC⟩ := sok.chain hs1 hch
          have hsc : s.lo = c := by omega
          rcases Nat.lt_or_ge c t.hi with g | g
          · omega
          · exfalso
            have hthi : t.hi = c := by omega
            cases htc : t.ch with
            | true =>
              have := (sok.chain ht htc).1
              exact cij (sok.uniq hs1 ht hch htc (by omega))
            | false =>
              -- all that must come before it is listed, from the last on down
              have hdown : ∀ g j (t : Stg), j + g + 1 = m → st[j]? = some t → t.ch = false → t.hi ≤ c → listed.getD j true = true := by
                intro g
                induction g using Nat.strongRecOn with
                | _ g ihg =>
                  intro j t hj ht htc hth
                  rcases sok.upper ht htc with h1 | ⟨q, o', t', hq, ht', hjq, h2⟩
                  · omega
                  · have hql : q < m := hstm ht'
                    have hq : os[q]? = some o' := by rw [← htake hql]; exact hq
                    have hjq' := tok.back hq hjq
                    rcases h2 with ⟨hc', he'⟩ | ⟨hc', he'⟩
                    · by_cases cq : t'.lo = c
                      · have hqi : q = i := sok.uniq ht' hs1 hc' hch (by omega)
                        subst hqi
                        rw [ho] at hq; cases hq
                        exact (hpre j hjq).2
                      · cases hlq : listed.getD q true with
                        | true => exact hK.closed q o' hq hlq j hjq
                        | false =>
                          have := hK.todo q t' ht' hlq
                          have := (sok.chain ht' hc').1
                          omega
                    · have := ihg (m - 1 - q) (by omega) q t' (by omega) ht' hc' (by omega)
                      exact hK.closed q o' hq this j hjq
              have := hdown (m - 1 - j) j t (by have := hstm ht; omega) ht htc (by omega)
              rw [this] at hlj; cases hlj
      · have hback : Sub L' (predsOf os vs o ++ (L ++ L')) := Sub.over hpsub (Sub.over hs (Sub.refl _))
        cases hdst : o.dst with
        | none =>
          rw [hdst] at hH'
          refine ⟨L', hH'.sub hback, hs, hrel', fun j o' d v' ho' hlj hd' hv' => ?_⟩
          rw [hlist j (hlt ho')] at hlj
          have cij : i ≠ j := by intro e; subst e; rw [ho] at ho'; cases ho'; rw [hdst] at hd'; cases hd'
          exact hslots j o' d v' ho' (by simpa only [cij, decide_false, Bool.false_or] using hlj) hd' hv'
        | some d =>
          rw [hdst] at hH'
          have hfro := freshAll.of hfr hoT hdst
          refine ⟨(d, v) :: L', hH'.sub (Sub.consK hback), ?_, hrel', fun j o' d' v' ho' hlj hd' hv' => ?_⟩
          · intro t x hx
            have := hs t x hx
            simp only [look]
            have hne : d ≠ t := fun e => hfro.1 (e ▸ look_keys hx)
            rw [beq_ne hne]; exact this
          · by_cases cij : i = j
            · subst cij
              rw [ho] at ho'; cases ho'
              rw [hdst] at hd'; cases hd'
              rw [hv1] at hv'; cases hv'
              simp [look]
            · rw [hlist j (hlt ho')] at hlj
              have hj := hslots j o' d' v' ho' (by simpa only [cij, decide_false, Bool.false_or] using hlj) hd' hv'
              have hne : d ≠ d' := by intro e; subst e; exact cij (hfro.2 j o' (by rw [htake (hK.late j (hlt ho') (by simpa only [cij, decide_false, Bool.false_or] using hlj))]; exact ho') hd')
              simp only [look]; rw [beq_ne hne]; exact hj
    have hstep2 := ih (if s.ch then c + 1 else c) (listed.setIfInBounds i true)
    simp only [wpL] at hop
    simp only [wpOpIn, List.getElem?_toArray, ho]
    split
    · rename_i hw
      rw [if_pos hw] at hop
      exact wpIn_round (Q := GivesO Q n D (predsOf os vs o ++ (L ++ L')) o.dst v (Rel (if s.ch then c + 1 else c))) hnd (List.mem_of_getElem? ho) (fun a' w'' h => hstep2 a' w'' hleft (hnext a' w'' h)) (fun _ _ _ h => h) (fun ⟨_, _, h⟩ => h.elim) hop
    · rename_i hw
      rw [if_neg hw] at hop
      exact ⟨fun _ _ => trivial, hstep2 _ _ hleft (hnext _ _ hop)⟩

end Go.Eng
