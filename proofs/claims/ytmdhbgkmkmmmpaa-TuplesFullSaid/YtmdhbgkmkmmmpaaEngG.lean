/-
  The engine, part G: maps.
  No condition: general lemmas over any program.
-/
import Derived.Test.YtmdhbgkmkmmmpaaEngF
namespace Go.Eng
open Go

variable {r : Option Nat} {P : Program} {w w' : World} {S : Nat → Prop}

theorem getObj_run {b : Nat} {es : Array MapEntry} {clock : Nat} (hb : w.heap[b]? = some (.map es clock)) : (getObj b).run P w = .ok (.map es clock) w := by
  simp [getObj, Sem.run, hb]
theorem setObj_run {b : Nat} {es : Array MapEntry} {clock : Nat} (hb : w.heap[b]? = some (.map es clock)) (o : Obj) : (setObj b o).run P w = .ok () { w with heap := w.heap.setIfInBounds b o } := by
  simp [setObj, Sem.run, hb]
theorem sameBits_int (m : Nat) (k : IntKind) (v : Int) : Instr.sameBits m (.int k v) (.int k v) = true := by cases m <;> simp [Instr.sameBits]
theorem checkKey_int {t : TypeId} {kd : IntKind} (ht : P.underlying t = some (.int kd)) (em : Bool) (m : Nat) (k : IntKind) (v : Int) : (Instr.checkKey em (m + 1) t (.int k v)).run P w = .ok () w := by
  simp [Instr.checkKey, run_underlying ht]

/-- where a key stands first -/
def idxIn {κ : Type} [DecidableEq κ] (k : κ) : List κ → Option Nat
  | [] => none
  | x :: xs => if x = k then some 0 else (idxIn k xs).map (· + 1)

/-- what the model does with keys of a type, where 'ek' lays them out as values -/
structure KeyEq {κ : Type} [DecidableEq κ] (P : Program) (t : TypeId) (ek : κ → Value) (ok : κ → Prop) : Prop where
  check : ∀ {k}, ok k → ∀ em w, (Instr.checkKey em 10000 t (ek k)).run P w = .ok () w
  find : ∀ {k}, ok k → ∀ (es : List MapEntry) (ks : List κ), es.map (·.key) = ks.map ek → (∀ x ∈ ks, ok x) → ∀ w,
    (Instr.findKey t (ek k) es).run P w = .ok ((idxIn k ks).bind fun i => (es[i]?).map fun e => (i, e.val)) w
  stays : ∀ {k}, ok k → ∀ w, (Instr.keyThatStays (ek k) (ek k)).run P w = .ok (ek k) w

theorem idxIn_lt {κ : Type} [DecidableEq κ] {k : κ} : ∀ {ks : List κ} {i : Nat}, idxIn k ks = some i → ks[i]? = some k
  | [], i, h => by simp [idxIn] at h
  | x :: xs, i, h => by
    simp only [idxIn] at h
    split at h
    · rename_i c; simp at h; subst h; simp [c]
    · simp only [Option.map_eq_some_iff] at h
      obtain ⟨j, hj, rfl⟩ := h
      simpa using idxIn_lt hj

theorem idxIn_none {κ : Type} [DecidableEq κ] {k : κ} : ∀ {ks : List κ}, idxIn k ks = none ↔ k ∉ ks
  | [] => by simp [idxIn]
  | x :: xs => by
    simp only [idxIn]
    split
    · rename_i c; simp [c]
    · rename_i c
      rw [Option.map_eq_none_iff, idxIn_none]
      simp [Ne.symm c]

/-- a whole number as a key -/
theorem findNow_int {κ : Type} [DecidableEq κ] {kd : IntKind} {f : κ → Int} (hinj : ∀ a b, f a = f b → a = b) (k : κ) : ∀ (es : List MapEntry) (ks : List κ) (s : Nat), es.map (·.key) = ks.map (fun x => .int kd (f x)) →
    Instr.findNow (.int kd) (.int kd (f k)) es s = some ((idxIn k ks).bind fun i => (es[i]?).map fun e => (s + i, e.val))
  | [], [], s, _ => by simp [Instr.findNow, idxIn]
  | [], k' :: ks, s, h => by simp at h
  | e :: es, [], s, h => by simp at h
  | e :: es, x :: ks, s, h => by
    simp only [List.map_cons, List.cons.injEq] at h
    obtain ⟨h1, h2⟩ := h
    have ih := findNow_int hinj k es ks (s + 1) h2
    simp only [Instr.findNow, h1, Instr.sameNow, if_true, idxIn]
    by_cases c : x = k
    · subst c; simp
    · have hne : (f k == f x) = false := by
        simp; intro e; exact c (hinj _ _ e.symm)
      rw [hne, if_neg c]
      simp only [ih]
      cases idxIn k ks <;> simp [Nat.add_assoc, Nat.add_comm 1]

theorem KeyEq.int {κ : Type} [DecidableEq κ] {t : TypeId} {kd : IntKind} {f : κ → Int} (ht : P.underlying t = some (.int kd)) (hinj : ∀ a b, f a = f b → a = b) : KeyEq P t (fun x : κ => .int kd (f x)) (fun _ => True) where
  check := fun _ em w => checkKey_int ht em 9999 kd _
  find := fun {k} _ es ks h _ w => by
    have := findNow_int (kd := kd) hinj k es ks 0 h
    simp only [Nat.zero_add] at this
    simp only [Instr.findKey, Sem.run_bind, run_underlying ht, Result.andThen_ok, this]
    rfl
  stays := fun {k} _ w => by
    simp only [Instr.keyThatStays]
    rw [sameBits_int 10000 kd (f k)]; rfl

theorem sameBits_ints (m : Nat) (l : List (IntKind × Int)) : Instr.sameBits (m + 2) (.agg (ints l).toArray) (.agg (ints l).toArray) = true := by
  simp only [Instr.sameBits, beq_self_eq_true, Bool.true_and, List.all_eq_true]
  intro p hp
  have : p.1 = p.2 ∧ ∃ k v, p.1 = .int k v := by
    have hz : ∀ (l : List (IntKind × Int)) (p : Value × Value), p ∈ (ints l).zip (ints l) → p.1 = p.2 ∧ ∃ k v, p.1 = .int k v := by
      intro l
      induction l with
      | nil => intro p hp; simp [ints] at hp
      | cons q l ih =>
        intro p hp
        simp only [ints, List.map_cons, List.zip_cons_cons, List.mem_cons] at hp
        rcases hp with rfl | hp
        · exact ⟨rfl, _, _, rfl⟩
        · exact ih p hp
    exact hz l p (by simpa using hp)
  obtain ⟨h1, k, v, h2⟩ := this
  obtain ⟨a, b⟩ := p
  simp only at h1 h2
  subst h1; subst h2
  simp [Instr.sameBits]

theorem KeyEq.flat {κ : Type} [DecidableEq κ] {t : TypeId} {ks : List IntKind} {f : κ → List (IntKind × Int)} (hf : Flat P t ks) (hk : ∀ x, (f x).map (·.1) = ks) (hinj : ∀ a b, f a = f b → a = b) :
    KeyEq P t (fun x : κ => .agg (ints (f x)).toArray) (fun x => intsWf (f x)) where
  check := fun {k} h em w => hf.check (hk k) h em w
  find := fun {k} h es xs hes hxs w => by
    have hu : ∃ dsc, P.underlying t = some dsc ∧ ((∃ fs, dsc = .struct fs) ∨ ∃ m e, dsc = .array m e) := by
      have ha := hf.agg
      simp only [aggSz] at ha
      split at ha
      · rename_i h1 _; exact ⟨_, h1, .inl ⟨_, rfl⟩⟩
      · rename_i h1 _; exact ⟨_, h1, .inr ⟨_, _, rfl⟩⟩
      · cases ha
    obtain ⟨dsc, hu, hd⟩ := hu
    have ask : ∀ (es : List MapEntry) (xs : List κ) (s : Nat), es.map (·.key) = xs.map (fun x => Value.agg (ints (f x)).toArray) → (∀ x ∈ xs, intsWf (f x)) →
        (Instr.findAsking t (.agg (ints (f k)).toArray) es s).run P w = .ok ((idxIn k xs).bind fun i => (es[i]?).map fun e => (s + i, e.val)) w := by
      intro es
      induction es with
      | nil => intro xs s hes hxs; cases xs with
        | nil => simp [Instr.findAsking, idxIn]
        | cons x xs => simp at hes
      | cons e es ih =>
        intro xs s hes hxs
        cases xs with
        | nil => simp at hes
        | cons x xs =>
          simp only [List.map_cons, List.cons.injEq] at hes
          obtain ⟨h1, h2⟩ := hes
          have he := hf.eq (hk k) (hk x) h (hxs x (by simp)) w
          simp only [Instr.findAsking, h1, Sem.run_bind, he, Result.andThen_ok, idxIn]
          by_cases c : x = k
          · subst c; simp
          · have hne : ¬ f k = f x := fun e => c (hinj _ _ e.symm)
            simp only [hne, decide_false, Bool.false_eq_true, if_false, if_neg c]
            rw [ih xs (s + 1) h2 (fun y hy => hxs y (by simp [hy]))]
            cases idxIn k xs <;> simp [Nat.add_assoc, Nat.add_comm 1]
    simp only [Instr.findKey, Sem.run_bind, run_underlying hu, Result.andThen_ok]
    cases es with
    | nil =>
      cases xs with
      | nil => simp [Instr.findNow, idxIn]
      | cons x xs => simp at hes
    | cons e es =>
      have hnow : Instr.findNow dsc (.agg (ints (f k)).toArray) (e :: es) 0 = none := by
        simp only [Instr.findNow]
        have : Instr.sameNow dsc (.agg (ints (f k)).toArray) e.key = none := by
          rcases hd with ⟨fs, rfl⟩ | ⟨m, e', rfl⟩ <;> simp [Instr.sameNow]
        rw [this]
      rw [hnow]
      have := ask (e :: es) xs 0 hes hxs
      simpa using this
  stays := fun {k} _ w => by
    simp only [Instr.keyThatStays]
    rw [sameBits_ints 9998 (f k)]; rfl

/-! ### maps in memory -/

theorem eraseIdx_map' {α β : Type} (g : α → β) : ∀ (l : List α) (i : Nat), (l.map g).eraseIdx i = (l.eraseIdx i).map g
  | [], _ => rfl
  | _ :: _, 0 => rfl
  | a :: l, i + 1 => by simp only [List.map_cons, List.eraseIdx_cons_succ, eraseIdx_map' g l i]

/-- the stamps of a map's entries: each its own, none from the clock on -/
def BornOk (es : Array MapEntry) (clock : Nat) : Prop := (es.toList.map (·.born)).Nodup ∧ ∀ e ∈ es.toList, e.born < clock

/-- a block is a map of these entries, in the order in which they came -/
def MapBk {κ : Type} (w : World) (b : Nat) (ek : κ → Value) (kv : List (κ × Value)) : Prop :=
  ∃ es clock, w.heap[b]? = some (.map es clock) ∧ es.toList.map (·.key) = kv.map (fun p => ek p.1) ∧ es.toList.map (·.val) = kv.map (·.2) ∧ (kv.map (·.1)).Nodup ∧ BornOk es clock

theorem MapBk.frame {κ : Type} {b : Nat} {ek : κ → Value} {kv : List (κ × Value)} (h : MapBk w b ek kv) (f : Fr S w w') (hs : ¬ S b) : MapBk w' b ek kv := by
  obtain ⟨es, c, h1, h2⟩ := h
  exact ⟨es, c, f.here h1 hs, h2⟩

theorem MapBk.lt {κ : Type} {b : Nat} {ek : κ → Value} {kv : List (κ × Value)} (h : MapBk w b ek kv) : b < w.heap.size := by
  obtain ⟨es, c, h1, _⟩ := h; exact lt_of_here h1

theorem MapBk.nodup {κ : Type} {b : Nat} {ek : κ → Value} {kv : List (κ × Value)} (h : MapBk w b ek kv) : (kv.map (·.1)).Nodup := by
  obtain ⟨es, c, _, _, _, h, _⟩ := h; exact h

theorem MapBk.empty {κ : Type} {b : Nat} (ek : κ → Value) (h : New w w' b (.map #[] 0)) : MapBk w' b ek [] :=
  ⟨#[], 0, h.here, rfl, rfl, by simp, by simp [BornOk]⟩

/-- what a map tells of a key -/
def kvGet {κ : Type} [DecidableEq κ] (k : κ) : List (κ × Value) → Option Value
  | [] => none
  | (x, v) :: r => if x = k then some v else kvGet k r

/-- a key's value is laid anew, or comes behind the others -/
def kvSet {κ : Type} [DecidableEq κ] (k : κ) (v : Value) : List (κ × Value) → List (κ × Value)
  | [] => [(k, v)]
  | (x, u) :: r => if x = k then (x, v) :: r else (x, u) :: kvSet k v r

def kvDel {κ : Type} [DecidableEq κ] (k : κ) : List (κ × Value) → List (κ × Value)
  | [] => []
  | (x, u) :: r => if x = k then r else (x, u) :: kvDel k r

theorem kvGet_idx {κ : Type} [DecidableEq κ] {k : κ} : ∀ {kv : List (κ × Value)}, kvGet k kv = (idxIn k (kv.map (·.1))).bind fun i => (kv[i]?).map (·.2)
  | [] => rfl
  | (x, v) :: r => by
    simp only [kvGet, List.map_cons, idxIn]
    split
    · simp
    · rw [kvGet_idx (kv := r)]
      cases idxIn k (r.map (·.1)) <;> simp

theorem kvSet_old {κ : Type} [DecidableEq κ] {k : κ} {v : Value} : ∀ {kv : List (κ × Value)} {i : Nat}, idxIn k (kv.map (·.1)) = some i → kvSet k v kv = kv.set i (k, v)
  | [], i, h => by simp [idxIn] at h
  | (x, u) :: r, i, h => by
    simp only [List.map_cons, idxIn] at h
    simp only [kvSet]
    split at h
    · rename_i c; simp at h; subst h; subst c; simp
    · rename_i c
      simp only [Option.map_eq_some_iff] at h
      obtain ⟨j, hj, rfl⟩ := h
      rw [if_neg c, kvSet_old hj]; simp

theorem kvSet_new {κ : Type} [DecidableEq κ] {k : κ} {v : Value} : ∀ {kv : List (κ × Value)}, idxIn k (kv.map (·.1)) = none → kvSet k v kv = kv ++ [(k, v)]
  | [], _ => rfl
  | (x, u) :: r, h => by
    simp only [List.map_cons, idxIn] at h
    simp only [kvSet]
    split at h
    · cases h
    · rename_i c
      rw [Option.map_eq_none_iff] at h
      rw [if_neg c, kvSet_new h]; simp

theorem kvDel_old {κ : Type} [DecidableEq κ] {k : κ} : ∀ {kv : List (κ × Value)} {i : Nat}, idxIn k (kv.map (·.1)) = some i → kvDel k kv = kv.eraseIdx i
  | [], i, h => by simp [idxIn] at h
  | (x, u) :: r, i, h => by
    simp only [List.map_cons, idxIn] at h
    simp only [kvDel]
    split at h
    · rename_i c; simp at h; subst h; simp [c]
    · rename_i c
      simp only [Option.map_eq_some_iff] at h
      obtain ⟨j, hj, rfl⟩ := h
      rw [if_neg c, kvDel_old hj]; simp

theorem kvDel_none {κ : Type} [DecidableEq κ] {k : κ} : ∀ {kv : List (κ × Value)}, idxIn k (kv.map (·.1)) = none → kvDel k kv = kv
  | [], _ => rfl
  | (x, u) :: r, h => by
    simp only [List.map_cons, idxIn] at h
    simp only [kvDel]
    split at h
    · cases h
    · rename_i c
      rw [Option.map_eq_none_iff] at h
      rw [if_neg c, kvDel_none h]

section law
variable {κ : Type} [DecidableEq κ] {t kt et b : Nat} {ek : κ → Value} {ok : κ → Prop} {k : κ} {kv : List (κ × Value)} {z v : Value}

theorem getElem?_modify' {es : Array MapEntry} {i j : Nat} {f : MapEntry → MapEntry} : (es.modify i f).toList[j]? = if i = j then (es.toList[j]?).map f else es.toList[j]? := by
  rw [Array.toList_modify]
  rw [List.getElem?_modify]
  split <;> simp_all

theorem find_run (hk : KeyEq P kt ek ok) (hok : ok k) (hoks : ∀ p ∈ kv, ok p.1) {es : Array MapEntry} (h1 : es.toList.map (·.key) = kv.map (fun p => ek p.1)) (h2 : es.toList.map (·.val) = kv.map (·.2)) (w : World) :
    (Instr.findKey kt (ek k) es.toList).run P w = .ok ((idxIn k (kv.map (·.1))).bind fun i => (es.toList[i]?).map fun e => (i, e.val)) w ∧
    (((idxIn k (kv.map (·.1))).bind fun i => (es.toList[i]?).map fun e => (i, e.val)).map (·.2)) = kvGet k kv := by
  refine ⟨hk.find hok es.toList (kv.map (·.1)) (by rw [h1]; simp) (fun x hx => ?_) w, ?_⟩
  · simp only [List.mem_map] at hx; obtain ⟨p, hp, rfl⟩ := hx; exact hoks p hp
  · rw [kvGet_idx]
    cases hi : idxIn k (kv.map (·.1)) with
    | none => rfl
    | some i =>
      have := congrArg (fun l => l[i]?) h2
      simp only [List.getElem?_map] at this
      simp only [Option.bind_some, Option.map_map]
      rw [← this]; rfl

theorem run_lookup (hm : P.underlying t = some (.map kt et)) (hk : KeyEq P kt ek ok) (hok : ok k) (hoks : ∀ p ∈ kv, ok p.1) (hz : zeroIs P et = some z) (h : MapBk w b ek kv) (c : Bool) :
    (Instr.lookup t (.map (some b)) (ek k) c).run P w = .ok (if c then .tuple #[(kvGet k kv).getD z, .bool (kvGet k kv).isSome] else (kvGet k kv).getD z) w := by
  obtain ⟨es, clock, hb, h1, h2, _, _⟩ := h
  obtain ⟨hf, hg⟩ := find_run hk hok hoks h1 h2 w
  have hzero : (zeroValue et).run P w = .ok z w := by
    simp only [zeroIs, Option.bind_eq_some_iff] at hz
    obtain ⟨i, hi, hv⟩ := hz
    simp [zeroValue, run_typeInfo' hi, hv]
  simp only [Instr.lookup, Sem.run_bind, run_underlying hm, Result.andThen_ok, getObj_run hb, hk.check hok, hf, Sem.run_pure]
  rw [← hg]
  cases ((idxIn k (kv.map (·.1))).bind fun i => (es.toList[i]?).map fun e => (i, e.val)) with
  | none => simp only [Sem.run_bind, hzero, Result.andThen_ok, Sem.run_pure]; cases c <;> rfl
  | some p => obtain ⟨i, v⟩ := p; cases c <;> rfl

/-- a lookup in a nil map -/
theorem run_lookup_nil (hm : P.underlying t = some (.map kt et)) (hk : KeyEq P kt ek ok) (hok : ok k) (hz : zeroIs P et = some z) (c : Bool) :
    (Instr.lookup t (.map none) (ek k) c).run P w = .ok (if c then .tuple #[z, .bool false] else z) w := by
  have hf := hk.find hok [] [] rfl (by simp) w
  have hzero : (zeroValue et).run P w = .ok z w := by
    simp only [zeroIs, Option.bind_eq_some_iff] at hz
    obtain ⟨i, hi, hv⟩ := hz
    simp [zeroValue, run_typeInfo' hi, hv]
  simp only [Instr.lookup, Sem.run_bind, run_underlying hm, Result.andThen_ok, Sem.run_pure, hk.check hok]
  rw [hf]
  simp only [idxIn, Option.bind_none, Sem.run_bind, hzero, Result.andThen_ok, Sem.run_pure]
  all_goals cases c <;> rfl

theorem setObj_fr {es : Array MapEntry} {clock : Nat} (hb : w.heap[b]? = some (.map es clock)) (o : Obj) :
    Fr (fun k => k = b) w { w with heap := w.heap.setIfInBounds b o } ∧ ({ w with heap := w.heap.setIfInBounds b o } : World).heap[b]? = some o :=
  ⟨⟨rfl, rfl, rfl, by simp, fun k _ hn => by simp only; rw [Array.getElem?_setIfInBounds_ne (fun e => hn e.symm)]⟩, by simp [lt_of_here hb]⟩

theorem setObj_size (o : Obj) : ({ w with heap := w.heap.setIfInBounds b o } : World).heap.size = w.heap.size := by simp

theorem map_modify_same {es : Array MapEntry} {i : Nat} {f : MapEntry → MapEntry} {β : Type} (g : MapEntry → β) (h : ∀ e, es.toList[i]? = some e → g (f e) = g e) : (es.modify i f).toList.map g = es.toList.map g := by
  apply List.ext_getElem?
  intro j
  simp only [List.getElem?_map, getElem?_modify']
  split
  · rename_i c; subst c
    cases he : es.toList[i]? with
    | none => rfl
    | some e => simp [h e he]
  · rfl

theorem map_modify_set {es : Array MapEntry} {i : Nat} {f : MapEntry → MapEntry} {β : Type} (g : MapEntry → β) {y : β} (h : ∀ e, es.toList[i]? = some e → g (f e) = y) (hi : i < es.size) : (es.modify i f).toList.map g = (es.toList.map g).set i y := by
  apply List.ext_getElem?
  intro j
  simp only [List.getElem?_map, getElem?_modify', List.getElem?_set, List.length_map, Array.length_toList]
  split
  · rename_i c; subst c
    have : i < es.toList.length := by simpa using hi
    rw [List.getElem?_eq_getElem this, Option.map_some, Option.map_some, h es.toList[i] (List.getElem?_eq_getElem this)]
    all_goals simp [hi]
  · rfl

theorem bornOk_modify {es : Array MapEntry} {clock i : Nat} {f : MapEntry → MapEntry} (hf : ∀ e, (f e).born = e.born) (h : BornOk es clock) : BornOk (es.modify i f) clock := by
  have e : (es.modify i f).toList.map (·.born) = es.toList.map (·.born) := map_modify_same _ (fun e _ => hf e)
  refine ⟨by rw [e]; exact h.1, fun x hx => ?_⟩
  have : x.born ∈ (es.modify i f).toList.map (·.born) := List.mem_map_of_mem hx
  rw [e, List.mem_map] at this
  obtain ⟨y, hy, hb⟩ := this
  rw [← hb]; exact h.2 y hy

theorem bornOk_push {es : Array MapEntry} {clock : Nat} {e : MapEntry} (he : e.born = clock) (h : BornOk es clock) : BornOk (es.push e) (clock + 1) := by
  refine ⟨?_, fun x hx => ?_⟩
  · simp only [Array.toList_push, List.map_append, List.map_cons, List.map_nil]
    rw [List.nodup_append]
    refine ⟨h.1, by simp, fun a ha b hb => ?_⟩
    simp at hb; subst hb
    rw [List.mem_map] at ha
    obtain ⟨y, hy, rfl⟩ := ha
    have := h.2 y hy; omega
  · simp only [Array.toList_push, List.mem_append, List.mem_singleton] at hx
    rcases hx with hx | rfl
    · have := h.2 x hx; omega
    · omega

theorem idx_size {es : Array MapEntry} {i : Nat} (h1 : es.toList.map (·.key) = kv.map (fun p => ek p.1)) (hi : idxIn k (kv.map (·.1)) = some i) : i < es.size ∧ i < kv.length ∧ es.toList[i]?.map (·.key) = some (ek k) := by
  have h := idxIn_lt hi
  have hl : i < (kv.map (·.1)).length := by
    rcases Nat.lt_or_ge i (kv.map (·.1)).length with c | c
    · exact c
    · rw [List.getElem?_eq_none c] at h; cases h
  have hlen := congrArg List.length h1
  simp at hl hlen
  have e2 := congrArg (fun l => l[i]?) h1
  simp only [List.getElem?_map] at e2 h
  refine ⟨by omega, hl, ?_⟩
  rw [e2]
  cases hkv : kv[i]? with
  | none => rw [hkv] at h; cases h
  | some p => rw [hkv] at h; simp at h; subst h; rfl

/-- a map with one value laid -/
theorem mapBk_set {es : Array MapEntry} {clock i : Nat} (h1 : es.toList.map (·.key) = kv.map (fun p => ek p.1)) (h2 : es.toList.map (·.val) = kv.map (·.2)) (h3 : (kv.map (·.1)).Nodup) (h4 : BornOk es clock)
    (hi : idxIn k (kv.map (·.1)) = some i) (hb : w'.heap[b]? = some (.map (es.modify i fun e => { e with key := ek k, val := v }) clock)) : MapBk w' b ek (kvSet k v kv) := by
  obtain ⟨a1, a2, a3⟩ := idx_size h1 hi
  rw [kvSet_old hi]
  have hk := idxIn_lt hi
  refine ⟨_, clock, hb, ?_, ?_, ?_, bornOk_modify (by intro e; rfl) h4⟩
  · rw [map_modify_same _ (fun e he => by rw [he] at a3; simpa using a3.symm), h1]
    apply List.ext_getElem?
    intro j
    simp only [List.getElem?_map, List.getElem?_set]
    split
    · rename_i c; subst c
      simp only [List.getElem?_map] at hk
      try rw [if_pos a2]
      cases hkv : kv[i]? with
      | none => rw [hkv] at hk; cases hk
      | some p => rw [hkv] at hk; simp at hk; subst hk; rfl
    · rfl
  · rw [map_modify_set (y := v) _ (by intro e _; rfl) a1, h2, List.map_set]
  · have : (kv.set i (k, v)).map (·.1) = kv.map (·.1) := by
      apply List.ext_getElem?
      intro j
      simp only [List.getElem?_map, List.getElem?_set]
      split
      · rename_i c; subst c
        simp only [List.getElem?_map] at hk
        try rw [if_pos a2]
        exact hk.symm
      · rfl
    rw [this]; exact h3

theorem mapBk_push {es : Array MapEntry} {clock : Nat} (h1 : es.toList.map (·.key) = kv.map (fun p => ek p.1)) (h2 : es.toList.map (·.val) = kv.map (·.2)) (h3 : (kv.map (·.1)).Nodup) (h4 : BornOk es clock)
    (hi : idxIn k (kv.map (·.1)) = none) (hb : w'.heap[b]? = some (.map (es.push { key := ek k, val := v, born := clock }) (clock + 1))) : MapBk w' b ek (kvSet k v kv) := by
  rw [kvSet_new hi]
  refine ⟨_, _, hb, by simp [h1], by simp [h2], ?_, bornOk_push rfl h4⟩
  have := idxIn_none.1 hi
  simp only [List.map_append, List.map_cons, List.map_nil]
  rw [List.nodup_append]
  exact ⟨h3, by simp, fun a ha c hc => by simp at hc; subst hc; intro e; subst e; exact this ha⟩

theorem run_mapUpdate (hm : P.underlying t = some (.map kt et)) (hk : KeyEq P kt ek ok) (hok : ok k) (hoks : ∀ p ∈ kv, ok p.1) (h : MapBk w b ek kv) :
    ∃ w', (Instr.mapUpdate t (.map (some b)) (ek k) v).run P w = .ok () w' ∧ MapBk w' b ek (kvSet k v kv) ∧ Fr (fun k => k = b) w w' ∧ w'.heap.size = w.heap.size := by
  obtain ⟨es, clock, hb, h1, h2, h3, h4⟩ := h
  obtain ⟨hf, _⟩ := find_run hk hok hoks h1 h2 w
  cases hi : idxIn k (kv.map (·.1)) with
  | none =>
    rw [hi] at hf
    refine ⟨_, ?_, mapBk_push h1 h2 h3 h4 hi (setObj_fr hb (.map (es.push { key := ek k, val := v, born := clock }) (clock + 1))).2, (setObj_fr hb _).1, setObj_size _⟩
    simp only [Instr.mapUpdate, Sem.run_bind, run_underlying hm, Result.andThen_ok, getObj_run hb, hk.check hok, hf, Option.bind_none]
    exact setObj_run hb _
  | some i =>
    obtain ⟨a1, a2, a3⟩ := idx_size h1 hi
    rw [hi] at hf
    have hget : es.toList[i]? = some es.toList[i] := List.getElem?_eq_getElem (by simpa using a1)
    refine ⟨_, ?_, mapBk_set h1 h2 h3 h4 hi (setObj_fr hb (.map (es.modify i fun e => { e with key := ek k, val := v }) clock)).2, (setObj_fr hb _).1, setObj_size _⟩
    have hkey : ((es[i]?).map (·.key)).getD (ek k) = ek k := by
      rw [← Array.getElem?_toList, a3]; rfl
    simp only [Instr.mapUpdate, Sem.run_bind, run_underlying hm, Result.andThen_ok, getObj_run hb, hk.check hok, hf, Option.bind_some, hget, Option.map_some, hkey, hk.stays hok]
    exact setObj_run hb _

/-- an entry that is held by its stamp -/
def MapSt (w : World) (b : Nat) (ek : κ → Value) (kv : List (κ × Value)) (k : κ) (s : Nat) : Prop :=
  ∃ es clock i, w.heap[b]? = some (.map es clock) ∧ es.toList.map (·.key) = kv.map (fun p => ek p.1) ∧ es.toList.map (·.val) = kv.map (·.2) ∧ (kv.map (·.1)).Nodup ∧ BornOk es clock ∧
    idxIn k (kv.map (·.1)) = some i ∧ es.toList[i]?.map (·.born) = some s

theorem MapSt.frame {kv : List (κ × Value)} {s : Nat} (h : MapSt w b ek kv k s) (f : Fr S w w') (hs : ¬ S b) : MapSt w' b ek kv k s := by
  obtain ⟨es, c, i, h1, h2⟩ := h
  exact ⟨es, c, i, f.here h1 hs, h2⟩

theorem kvSet_keys : ∀ {kv : List (κ × Value)}, idxIn k ((kvSet k v kv).map (·.1)) = some (match idxIn k (kv.map (·.1)) with | some i => i | none => kv.length)
  | [] => by simp [kvSet, idxIn]
  | (x, u) :: r => by
    simp only [kvSet]
    by_cases c : x = k
    · simp [c, idxIn]
    · simp only [c, if_false, List.map_cons, idxIn]
      rw [kvSet_keys (kv := r)]
      cases idxIn k (r.map (·.1)) <;> simp

theorem run_mapEntry (hm : P.underlying t = some (.map kt et)) (hk : KeyEq P kt ek ok) (hok : ok k) (hoks : ∀ p ∈ kv, ok p.1) (hz : zeroIs P et = some z) (h : MapBk w b ek kv) :
    ∃ w' s, (Instr.mapEntry t (.map (some b)) (ek k)).run P w = .ok (.tuple #[(kvGet k kv).getD z, .int .i64 (s : Nat)]) w' ∧ MapSt w' b ek (kvSet k ((kvGet k kv).getD z) kv) k s ∧ Fr (fun k => k = b) w w' ∧ w'.heap.size = w.heap.size := by
  obtain ⟨es, clock, hb, h1, h2, h3, h4⟩ := h
  obtain ⟨hf, hg⟩ := find_run hk hok hoks h1 h2 w
  have hzero : (zeroValue et).run P w = .ok z w := by
    simp only [zeroIs, Option.bind_eq_some_iff] at hz
    obtain ⟨i, hi, hv⟩ := hz
    simp [zeroValue, run_typeInfo' hi, hv]
  cases hi : idxIn k (kv.map (·.1)) with
  | none =>
    rw [hi] at hf hg
    simp only [Option.bind_none, Option.map_none] at hg
    rw [← hg]
    refine ⟨_, clock, ?_, ?_, (setObj_fr hb (.map (es.push { key := ek k, val := z, born := clock }) (clock + 1))).1, setObj_size _⟩
    · simp only [Instr.mapEntry, Sem.run_bind, run_underlying hm, Result.andThen_ok, getObj_run hb, hk.check hok, hf, Option.bind_none, hzero, setObj_run hb _, Sem.run_pure]
      rfl
    · obtain ⟨es', c', g1, g2, g3, g4, g5⟩ := mapBk_push (v := z) h1 h2 h3 h4 hi (setObj_fr hb (.map (es.push { key := ek k, val := z, born := clock }) (clock + 1))).2
      have := (setObj_fr hb (.map (es.push { key := ek k, val := z, born := clock }) (clock + 1))).2
      rw [this] at g1
      cases g1
      refine ⟨_, _, kv.length, this, g2, g3, g4, g5, by rw [Option.getD_none, kvSet_keys, hi], ?_⟩
      have hlen := congrArg List.length h1
      simp at hlen
      rw [← hlen]; simp
  | some i =>
    obtain ⟨a1, a2, a3⟩ := idx_size h1 hi
    rw [hi] at hf hg
    have hget : es.toList[i]? = some es.toList[i] := List.getElem?_eq_getElem (by simpa using a1)
    simp only [Option.bind_some, hget, Option.map_some] at hg
    rw [← hg]
    have hkey : ((es[i]?).map (·.key)).getD (ek k) = ek k := by
      rw [← Array.getElem?_toList, a3]; rfl
    have hmod : (es.modify i fun e => { e with key := ek k }) = (es.modify i fun e => { e with key := ek k, val := es.toList[i].val }) := by
      apply Array.ext'
      apply List.ext_getElem?
      intro j
      rw [getElem?_modify', getElem?_modify']
      split
      · rename_i c; subst c; rw [hget]; rfl
      · rfl
    refine ⟨_, es.toList[i].born, ?_, ?_, (setObj_fr hb (.map (es.modify i fun e => { e with key := ek k }) clock)).1, setObj_size _⟩
    · simp only [Instr.mapEntry, Sem.run_bind, run_underlying hm, Result.andThen_ok, getObj_run hb, hk.check hok, hf, Option.bind_some, hget, Option.map_some, hkey, hk.stays hok, setObj_run hb _, Sem.run_pure]
      rw [← Array.getElem?_toList, hget]; rfl
    · have hh := (setObj_fr hb (.map (es.modify i fun e => { e with key := ek k }) clock)).2
      rw [hmod] at hh ⊢
      obtain ⟨es', c', g1, g2, g3, g4, g5⟩ := mapBk_set (v := es.toList[i].val) h1 h2 h3 h4 hi hh
      rw [hh] at g1
      cases g1
      refine ⟨_, _, i, hh, g2, g3, g4, g5, by rw [Option.getD_some, kvSet_keys, hi], ?_⟩
      rw [getElem?_modify', if_pos rfl, hget]; rfl

/-- a map's block, laid open -/
def MapRaw {κ : Type} (w : World) (b : Nat) (ek : κ → Value) (kv : List (κ × Value)) (es : Array MapEntry) (clock : Nat) : Prop :=
  w.heap[b]? = some (.map es clock) ∧ es.toList.map (·.key) = kv.map (fun p => ek p.1) ∧ es.toList.map (·.val) = kv.map (·.2) ∧ (kv.map (·.1)).Nodup ∧ BornOk es clock

theorem MapRaw.frame {κ : Type} {ek : κ → Value} {kv : List (κ × Value)} {es : Array MapEntry} {clock : Nat} (h : MapRaw w b ek kv es clock) (f : Fr S w w') (hs : ¬ S b) : MapRaw w' b ek kv es clock := ⟨f.here h.1 hs, h.2⟩
theorem MapBk.raw {κ : Type} {ek : κ → Value} {kv : List (κ × Value)} (h : MapBk w b ek kv) : ∃ es clock, MapRaw w b ek kv es clock := h
theorem MapRaw.bk {κ : Type} {ek : κ → Value} {kv : List (κ × Value)} {es : Array MapEntry} {clock : Nat} (h : MapRaw w b ek kv es clock) : MapBk w b ek kv := ⟨es, clock, h⟩
theorem MapSt.bk {s : Nat} (h : MapSt w b ek kv k s) : MapBk w b ek kv := by
  obtain ⟨es, c, i, h1, h2, h3, h4, h5, _⟩ := h
  exact ⟨es, c, h1, h2, h3, h4, h5⟩

/-- the stamp by which an entry is held -/
def stampOf (es : Array MapEntry) (clock : Nat) : Option Nat → Nat
  | none => clock
  | some i => ((es.toList[i]?).map (·.born)).getD 0

theorem run_mapEntryS {es : Array MapEntry} {clock : Nat} (hm : P.underlying t = some (.map kt et)) (hk : KeyEq P kt ek ok) (hok : ok k) (hoks : ∀ p ∈ kv, ok p.1) (hz : zeroIs P et = some z) (h : MapRaw w b ek kv es clock) :
    ∃ w', (Instr.mapEntry t (.map (some b)) (ek k)).run P w = .ok (.tuple #[(kvGet k kv).getD z, .int .i64 (stampOf es clock (idxIn k (kv.map (·.1))) : Nat)]) w' ∧ MapSt w' b ek (kvSet k ((kvGet k kv).getD z) kv) k (stampOf es clock (idxIn k (kv.map (·.1)))) ∧ Fr (fun k => k = b) w w' ∧ w'.heap.size = w.heap.size := by
  obtain ⟨hb, h1, h2, h3, h4⟩ := h
  obtain ⟨hf, hg⟩ := find_run hk hok hoks h1 h2 w
  have hzero : (zeroValue et).run P w = .ok z w := by
    simp only [zeroIs, Option.bind_eq_some_iff] at hz
    obtain ⟨i, hi, hv⟩ := hz
    simp [zeroValue, run_typeInfo' hi, hv]
  cases hi : idxIn k (kv.map (·.1)) with
  | none =>
    rw [hi] at hf hg
    simp only [Option.bind_none, Option.map_none] at hg
    rw [← hg]
    have hst : stampOf es clock none = clock := rfl
    rw [hst]
    refine ⟨_, ?_, ?_, (setObj_fr hb (.map (es.push { key := ek k, val := z, born := clock }) (clock + 1))).1, setObj_size _⟩
    · simp only [Instr.mapEntry, Sem.run_bind, run_underlying hm, Result.andThen_ok, getObj_run hb, hk.check hok, hf, Option.bind_none, hzero, setObj_run hb _, Sem.run_pure]
      rfl
    · obtain ⟨es', c', g1, g2, g3, g4, g5⟩ := mapBk_push (v := z) h1 h2 h3 h4 hi (setObj_fr hb (.map (es.push { key := ek k, val := z, born := clock }) (clock + 1))).2
      have := (setObj_fr hb (.map (es.push { key := ek k, val := z, born := clock }) (clock + 1))).2
      rw [this] at g1
      cases g1
      refine ⟨_, _, kv.length, this, g2, g3, g4, g5, by rw [Option.getD_none, kvSet_keys, hi], ?_⟩
      have hlen := congrArg List.length h1
      simp at hlen
      rw [← hlen]; simp
  | some i =>
    obtain ⟨a1, a2, a3⟩ := idx_size h1 hi
    rw [hi] at hf hg
    have hget : es.toList[i]? = some es.toList[i] := List.getElem?_eq_getElem (by simpa using a1)
    simp only [Option.bind_some, hget, Option.map_some] at hg
    rw [← hg]
    have hkey : ((es[i]?).map (·.key)).getD (ek k) = ek k := by
      rw [← Array.getElem?_toList, a3]; rfl
    have hmod : (es.modify i fun e => { e with key := ek k }) = (es.modify i fun e => { e with key := ek k, val := es.toList[i].val }) := by
      apply Array.ext'
      apply List.ext_getElem?
      intro j
      rw [getElem?_modify', getElem?_modify']
      split
      · rename_i c; subst c; rw [hget]; rfl
      · rfl
    have hst : stampOf es clock (some i) = es.toList[i].born := by simp only [stampOf, hget]; rfl
    rw [hst]
    refine ⟨_, ?_, ?_, (setObj_fr hb (.map (es.modify i fun e => { e with key := ek k }) clock)).1, setObj_size _⟩
    · simp only [Instr.mapEntry, Sem.run_bind, run_underlying hm, Result.andThen_ok, getObj_run hb, hk.check hok, hf, Option.bind_some, hget, Option.map_some, hkey, hk.stays hok, setObj_run hb _, Sem.run_pure]
      rw [← Array.getElem?_toList, hget]; rfl
    · have hh := (setObj_fr hb (.map (es.modify i fun e => { e with key := ek k }) clock)).2
      rw [hmod] at hh ⊢
      obtain ⟨es', c', g1, g2, g3, g4, g5⟩ := mapBk_set (v := es.toList[i].val) h1 h2 h3 h4 hi hh
      rw [hh] at g1
      cases g1
      refine ⟨_, _, i, hh, g2, g3, g4, g5, by rw [Option.getD_some, kvSet_keys, hi], ?_⟩
      rw [getElem?_modify', if_pos rfl, hget]; rfl

theorem findIdx_born : ∀ (es : List MapEntry) (i : Nat) (s : Nat), (es.map (·.born)).Nodup → es[i]?.map (·.born) = some s → es.findIdx? (fun e => ((e.born : Nat) : Int) == (s : Int)) = some i
  | [], i, s, _, h => by simp at h
  | e :: es, 0, s, _, h => by simp at h; simp [List.findIdx?_cons, h]
  | e :: es, i + 1, s, hn, h => by
    simp only [List.getElem?_cons_succ] at h
    simp only [List.map_cons, List.nodup_cons] at hn
    have hne : ¬ e.born = s := by
      intro c
      apply hn.1
      rw [List.mem_map]
      cases hi : es[i]? with
      | none => rw [hi] at h; cases h
      | some x => rw [hi] at h; simp at h; exact ⟨x, List.mem_of_getElem? hi, by rw [h, c]⟩
    have ih := findIdx_born es i s hn.2 h
    rw [List.findIdx?_cons, if_neg (by simp; omega), ih]; rfl

theorem run_entryStore {s : Nat} (h : MapSt w b ek kv k s) :
    ∃ w', (Instr.entryStore t (.map (some b)) (.int .i64 (s : Nat)) v).run P w = .ok () w' ∧ MapBk w' b ek (kvSet k v kv) ∧ Fr (fun k => k = b) w w' ∧ w'.heap.size = w.heap.size := by
  obtain ⟨es, clock, i, hb, h1, h2, h3, h4, hi, hs⟩ := h
  obtain ⟨a1, a2, a3⟩ := idx_size h1 hi
  have hidx : es.findIdx? (fun e => ((e.born : Nat) : Int) == (s : Int)) = some i := by
    have := findIdx_born es.toList i s h4.1 hs
    rw [← this]
    obtain ⟨l⟩ := es
    exact List.findIdx?_toArray _ l
  have hget : es.toList[i]? = some es.toList[i] := List.getElem?_eq_getElem (by simpa using a1)
  have hmod : (es.modify i fun e => { e with val := v }) = (es.modify i fun e => { e with key := ek k, val := v }) := by
    apply Array.ext'
    apply List.ext_getElem?
    intro j
    rw [getElem?_modify', getElem?_modify']
    split
    · rename_i c; subst c
      rw [hget] at a3 ⊢
      simp at a3
      simp only [Option.map_some, Option.some.injEq]
      rw [← a3]
      simp
    · rfl
  refine ⟨_, ?_, mapBk_set h1 h2 h3 h4 hi (setObj_fr hb (.map (es.modify i fun e => { e with key := ek k, val := v }) clock)).2, (setObj_fr hb _).1, setObj_size _⟩
  simp only [Instr.entryStore, Sem.run_bind, getObj_run hb, Result.andThen_ok, asInt, asIntOf, Sem.run_pure, hidx]
  rw [hmod]
  exact setObj_run hb _

theorem run_delete (hm : P.underlying t = some (.map kt et)) (hk : KeyEq P kt ek ok) (hok : ok k) (hoks : ∀ p ∈ kv, ok p.1) (h : MapBk w b ek kv) (t2 ty : TypeId) :
    ∃ w', (Builtin.delete_ #[t, t2] ty #[.map (some b), ek k]).run P w = .ok (.tuple #[]) w' ∧ MapBk w' b ek (kvDel k kv) ∧ Fr (fun k => k = b) w w' ∧ w'.heap.size = w.heap.size := by
  obtain ⟨es, clock, hb, h1, h2, h3, h4⟩ := h
  obtain ⟨hf, _⟩ := find_run hk hok hoks h1 h2 w
  cases hi : idxIn k (kv.map (·.1)) with
  | none =>
    rw [hi] at hf
    refine ⟨_, ?_, ⟨es, clock, (setObj_fr hb (.map es clock)).2, by rw [kvDel_none hi]; exact h1, by rw [kvDel_none hi]; exact h2, by rw [kvDel_none hi]; exact h3, h4⟩, (setObj_fr hb _).1, setObj_size _⟩
    simp [Builtin.delete_, run_underlying hm, getObj_run hb, hk.check hok, hf, setObj_run hb _]
  | some i =>
    obtain ⟨a1, a2, a3⟩ := idx_size h1 hi
    rw [hi] at hf
    have hget : es.toList[i]? = some es.toList[i] := List.getElem?_eq_getElem (by simpa using a1)
    have er : (es.eraseIdxIfInBounds i).toList = es.toList.eraseIdx i := by simp [Array.eraseIdxIfInBounds, a1]
    have em : ∀ {β : Type} (g : MapEntry → β), (es.eraseIdxIfInBounds i).toList.map g = (es.toList.map g).eraseIdx i := by
      intro β g; rw [er, eraseIdx_map']
    refine ⟨_, ?_, ⟨es.eraseIdxIfInBounds i, clock, (setObj_fr hb (.map (es.eraseIdxIfInBounds i) clock)).2, ?_, ?_, ?_, ?_, ?_⟩, (setObj_fr hb _).1, setObj_size _⟩
    · simp only [Option.bind_some, hget, Option.map_some] at hf
      simp [Builtin.delete_, run_underlying hm, getObj_run hb, hk.check hok, hf, setObj_run hb _]
    · rw [em, h1, kvDel_old hi, eraseIdx_map']
    · rw [em, h2, kvDel_old hi, eraseIdx_map']
    · rw [kvDel_old hi, ← eraseIdx_map']; exact h3.sublist (List.eraseIdx_sublist _ _)
    · rw [em]; exact h4.1.sublist (List.eraseIdx_sublist _ _)
    · intro e he
      rw [er] at he
      exact h4.2 e (List.mem_of_mem_eraseIdx he)

theorem run_len_mapBk {κ : Type} {ek : κ → Value} {kv : List (κ × Value)} (hm : P.underlying t = some (.map kt et)) (h : MapBk w b ek kv) (ty : TypeId) : (Builtin.len_ #[t] ty #[.map (some b)]).run P w = .ok (.int .i64 (kv.length : Nat)) w := by
  obtain ⟨es, clock, hb, h1, _⟩ := h
  have hlen := congrArg List.length h1
  simp at hlen
  simp [Builtin.len_, run_underlying hm, getObj_run hb, goInt, hlen]

end law

section ops
variable {κ : Type} [DecidableEq κ] {kt et : Nat} {ek : κ → Value} {ok : κ → Prop} {key : κ} {kv : List (κ × Value)} {z : Value}
variable {n : Nat} {D : List Deferred} {L : List (Nat × Value)} {Q : Exit → Act → World → Prop} {ops : Array Oper} {todo : List Oper}
variable {d : Nat} {t t' ty : TypeId} {pos : String} {af : Array Edge} {x y : Operand} {u u' v : Value} {b o k : Nat} {i : Int} {ik : IntKind} {a : Act}

theorem OW.lookup (key : κ) (hd : Nat.blt d n = true) (hm : P.underlying t = some (.map kt et)) (hk : KeyEq P kt ek ok) (hz : zeroIs P et = some z) (hx : evl L x = some (.map (some b))) (hy : evl L y = some (ek key)) (hok : ok key) (hoks : ∀ p ∈ kv, ok p.1)
    (hb : MapBk w b ek kv) (h : OW P ops Q n D todo ((d, (kvGet key kv).getD z) :: L) w) :
    OW P ops Q n D (⟨some d, .lookup t x y false, ty, pos, af, none⟩ :: todo) L w :=
  OW.value rfl rfl hd (fun a ha => by
    simp only [execOp, ha.eval hx, ha.eval hy]
    exact run_val (run_lookup hm hk hok hoks hz hb false)) h

theorem OW.lookup2 (key : κ) (hd : Nat.blt d n = true) (hm : P.underlying t = some (.map kt et)) (hk : KeyEq P kt ek ok) (hz : zeroIs P et = some z) (hx : evl L x = some (.map (some b))) (hy : evl L y = some (ek key)) (hok : ok key) (hoks : ∀ p ∈ kv, ok p.1)
    (hb : MapBk w b ek kv) (h : OW P ops Q n D todo ((d, .tuple #[(kvGet key kv).getD z, .bool (kvGet key kv).isSome]) :: L) w) :
    OW P ops Q n D (⟨some d, .lookup t x y true, ty, pos, af, none⟩ :: todo) L w :=
  OW.value rfl rfl hd (fun a ha => by
    simp only [execOp, ha.eval hx, ha.eval hy]
    exact run_val (run_lookup hm hk hok hoks hz hb true)) h

theorem OW.mapUpdate {g : Operand} (key : κ) (hm : P.underlying t = some (.map kt et)) (hk : KeyEq P kt ek ok) (hx : evl L x = some (.map (some b))) (hy : evl L y = some (ek key)) (hv : evl L g = some v) (hok : ok key) (hoks : ∀ p ∈ kv, ok p.1)
    (hb : MapBk w b ek kv) (h : ∀ w', Fr (fun k => k = b) w w' → w'.heap.size = w.heap.size → MapBk w' b ek (kvSet key v kv) → OW P ops Q n D todo L w') :
    OW P ops Q n D (⟨none, .mapUpdate t x y g, ty, pos, af, none⟩ :: todo) L w := by
  obtain ⟨w', hr, h1, h2, h3⟩ := run_mapUpdate (v := v) hm hk hok hoks hb
  refine OW.skip rfl rfl (fun a ha => ?_) (h w' h2 h3 h1)
  simp only [execOp, ha.eval hx, ha.eval hy, ha.eval hv]
  exact run_unit hr

theorem OW.mapEntry (key : κ) (hd : Nat.blt d n = true) (hm : P.underlying t = some (.map kt et)) (hk : KeyEq P kt ek ok) (hz : zeroIs P et = some z) (hx : evl L x = some (.map (some b))) (hy : evl L y = some (ek key)) (hok : ok key) (hoks : ∀ p ∈ kv, ok p.1)
    (hb : MapBk w b ek kv) (h : ∀ w' s, Fr (fun k => k = b) w w' → w'.heap.size = w.heap.size → MapSt w' b ek (kvSet key ((kvGet key kv).getD z) kv) key s → OW P ops Q n D todo ((d, .tuple #[(kvGet key kv).getD z, .int .i64 (s : Nat)]) :: L) w') :
    OW P ops Q n D (⟨some d, .mapEntry t x y, ty, pos, af, none⟩ :: todo) L w := by
  obtain ⟨w', s, hr, h1, h2, h3⟩ := run_mapEntry hm hk hok hoks hz hb
  refine OW.value rfl rfl hd (fun a ha => ?_) (h w' s h2 h3 h1)
  simp only [execOp, ha.eval hx, ha.eval hy]
  exact run_val hr

theorem OW.mapEntryS {es : Array MapEntry} {clock : Nat} (key : κ) (hd : Nat.blt d n = true) (hm : P.underlying t = some (.map kt et)) (hk : KeyEq P kt ek ok) (hz : zeroIs P et = some z) (hx : evl L x = some (.map (some b))) (hy : evl L y = some (ek key)) (hok : ok key) (hoks : ∀ p ∈ kv, ok p.1)
    (hb : MapRaw w b ek kv es clock) (h : ∀ w', Fr (fun k => k = b) w w' → w'.heap.size = w.heap.size → MapSt w' b ek (kvSet key ((kvGet key kv).getD z) kv) key (stampOf es clock (idxIn key (kv.map (·.1)))) →
      OW P ops Q n D todo ((d, .tuple #[(kvGet key kv).getD z, .int .i64 (stampOf es clock (idxIn key (kv.map (·.1))) : Nat)]) :: L) w') :
    OW P ops Q n D (⟨some d, .mapEntry t x y, ty, pos, af, none⟩ :: todo) L w := by
  obtain ⟨w', hr, h1, h2, h3⟩ := run_mapEntryS hm hk hok hoks hz hb
  refine OW.value rfl rfl hd (fun a ha => ?_) (h w' h2 h3 h1)
  simp only [execOp, ha.eval hx, ha.eval hy]
  exact run_val hr

theorem OW.entryStore {g : Operand} {s : Nat} (hx : evl L x = some (.map (some b))) (hy : evl L y = some (.int .i64 (s : Nat))) (hv : evl L g = some v)
    (hb : MapSt w b ek kv key s) (h : ∀ w', Fr (fun k => k = b) w w' → w'.heap.size = w.heap.size → MapBk w' b ek (kvSet key v kv) → OW P ops Q n D todo L w') :
    OW P ops Q n D (⟨none, .entryStore t x y g, ty, pos, af, none⟩ :: todo) L w := by
  obtain ⟨w', hr, h1, h2, h3⟩ := run_entryStore (P := P) (t := t) (v := v) hb
  refine OW.skip rfl rfl (fun a ha => ?_) (h w' h2 h3 h1)
  simp only [execOp, ha.eval hx, ha.eval hy, ha.eval hv]
  exact run_unit hr

theorem OW.delete (key : κ) (hd : Nat.blt d n = true) (hm : P.underlying t = some (.map kt et)) (hk : KeyEq P kt ek ok) (hx : evl L x = some (.map (some b))) (hy : evl L y = some (ek key)) (hok : ok key) (hoks : ∀ p ∈ kv, ok p.1)
    (hb : MapBk w b ek kv) (h : ∀ w', Fr (fun k => k = b) w w' → w'.heap.size = w.heap.size → MapBk w' b ek (kvDel key kv) → OW P ops Q n D todo ((d, .tuple #[]) :: L) w') :
    OW P ops Q n D (⟨some d, .call ⟨.builtin .delete, #[x, y], #[t, t']⟩, ty, pos, af, none⟩ :: todo) L w := by
  obtain ⟨w', hr, h1, h2, h3⟩ := run_delete hm hk hok hoks hb t' ty
  refine OW.value rfl rfl hd (fun a ha => ?_) (h w' h2 h3 h1)
  simp only [execOp, resolve, Sem.run_bind, Sem.run_pure, Result.andThen_ok, invoke, builtin]
  simp only [List.map_toArray, List.map_cons, List.map_nil, ha.eval hx, ha.eval hy, hr]
  rfl

theorem OW.lenMap {κ : Type} {ek : κ → Value} {kv : List (κ × Value)} (hd : Nat.blt d n = true) (hm : P.underlying t = some (.map kt et)) (hx : evl L x = some (.map (some b))) (hb : MapBk w b ek kv)
    (h : OW P ops Q n D todo ((d, .int .i64 (kv.length : Nat)) :: L) w) :
    OW P ops Q n D (⟨some d, .call ⟨.builtin .len, #[x], #[t]⟩, ty, pos, af, none⟩ :: todo) L w :=
  OW.value rfl rfl hd (fun a ha => by
    simp only [execOp, resolve, Sem.run_bind, Sem.run_pure, Result.andThen_ok, invoke, builtin]
    simp only [List.map_toArray, List.map_cons, List.map_nil, ha.eval hx, run_len_mapBk hm hb]
    rfl) h

end ops

end Go.Eng
