/-
  The engine, part S: a region whose order is open is gone through in one order: what yields the same whatever came before may be moved past all that it does not follow.
  No condition: general lemmas over any program.
-/
import Derived.Test.YtmdhbgkmkmmmpaaEngH
namespace Go.Eng
open Go

variable {r : Option Nat} {P : Program} {Q Q' : Exit → Act → World → Prop} {w w' : World} {n : Nat} {D : List Deferred} {L L' : List (Nat × Value)} {ops : Array Oper} {S : World → Prop}

/-- operations that give a value, or nothing, and call nothing -/
def valOp : Op → Bool
  | .move _ | .assign _ | .pick .. | .build .. | .load .. | .binOp .. | .unOp .. | .convert .. | .fieldAddr .. | .field .. | .indexAddr .. | .index .. | .lookup .. | .extract .. | .slice .. | .makeFunc .. | .makeInterface .. | .typeAssert .. | .nilCheck _ => true
  | _ => false

theorem val_run {s : Sem Value} {x : Next} (h : ((do pure (.value (← s)) : Sem Next)).run P w = .ok x w') : ∃ v, x = .value v := by
  have h2 : ((s.bind fun v => pure (.value v)) : Sem Next).run P w = .ok x w' := h
  rw [Sem.run_bind'] at h2
  cases hs : s.run P w with
  | ok v w1 =>
    rw [hs] at h2
    simp only [Result.andThen] at h2
    have h3 : (Result.ok (Next.value v) w1 : Result Next) = .ok x w' := h2
    cases h3
    exact ⟨v, rfl⟩
  | halt c w1 =>
    rw [hs] at h2
    simp [Result.andThen] at h2

theorem bind_run {α β : Type} {s : Sem α} {f : α → Sem β} {x : β} (h : (s >>= f).run P w = .ok x w') : ∃ a w1, (f a).run P w1 = .ok x w' := by
  have h2 : (s.bind f).run P w = .ok x w' := h
  rw [Sem.run_bind'] at h2
  cases hs : s.run P w with
  | ok v w1 => rw [hs] at h2; exact ⟨v, w1, h2⟩
  | halt c w1 => rw [hs] at h2; simp [Result.andThen] at h2

theorem valOp_run {o : Oper} {ρ : Operand → Value} {x : Next} (h : valOp o.op = true) (hr : (execOp ρ o).run P w = .ok x w') : ∃ v, x = .value v := by
  obtain ⟨dst, op, ty, pos, af, g⟩ := o
  cases op <;> simp only [valOp, Bool.false_eq_true] at h <;> simp only [execOp] at hr
  case move x => cases hr; exact ⟨_, rfl⟩
  case assign x => cases hr; exact ⟨_, rfl⟩
  case nilCheck y =>
    split at hr
    · simp [runtimePanic] at hr
    · simp [runtimePanic] at hr
    · simp [runtimePanic] at hr
    · split at hr
      · simp [runtimePanic] at hr
      · obtain ⟨_, w1, hr⟩ := bind_run hr
        obtain ⟨_, w2, hr⟩ := bind_run hr
        split at hr
        · obtain ⟨_, w3, hr⟩ := bind_run hr
          cases hr; exact ⟨_, rfl⟩
        · cases hr; exact ⟨_, rfl⟩
      · cases hr; exact ⟨_, rfl⟩
    · cases hr; exact ⟨_, rfl⟩
  case pick c a b =>
    have h2 : (((asBool (ρ c)).bind fun z => pure (.value (if z then ρ a else ρ b))) : Sem Next).run P w = .ok x w' := hr
    rw [Sem.run_bind'] at h2
    cases hs : (asBool (ρ c)).run P w with
    | ok v w1 =>
      rw [hs] at h2
      simp only [Result.andThen] at h2
      have h3 : (Result.ok (Next.value (if v then ρ a else ρ b)) w1 : Result Next) = .ok x w' := h2
      cases h3
      exact ⟨_, rfl⟩
    | halt c w1 =>
      rw [hs] at h2
      simp [Result.andThen] at h2
  all_goals exact val_run hr

/-- in every world of S an operation leaves 'v', and changes nothing -/
def yld (P : Program) (ops : Array Oper) (S : World → Prop) (o : Oper) (v : Value) (a : Act) : Prop :=
  (Region.wanted o (yielded ops a.tmps) = true ∧ ∀ w, S w → ∃ v', (execOp a.eval o).run P w = .ok (.value v') w ∧ ∀ d, o.dst = some d → v' = v) ∨
  (Region.wanted o (yielded ops a.tmps) = false ∧ ∀ d, o.dst = some d → v = undef)

theorem put_dst {a : Act} {o : Option Tmp} {v v' : Value} (h : ∀ d, o = some d → v' = v) : a.put o v' = a.put o v := by
  cases o with
  | none => rfl
  | some d => rw [h d rfl]

theorem yld.of_same {o : Oper} {v : Value} {a a' : Act} (hy : yld P ops S o v a) (he : execOp a'.eval o = execOp a.eval o) (hw : Region.wanted o (yielded ops a'.tmps) = Region.wanted o (yielded ops a.tmps)) : yld P ops S o v a' := by
  unfold yld at *
  rw [he, hw]; exact hy

def noQ : Exit → Act → World → Prop := fun _ _ _ => False

/-- one operation -/
def stp (P : Program) (ops : Array Oper) (o : Oper) (K : Act → World → Prop) (a : Act) (w : World) : Prop :=
  if Region.wanted o (yielded ops a.tmps) = true then o.wpIn Fence.wide 0 P a w K noQ else K (a.put o.dst undef) w

/-- a row of operations: those that yield whatever came before, and those that do something -/
def wpX (P : Program) (ops : Array Oper) (S : World → Prop) (Q : Exit → Act → World → Prop) : List (Oper × Bool) → Act → World → Prop
  | [], a, w => Q .normal a w
  | (o, false) :: r, a, w => ∃ v, yld P ops S o v a ∧ wpX P ops S Q r (a.put o.dst v) w
  | (o, true) :: r, a, w => stp P ops o (fun a' w' => S w' ∧ wpX P ops S Q r a' w') a w

/-- one that yields, and one behind it, change places -/
theorem wpX.swap {x y : Oper} {b : Bool} {rest : List (Oper × Bool)} {a : Act} (hap : x.apart ops y = true) (hsx : ∀ cs b, x.op ≠ .select cs b) (hsy : ∀ cs b, y.op ≠ .select cs b)
    (h : wpX P ops S Q ((x, false) :: (y, b) :: rest) a w) : wpX P ops S Q ((y, b) :: (x, false) :: rest) a w := by
  obtain ⟨h1, h2, h3⟩ := Oper.apart_spec hap
  obtain ⟨vx, hx, h⟩ := h
  have keep : ∀ u, yld P ops S x vx (a.put y.dst u) := fun u => hx.of_same (execOp_put x hsx a y.dst u h3) (wanted_put x a y.dst u h3)
  cases b with
  | false =>
    obtain ⟨vy, hy, h⟩ := h
    have hy' : yld P ops S y vy a := by
      unfold yld at hy ⊢
      rw [execOp_put y hsy a x.dst vx h1, wanted_put y a x.dst vx h1] at hy
      exact hy
    exact ⟨vy, hy', vx, keep vy, by rw [← Act.put_comm a vx vy h2]; exact h⟩
  | true =>
    simp only [wpX] at h ⊢
    unfold stp at h ⊢
    rw [wanted_put y a x.dst vx h1] at h
    split
    · rename_i hw
      rw [if_pos hw] at h
      unfold Oper.wpIn at *
      refine ⟨fun _ _ => trivial, ?_⟩
      have h := h.2
      have e1 : y.semAt Fence.wide.round (a.put x.dst vx).eval = execOp a.eval y := by
        show y.semAt none _ = _
        rw [Oper.semAt_none, execOp_put y hsy a x.dst vx h1]
      have e2 : y.semAt Fence.wide.round a.eval = execOp a.eval y := by
        show y.semAt none _ = _
        rw [Oper.semAt_none]
      rw [e1] at h
      rw [e2]
      generalize (execOp a.eval y).run P w = res at *
      cases res with
      | ok z w' =>
        cases z <;> simp only [Oper.uponIn] at h ⊢
        case value u => exact ⟨h.1, vx, keep u, by rw [← Act.put_comm a vx u h2]; exact h.2⟩
        case skip => exact ⟨h.1, vx, keep undef, by rw [← Act.put_comm a vx undef h2]; exact h.2⟩
        case defer d =>
          have hxD : yld P ops S x vx { a with defers := d :: a.defers } := hx.of_same rfl rfl
          refine ⟨h.1, vx, hxD.of_same (execOp_put x hsx _ y.dst undef h3) (wanted_put x _ y.dst undef h3), ?_⟩
          rw [← Act.put_comm _ vx undef h2, ← Act.put_defers]
          exact h.2
        case enter f args =>
          refine ⟨h.1, CallsIn.mono h.2 fun e w'' he => ?_⟩
          cases e with
          | returned u => exact ⟨he.1, vx, keep u, by rw [← Act.put_comm a vx u h2]; exact he.2⟩
          | panicked c => exact he
          | outgrown => exact he
        case row row args => exact ⟨h.1, RowsIn.mono h.2 fun u w'' he => ⟨he.1, vx, keep u, by rw [← Act.put_comm a vx u h2]; exact he.2⟩⟩
        case round l f tmps assign body =>
          refine ⟨h.1, RoundIn.mono h.2 fun e w'' he => ?_⟩
          cases e with
          | returned u => exact ⟨he.1, vx, keep u, by rw [← Act.put_comm a vx u h2]; exact he.2⟩
          | panicked c => exact he
          | outgrown => exact he
      | halt z w' =>
        cases z <;> simp only [Oper.uponIn] at h ⊢
        case panic u => exact h
    · rename_i hw
      rw [if_neg hw] at h
      exact ⟨h.1, vx, keep undef, by rw [← Act.put_comm a vx undef h2]; exact h.2⟩

theorem wpX.tail {x : Oper} {l l' : List (Oper × Bool)} (h : ∀ a w, wpX P ops S Q l a w → wpX P ops S Q l' a w) {a : Act} (hx : wpX P ops S Q ((x, false) :: l) a w) : wpX P ops S Q ((x, false) :: l') a w := by
  obtain ⟨v, hv, hx⟩ := hx
  exact ⟨v, hv, h _ _ hx⟩

theorem wpX.front {y : Oper × Bool} {post : List (Oper × Bool)} (hsy : ∀ cs b, y.1.op ≠ .select cs b) : ∀ (pre : List (Oper × Bool)), (∀ x ∈ pre, x.2 = false ∧ x.1.apart ops y.1 = true ∧ ∀ cs b, x.1.op ≠ .select cs b) → ∀ a w,
    wpX P ops S Q (pre ++ y :: post) a w → wpX P ops S Q (y :: (pre ++ post)) a w
  | [], _, a, w, h => h
  | (x, bx) :: pre, hp, a, w, h => by
    obtain ⟨h1, h2, h3⟩ := hp (x, bx) (by simp)
    simp only at h1; subst h1
    have ih := wpX.front (post := post) hsy pre (fun z hz => hp z (by simp [hz]))
    have := wpX.tail (l' := y :: (pre ++ post)) ih h
    obtain ⟨y, b⟩ := y
    exact wpX.swap h2 h3 hsy this

/-! ### which orders there are -/

/-- of each operation all that must have come before it -/
def ancs (os : List Oper) : List (List Nat) := os.foldl (fun t o => t ++ [(bpreds o).foldl (fun acc j => j :: (t.getD j [] ++ acc)) []]) []

def anc (os : List Oper) (i : Nat) : List Nat := (ancs os).getD i []

theorem ancs_snoc (os : List Oper) (o : Oper) : ancs (os ++ [o]) = ancs os ++ [(bpreds o).foldl (fun acc j => j :: ((ancs os).getD j [] ++ acc)) []] := by
  simp [ancs, List.foldl_append]

theorem ancs_len : ∀ os : List Oper, (ancs os).length = os.length := by
  have gen : ∀ (k : Nat) (os : List Oper), os.length = k → (ancs os).length = os.length := by
    intro k
    induction k with
    | zero => intro os h; have : os = [] := List.eq_nil_of_length_eq_zero h; subst this; rfl
    | succ k ih =>
      intro os h
      have hne : os ≠ [] := by intro e; subst e; simp at h
      have hx := List.dropLast_concat_getLast hne
      generalize os.getLast hne = x at hx
      rw [← hx, ancs_snoc]
      have := ih os.dropLast (by simp [h])
      simp [this]
  exact fun os => gen _ os rfl

theorem fold_mem {f : Nat → List Nat} : ∀ {js acc : List Nat} {x : Nat}, x ∈ js.foldl (fun acc j => j :: (f j ++ acc)) acc → x ∈ acc ∨ ∃ j ∈ js, x = j ∨ x ∈ f j
  | [], acc, x, h => .inl h
  | j :: js, acc, x, h => by
    simp only [List.foldl_cons] at h
    rcases fold_mem h with h | ⟨j', hj', h⟩
    · simp only [List.mem_cons, List.mem_append] at h
      rcases h with rfl | h | h
      · exact .inr ⟨x, by simp, .inl rfl⟩
      · exact .inr ⟨j, by simp, .inr h⟩
      · exact .inl h
    · exact .inr ⟨j', by simp [hj'], h⟩

theorem anc_spec : ∀ {os : List Oper} {i : Nat} {o : Oper} {x : Nat}, os[i]? = some o → x ∈ anc os i → ∃ j ∈ bpreds o, x = j ∨ (j < i ∧ x ∈ anc os j) := by
  have gen : ∀ (k : Nat) (os : List Oper), os.length = k → ∀ {i : Nat} {o : Oper} {x : Nat}, os[i]? = some o → x ∈ anc os i → ∃ j ∈ bpreds o, x = j ∨ (j < i ∧ x ∈ anc os j) := by
    intro k
    induction k with
    | zero => intro os h; have : os = [] := List.eq_nil_of_length_eq_zero h; subst this; simp
    | succ k ih =>
      intro os h
      have hne : os ≠ [] := by intro e; subst e; simp at h
      have hx := List.dropLast_concat_getLast hne
      generalize os.getLast hne = y at hx
      have hl : os.dropLast.length = k := by simp [h]
      generalize os.dropLast = zs at hx hl
      subst hx
      intro i o x ho hxa
      have old : ∀ j, j < zs.length → anc (zs ++ [y]) j = anc zs j := by
        intro j hj
        unfold anc
        rw [ancs_snoc, List.getD_eq_getElem?_getD, List.getElem?_append_left (by rw [ancs_len]; exact hj), List.getD_eq_getElem?_getD]
      rcases Nat.lt_or_ge i zs.length with c | c
      · rw [List.getElem?_append_left c] at ho
        rw [old i c] at hxa
        obtain ⟨j, hj, h⟩ := ih zs hl ho hxa
        exact ⟨j, hj, h.imp id fun ⟨a, b⟩ => ⟨a, by rw [old j (by omega)]; exact b⟩⟩
      · rw [List.getElem?_append_right c] at ho
        have hi : i - zs.length = 0 := by
          rcases Nat.eq_zero_or_pos (i - zs.length) with z | z
          · exact z
          · rw [List.getElem?_eq_none (by simp; omega)] at ho; cases ho
        rw [hi] at ho
        simp at ho; subst ho
        have hi' : i = zs.length := by omega
        subst hi'
        unfold anc at hxa
        rw [ancs_snoc, List.getD_eq_getElem?_getD, List.getElem?_append_right (by rw [ancs_len]; exact Nat.le_refl _), ancs_len, Nat.sub_self] at hxa
        simp only [List.getElem?_cons_zero, Option.getD_some] at hxa
        rcases fold_mem hxa with h | ⟨j, hj, h⟩
        · simp at h
        · refine ⟨j, hj, h.imp id fun h => ?_⟩
          have hjl : j < zs.length := by
            rcases Nat.lt_or_ge j zs.length with c | c
            · exact c
            · rw [List.getD_eq_getElem?_getD, List.getElem?_eq_none (by rw [ancs_len]; exact c)] at h; simp at h
          exact ⟨hjl, by rw [old j hjl]; exact h⟩
  exact fun {os} => gen _ os rfl

/-- may the one at i, which stands ahead of the one at j, be passed by it only if it must come first or yields whatever came before? -/
def ordPair (os : List Oper) (t : List (List Nat)) (x y : Nat × Bool) : Bool :=
  (t.getD y.1 []).any (Nat.beq x.1) || (!x.2 && match os[x.1]?, os[y.1]? with | some a, some b => a.apart os.toArray b | _, _ => false)

def ordAll (os : List Oper) (t : List (List Nat)) : List (Nat × Bool) → Bool
  | [] => true
  | x :: r => r.all (fun y => !(Nat.beq x.1 y.1) && ordPair os t x y) && ordAll os t r

def noSel (os : List Oper) : Bool := os.all fun o => match o.op with | .select .. => false | _ => true

theorem noSel_spec {os : List Oper} (h : noSel os = true) {j : Nat} {o : Oper} (ho : os[j]? = some o) (cs : Array SelectCase) (b : Bool) : o.op ≠ .select cs b := by
  intro heq
  unfold noSel at h
  rw [List.all_eq_true] at h
  have := h o (List.mem_of_getElem? ho)
  rw [heq] at this
  cases this

def ordOk (os : List Oper) (ord : List (Nat × Bool)) : Bool :=
  Nat.beq ord.length os.length && ord.all (fun x => Nat.blt x.1 os.length) && ((List.range os.length).all fun i => ord.any fun x => Nat.beq x.1 i) && ordAll os (ancs os) ord && noSel os &&
  os.zipIdx.all fun (o, i) => (bpreds o).all (Nat.blt · i)

/-- the operations in such an order -/
def pickO (os : List Oper) : List (Nat × Bool) → List (Oper × Bool)
  | [] => []
  | (i, b) :: r => match os[i]? with
    | some o => (o, b) :: pickO os r
    | none => pickO os r

theorem pickO_append (os : List Oper) : ∀ xs ys, pickO os (xs ++ ys) = pickO os xs ++ pickO os ys
  | [], ys => rfl
  | (i, b) :: r, ys => by
    simp only [List.cons_append, pickO]
    cases os[i]? with
    | none => exact pickO_append os r ys
    | some o => simp only [List.cons_append, pickO_append os r ys]

theorem mem_pickO {os : List Oper} : ∀ {ord : List (Nat × Bool)} {x : Oper × Bool}, x ∈ pickO os ord → ∃ i, (i, x.2) ∈ ord ∧ os[i]? = some x.1
  | [], x, h => by simp [pickO] at h
  | (i, b) :: r, x, h => by
    simp only [pickO] at h
    cases ho : os[i]? with
    | none => rw [ho] at h; obtain ⟨j, h1, h2⟩ := mem_pickO h; exact ⟨j, by simp [h1], h2⟩
    | some o =>
      rw [ho] at h
      rcases List.mem_cons.1 h with rfl | h
      · exact ⟨i, by simp, ho⟩
      · obtain ⟨j, h1, h2⟩ := mem_pickO h; exact ⟨j, by simp [h1], h2⟩

/-- any order leads where the one order leads -/
theorem any_of_order {os : List Oper} (hnd : noDefer r os = true) (hsel : noSel os = true) (hback : ∀ (i : Nat) (o : Oper), os[i]? = some o → ∀ j ∈ bpreds o, j < i) :
    ∀ (k : Nat) (ord : List (Nat × Bool)) (listed : Array Bool) (a : Act) (w : World), ord.length = k → listed.size = os.length → (∀ i, i < os.length → (listed.getD i true = false ↔ ∃ b, (i, b) ∈ ord)) → (∀ x ∈ ord, x.1 < os.length) → (ord.map (·.1)).Nodup →
      (∀ (i : Nat) (o : Oper), os[i]? = some o → listed.getD i true = true → ∀ j ∈ bpreds o, listed.getD j true = true) →
      ord.Pairwise (fun x y => x.1 ∈ anc os y.1 ∨ (x.2 = false ∧ ∀ a b, os[x.1]? = some a → os[y.1]? = some b → a.apart os.toArray b = true)) →
      S w → wpX P os.toArray S Q (pickO os ord) a w → wpAnyIn (GF r) 0 P .any os.toArray Q k listed a w := by
  intro k
  have hlt : ∀ {i : Nat} {o : Oper}, os[i]? = some o → i < os.length := by
    intro i o e
    rcases Nat.lt_or_ge i os.length with c | c
    · exact c
    · rw [List.getElem?_eq_none c] at e; cases e
  have hsl : ∀ {i : Nat} {o : Oper}, os[i]? = some o → ∀ cs b, o.op ≠ .select cs b := fun h cs b => noSel_spec hsel h cs b
  induction k with
  | zero =>
    intro ord listed a w hk hsz hun hlo hndp hcl hpw hS h
    have : ord = [] := List.eq_nil_of_length_eq_zero hk
    subst this
    simp only [wpAnyIn]
    refine ⟨?_, h⟩
    rw [List.eq_nil_iff_forall_not_mem]
    intro i hi
    obtain ⟨o, ho, hl, _⟩ := ready_iff.1 hi
    obtain ⟨b, hb⟩ := (hun i (hlt ho)).1 hl
    simp at hb
  | succ k ih =>
    intro ord listed a w hk hsz hun hlo hndp hcl hpw hS h
    have hft : ∀ i, i < os.length → listed.getD i false = listed.getD i true := fun i hi => getD_ft (by rw [hsz]; exact hi)
    simp only [wpAnyIn]
    constructor
    · intro hr
      exfalso
      have hex : ∀ g i, i ≤ g → i < os.length → listed.getD i true = false → ∃ j, j ∈ Region.ready .any os.toArray listed := by
        intro g
        induction g with
        | zero =>
          intro i hi hil hf
          have hi0 : i = 0 := by omega
          subst hi0
          refine ⟨0, ready_iff.2 ⟨os[0], List.getElem?_eq_getElem hil, hf, fun e he hb => ?_⟩⟩
          exact absurd (hback 0 _ (List.getElem?_eq_getElem hil) e.on (mem_bpreds.2 ⟨e, he, hb, rfl⟩)) (by omega)
        | succ g ihg =>
          intro i hi hil hf
          by_cases c : ∃ q ∈ bpreds os[i], listed.getD q true = false
          · obtain ⟨q, hq, hqf⟩ := c
            have := hback i _ (List.getElem?_eq_getElem hil) q hq
            exact ihg q (by omega) (by omega) hqf
          · refine ⟨i, ready_iff.2 ⟨os[i], List.getElem?_eq_getElem hil, hf, fun e he hb => ?_⟩⟩
            have hm : e.on ∈ bpreds os[i] := mem_bpreds.2 ⟨e, he, hb, rfl⟩
            have := hback i _ (List.getElem?_eq_getElem hil) e.on hm
            rw [hft _ (by omega)]
            cases hc : listed.getD e.on true with
            | true => rfl
            | false => exact absurd ⟨e.on, hm, hc⟩ c
      obtain ⟨x, hx⟩ : ∃ x, x ∈ ord := by
        cases ord with
        | nil => simp at hk
        | cons x _ => exact ⟨x, by simp⟩
      obtain ⟨j, hj⟩ := hex x.1 x.1 (Nat.le_refl _) (hlo x hx) ((hun x.1 (hlo x hx)).2 ⟨x.2, hx⟩)
      rw [hr] at hj; simp at hj
    · intro i hi
      obtain ⟨o, ho, hl, hd⟩ := ready_iff.1 hi
      have hil := hlt ho
      obtain ⟨b, hb⟩ := (hun i hil).1 hl
      obtain ⟨pre, post, rfl⟩ := List.append_of_mem hb
      -- all that must come before it is listed
      have hpl : ∀ j ∈ bpreds o, listed.getD j true = true := fun j hj => by
        obtain ⟨e, he, hbd, rfl⟩ := mem_bpreds.1 hj
        have := hback i o ho e.on hj
        rw [← hft _ (by omega)]; exact hd e he hbd
      have hal : ∀ g i' o', i' ≤ g → os[i']? = some o' → (∀ j ∈ bpreds o', listed.getD j true = true) → ∀ x ∈ anc os i', listed.getD x true = true := by
        intro g
        induction g with
        | zero =>
          intro i' o' hi' ho' hb' x hx
          obtain ⟨j, hj, h⟩ := anc_spec ho' hx
          have := hback i' o' ho' j hj
          omega
        | succ g ihg =>
          intro i' o' hi' ho' hb' x hx
          obtain ⟨j, hj, h⟩ := anc_spec ho' hx
          rcases h with rfl | ⟨hji, h⟩
          · exact hb' _ hj
          · have hjl : j < os.length := by have := hlt ho'; omega
            exact ihg j os[j] (by omega) (List.getElem?_eq_getElem hjl) (hcl j _ (List.getElem?_eq_getElem hjl) (hb' j hj)) x h
      have hpre : ∀ x ∈ pre, x.2 = false ∧ ∀ a, os[x.1]? = some a → a.apart os.toArray o = true := by
        intro x hx
        have hp := (List.pairwise_append.1 hpw).2.2 x hx (i, b) (by simp)
        rcases hp with hp | hp
        · have h1 := hal i i o (Nat.le_refl _)  ho hpl x.1 hp
          have h2 := (hun x.1 (hlo x (by simp [hx]))).2 ⟨x.2, by simp [hx]⟩
          rw [h1] at h2; cases h2
        · exact ⟨hp.1, fun a ha => hp.2 a o ha ho⟩
      rw [pickO_append] at h
      simp only [pickO, ho] at h
      have hfr := wpX.front (y := (o, b)) (hsl ho) (pickO os pre) (fun x hx => by
        obtain ⟨j, hj1, hj2⟩ := mem_pickO hx
        have := hpre (j, x.2) hj1
        exact ⟨this.1, this.2 x.1 hj2, hsl hj2⟩) a w h
      rw [← pickO_append] at hfr
      have hset : ∀ j, j < os.length → (listed.setIfInBounds i true).getD j true = (decide (i = j) || listed.getD j true) := fun j hj => getD_set (by rw [hsz]; exact hj)
      have hnd1 : (i :: ((pre ++ post).map (·.1))).Nodup := by
        have : ((pre ++ (i, b) :: post).map (·.1)).Perm (i :: ((pre ++ post).map (·.1))) := by
          simp only [List.map_append, List.map_cons]
          exact List.perm_middle
        exact this.nodup_iff.1 hndp
      have hni : ∀ x ∈ pre ++ post, x.1 ≠ i := by
        intro x hx e
        have := (List.nodup_cons.1 hnd1).1
        exact this (List.mem_map.2 ⟨x, hx, e⟩)
      have next : ∀ a' w', S w' → wpX P os.toArray S Q (pickO os (pre ++ post)) a' w' → wpAnyIn (GF r) 0 P .any os.toArray Q k (listed.setIfInBounds i true) a' w' := by
        intro a' w' hS' h'
        refine ih (pre ++ post) _ a' w' (by simp at hk ⊢; omega) (by simp [hsz]) (fun j hj => ?_) (fun x hx => hlo x ?_) (List.nodup_cons.1 hnd1).2 (fun j o' ho' hlj q hq => ?_) ?_ hS' h'
        · rw [hset j hj]
          by_cases c : i = j
          · subst c
            simp only [decide_true, Bool.true_or, Bool.true_eq_false, false_iff]
            rintro ⟨b', hb'⟩
            exact hni _ hb' rfl
          · simp only [c, decide_false, Bool.false_or]
            rw [hun j hj]
            constructor
            · rintro ⟨b', hb'⟩
              refine ⟨b', ?_⟩
              rcases List.mem_append.1 hb' with z | z
              · exact List.mem_append_left _ z
              · rcases List.mem_cons.1 z with z | z
                · cases z; exact absurd rfl c
                · exact List.mem_append_right _ z
            · rintro ⟨b', hb'⟩
              refine ⟨b', ?_⟩
              rcases List.mem_append.1 hb' with z | z
              · exact List.mem_append_left _ z
              · exact List.mem_append_right _ (List.mem_cons_of_mem _ z)
        · rcases List.mem_append.1 hx with z | z
          · exact List.mem_append_left _ z
          · exact List.mem_append_right _ (List.mem_cons_of_mem _ z)
        · have hjl := hlt ho'
          have hqj := hback j o' ho' q hq
          rw [hset j hjl] at hlj
          rw [hset q (by omega)]
          by_cases c : i = j
          · subst c
            rw [ho] at ho'; cases ho'
            rw [hpl q hq]; simp
          · simp only [c, decide_false, Bool.false_or] at hlj
            rw [hcl j o' ho' hlj q hq]; simp
        · refine hpw.sublist ?_
          exact List.Sublist.append (List.Sublist.refl _) (List.sublist_cons_self _ _)
      simp only [wpOpIn, List.getElem?_toArray, ho]
      have hmem : o ∈ os := List.mem_of_getElem? ho
      cases b with
      | false =>
        obtain ⟨v, hy, hrest⟩ := hfr
        rcases hy with ⟨hw, hv⟩ | ⟨hw, hv⟩
        · rw [if_pos hw]
          obtain ⟨v', hrun, hvv⟩ := hv w hS
          refine wpIn_round (Q := noQ) (K := fun a' w' => a' = a.put o.dst v ∧ w' = w) hnd hmem ?_ (fun _ _ _ h => h.elim) (fun ⟨_, _, h⟩ => h.elim) ?_
          · rintro _ _ ⟨rfl, rfl⟩; exact next _ _ hS hrest
          · refine ⟨fun _ _ => trivial, ?_⟩
            show o.uponIn _ _ _ _ _ _ ((o.semAt none a.eval).run P w)
            rw [Oper.semAt_none, hrun]
            exact ⟨put_dst hvv, rfl⟩
        · rw [if_neg (by rw [hw]; simp)]
          refine ⟨fun _ _ => trivial, ?_⟩
          rw [put_dst (v' := undef) (v := v) (fun d e => (hv d e).symm)]
          exact next _ _ hS hrest
      | true =>
        simp only [wpX] at hfr
        unfold stp at hfr
        split
        · rename_i hw
          rw [if_pos hw] at hfr
          exact wpIn_round (Q := noQ) hnd hmem (fun a' w' h => next a' w' h.1 h.2) (fun _ _ _ h => h.elim) (fun ⟨_, _, h⟩ => h.elim) hfr
        · rename_i hw
          rw [if_neg hw] at hfr
          exact ⟨fun _ _ => trivial, next _ _ hfr.1 hfr.2⟩

/-! ### the rules -/

def XW (S : World → Prop) (P : Program) (ops : Array Oper) (Q : Exit → Act → World → Prop) (n : Nat) (D : List Deferred) (todo : List (Oper × Bool)) (L : List (Nat × Value)) (w : World) : Prop :=
  ∀ a, Has n D L a → S w → wpX P ops S Q todo a w

theorem XW.nil (h : NX Q n D .normal L w) : XW S P ops Q n D [] L w := fun a ha _ => h a ha

/-- the value of a slot behind one operation that changes nothing -/
def Qc (dst : Option Nat) (v : Value) (w0 : World) : Exit → Act → World → Prop := fun e a w => e = .normal ∧ w = w0 ∧ ∀ d, dst = some d → a.tmps[d]? = some v

theorem NX.calm {d : Nat} {v : Value} {w : World} : NX (Qc (some d) v w) n D .normal ((d, v) :: L) w := fun a ha => ⟨rfl, rfl, fun d' e => by cases e; exact ha.get d v (by simp [look])⟩
theorem NX.calmN {v : Value} {w : World} : NX (Qc none v w) n D .normal L w := fun a _ => ⟨rfl, rfl, fun d' e => by cases e⟩

theorem put_get {a : Act} {d : Nat} {v v' : Value} (h : (a.put (some d) v').tmps[d]? = some v) : v' = v := by
  simp only [Act.put, Array.getElem?_setIfInBounds, if_true] at h
  split at h <;> simp_all

theorem yld_of {o : Oper} {v : Value} {w0 : World} (hk : valOp o.op = true) (h0 : S w0) (h : ∀ w, S w → OW P ops (Qc o.dst v w) n D [o] L w) {a : Act} (ha : Has n D L a) : yld P ops S o v a := by
  cases hw : Region.wanted o (yielded ops a.tmps) with
  | false =>
    refine .inr ⟨hw, fun d hd => ?_⟩
    have h1 := h w0 h0 a ha
    simp only [wpL, hw, Bool.false_eq_true, if_false] at h1
    have := h1.2.2 d hd
    rw [hd] at this
    exact (put_get this).symm
  | true =>
    refine .inl ⟨hw, fun w hS => ?_⟩
    have h1 := h w hS a ha
    simp only [wpL, hw, if_true] at h1
    have h2 : o.uponIn Fence.wide 0 P a (fun a w' => Qc o.dst v w .normal a w') (Qc o.dst v w) ((o.semAt none a.eval).run P w) := h1.2
    rw [Oper.semAt_none] at h2
    cases hres : (execOp a.eval o).run P w with
    | ok x w' =>
      obtain ⟨v', rfl⟩ := valOp_run hk hres
      rw [hres] at h2
      simp only [Oper.uponIn] at h2
      obtain ⟨_, rfl, h3⟩ := h2
      refine ⟨v', rfl, fun d hd => ?_⟩
      have := h3 d hd
      rw [hd] at this
      exact put_get this
    | halt x w' =>
      rw [hres] at h2
      cases x <;> simp only [Oper.uponIn] at h2
      case panic => cases h2.1

/-- one that yields the same whatever came before -/
theorem XW.val {d : Nat} {op : Op} {ty : TypeId} {pos : String} {af : Array Edge} {g : Option (Nat × Bool)} {v : Value} {todo : List (Oper × Bool)} (hd : Nat.blt d n = true) (hk : valOp op = true) (h : ∀ w, S w → OW P ops (Qc (some d) v w) n D [⟨some d, op, ty, pos, af, g⟩] L w)
    (k : XW S P ops Q n D todo ((d, v) :: L) w) : XW S P ops Q n D ((⟨some d, op, ty, pos, af, g⟩, false) :: todo) L w := fun _ ha hS =>
  ⟨v, yld_of (o := ⟨some d, op, ty, pos, af, g⟩) hk hS h ha, k _ (ha.put hd v) hS⟩

/-- one whose yield is told in full -/
theorem XW.run {d : Nat} {op : Op} {ty : TypeId} {pos : String} {af : Array Edge} {v : Value} {todo : List (Oper × Bool)} (hd : Nat.blt d n = true) (h : ∀ a w, Has n D L a → S w → (execOp a.eval ⟨some d, op, ty, pos, af, none⟩).run P w = .ok (.value v) w)
    (k : XW S P ops Q n D todo ((d, v) :: L) w) : XW S P ops Q n D ((⟨some d, op, ty, pos, af, none⟩, false) :: todo) L w := fun a ha hS =>
  ⟨v, .inl ⟨by simp [Region.wanted], fun w' hS' => ⟨v, h a w' ha hS', fun _ _ => rfl⟩⟩, k _ (ha.put hd v) hS⟩

theorem XW.len {d : Nat} {t e sz len cap : Nat} {x : Operand} {p : Option Addr} {ty : TypeId} {pos : String} {af : Array Edge} {todo : List (Oper × Bool)} (hd : Nat.blt d n = true) (ht : elemIs P t = some (e, sz)) (hx : evl L x = some (.slice p len cap))
    (k : XW S P ops Q n D todo ((d, .int .i64 (len : Int)) :: L) w) : XW S P ops Q n D ((⟨some d, .call ⟨.builtin .len, #[x], #[t]⟩, ty, pos, af, none⟩, false) :: todo) L w := by
  refine XW.run hd (fun _ _ ha _ => ?_) k
  simp only [elemIs] at ht
  split at ht
  · rename_i e' h1
    simp [execOp, resolve, invoke, builtin, ha.eval hx, Builtin.len_, run_underlying h1, goInt]
  · cases ht

/-- a guarded one that is wanted -/
theorem XW.gyes {dst : Option Nat} {op : Op} {ty : TypeId} {pos : String} {af : Array Edge} {j s : Nat} {b : Bool} {todo : List (Oper × Bool)} (hj : (ops[j]?).bind (·.dst) = some s) (hs : look L s = some (.bool b))
    (k : XW S P ops Q n D ((⟨dst, op, ty, pos, af, none⟩, false) :: todo) L w) : XW S P ops Q n D ((⟨dst, op, ty, pos, af, some (j, b)⟩, false) :: todo) L w := by
  intro a ha hS
  obtain ⟨v, hy, h⟩ := k a ha hS
  have hg : yielded ops a.tmps j = some b := by simp [yielded, hj, ha.get s _ hs]
  refine ⟨v, ?_, h⟩
  rcases hy with ⟨_, h2⟩ | ⟨h1, _⟩
  · exact .inl ⟨by simp [Region.wanted, hg], h2⟩
  · simp [Region.wanted] at h1

/-- a guarded one that is not wanted, of whatever kind -/
theorem XW.gno {d : Nat} {op : Op} {ty : TypeId} {pos : String} {af : Array Edge} {j s : Nat} {b c : Bool} {todo : List (Oper × Bool)}
    (hj : (ops[j]?).bind (·.dst) = some s) (hs : look L s = some (.bool b)) (hb : (b == c) = false) (hd : Nat.blt d n = true)
    (k : XW S P ops Q n D todo ((d, undef) :: L) w) : XW S P ops Q n D ((⟨some d, op, ty, pos, af, some (j, c)⟩, false) :: todo) L w := fun a ha hS => by
  have hy : yielded ops a.tmps j = some b := by simp [yielded, hj, ha.get s _ hs]
  have hne : ¬ b = c := by simpa using hb
  exact ⟨undef, .inr ⟨by simp [Region.wanted, hy, hne], fun _ _ => rfl⟩, k _ (ha.put hd undef) hS⟩

theorem XW.gnoW {d : Nat} {op : Op} {ty : TypeId} {pos : String} {af : Array Edge} {j s : Nat} {b c : Bool} {todo : List (Oper × Bool)}
    (hj : (ops[j]?).bind (·.dst) = some s) (hs : look L s = some (.bool b)) (hb : (b == c) = false) (hd : Nat.blt d n = true)
    (k : XW S P ops Q n D todo ((d, undef) :: L) w) : XW S P ops Q n D ((⟨some d, op, ty, pos, af, some (j, c)⟩, true) :: todo) L w := fun a ha hS => by
  have hy : yielded ops a.tmps j = some b := by simp [yielded, hj, ha.get s _ hs]
  have hne : ¬ b = c := by simpa using hb
  simp only [wpX]
  unfold stp
  rw [if_neg (by simp [Region.wanted, hy, hne])]
  exact ⟨hS, k _ (ha.put hd undef) hS⟩

/-- its guard was itself passed over -/
theorem XW.gnoU {d : Nat} {op : Op} {ty : TypeId} {pos : String} {af : Array Edge} {j s : Nat} {c : Bool} {todo : List (Oper × Bool)}
    (hj : (ops[j]?).bind (·.dst) = some s) (hs : look L s = some undef) (hd : Nat.blt d n = true)
    (k : XW S P ops Q n D todo ((d, undef) :: L) w) : XW S P ops Q n D ((⟨some d, op, ty, pos, af, some (j, c)⟩, false) :: todo) L w := fun a ha hS => by
  have hy : Region.wanted ⟨some d, op, ty, pos, af, some (j, c)⟩ (yielded ops a.tmps) = false := by
    have h1 := ha.get s _ hs
    simp [Region.wanted, yielded, hj, h1, undef]
  exact ⟨undef, .inr ⟨hy, fun _ _ => rfl⟩, k _ (ha.put hd undef) hS⟩

theorem XW.gnoUW {d : Nat} {op : Op} {ty : TypeId} {pos : String} {af : Array Edge} {j s : Nat} {c : Bool} {todo : List (Oper × Bool)}
    (hj : (ops[j]?).bind (·.dst) = some s) (hs : look L s = some undef) (hd : Nat.blt d n = true)
    (k : XW S P ops Q n D todo ((d, undef) :: L) w) : XW S P ops Q n D ((⟨some d, op, ty, pos, af, some (j, c)⟩, true) :: todo) L w := fun a ha hS => by
  have hy : Region.wanted ⟨some d, op, ty, pos, af, some (j, c)⟩ (yielded ops a.tmps) = false := by
    have h1 := ha.get s _ hs
    simp [Region.wanted, yielded, hj, h1, undef]
  simp only [wpX]
  unfold stp
  rw [if_neg (by rw [hy]; simp)]
  exact ⟨hS, k _ (ha.put hd undef) hS⟩

/-- what is to hold behind one that does something -/
def Qw (S : World → Prop) (P : Program) (ops : Array Oper) (Q : Exit → Act → World → Prop) (todo : List (Oper × Bool)) : Exit → Act → World → Prop := fun e a w => e = .normal ∧ S w ∧ wpX P ops S Q todo a w

theorem NX.does {todo : List (Oper × Bool)} (hS : S w) (h : XW S P ops Q n D todo L w) : NX (Qw S P ops Q todo) n D .normal L w := fun a ha => ⟨rfl, hS, h a ha hS⟩

theorem XW.does {o : Oper} {todo : List (Oper × Bool)} (h : OW P ops (Qw S P ops Q todo) n D [o] L w) : XW S P ops Q n D ((o, true) :: todo) L w := by
  intro a ha _
  have h1 := h a ha
  simp only [wpX, wpL] at h1 ⊢
  unfold stp
  split
  · rename_i hw
    rw [if_pos hw] at h1
    exact wpIn_round (r := none) (os := [o]) (Q := Qw S P ops Q todo) (by rfl) (by simp) (fun a w h => h.2) (fun _ _ _ h => by cases h.1) (fun ⟨_, _, h⟩ => by cases h.1) h1
  · rename_i hw
    rw [if_neg hw] at h1
    exact h1.2

/-- two ways, by a slot's Bool -/
theorem XW.ways {s : Nat} {p : Prop} [Decidable p] {todo : List (Oper × Bool)} (hs : look L s = some (.bool (decide p)))
    (ht : p → XW S P ops Q n D todo ((s, .bool true) :: L) w) (hf : ¬ p → XW S P ops Q n D todo ((s, .bool false) :: L) w) : XW S P ops Q n D todo L w := by
  intro a ha
  have sub : ∀ b, decide p = b → Has n D ((s, .bool b) :: L) a := by
    intro b hb
    refine ⟨ha.size, ha.defers, fun t v e => ?_⟩
    simp only [look] at e
    by_cases c : s = t
    · subst c; simp at e; subst e
      have := ha.get s _ hs; rw [hb] at this; exact this
    · rw [beq_ne c] at e; exact ha.get t v e
  by_cases hp : p
  · exact ht hp a (sub true (by simp [hp]))
  · exact hf hp a (sub false (by simp [hp]))

theorem XW.waysB {s : Nat} {b : Bool} {todo : List (Oper × Bool)} (hs : look L s = some (.bool b))
    (ht : b = true → XW S P ops Q n D todo ((s, .bool true) :: L) w) (hf : b = false → XW S P ops Q n D todo ((s, .bool false) :: L) w) : XW S P ops Q n D todo L w := by
  refine XW.ways (p := b = true) (by simpa using hs) ht (fun h => hf (by simpa using h))

theorem XW.slot {s : Nat} {v v' : Value} {todo : List (Oper × Bool)} (hs : look L s = some v) (e : v = v') (k : XW S P ops Q n D todo ((s, v') :: L) w) : XW S P ops Q n D todo L w := by
  subst e
  exact fun a ha => k a (ha.sub (Sub.cons hs (Sub.refl L)))

theorem XW.sub {todo : List (Oper × Bool)} (hs : Sub L' L) (h : XW S P ops Q n D todo L' w) : XW S P ops Q n D todo L w := fun _ ha => h _ (ha.sub hs)

theorem CW.drawS {id : Nat} {os : List Oper} (ord : List (Nat × Bool)) (S : World → Prop) (hmix : P.follows .mixedOrders = true) (hok : ordOk os ord = true) (hS : S w.drew)
    (h : XW S P os.toArray Q n D (pickO os ord) L w.drew) (hnd : noDefer r os = true := by rfl) : CW r P (.region id os.toArray true) Q n D L w := by
  intro a ha
  refine wpIn_region_any hmix ?_
  simp only [ordOk, Bool.and_eq_true] at hok
  obtain ⟨⟨⟨⟨⟨h1, h0⟩, h2⟩, h3⟩, h4⟩, h5⟩ := hok
  have h1 := Nat.eq_of_beq_eq_true h1
  have hall : ∀ i, i < os.length → ∃ b, (i, b) ∈ ord := by
    intro i hi
    rw [List.all_eq_true] at h2
    have := h2 i (by simpa using hi)
    rw [List.any_eq_true] at this
    obtain ⟨x, hx, he⟩ := this
    have := Nat.eq_of_beq_eq_true he
    exact ⟨x.2, by rw [← this]; exact hx⟩
  have hlo : ∀ x ∈ ord, x.1 < os.length := fun x hx => by
    rw [List.all_eq_true] at h0
    have := h0 x hx
    simpa [Nat.blt_eq] using this
  have hgen : ∀ ord : List (Nat × Bool), ordAll os (ancs os) ord = true → (ord.map (·.1)).Nodup ∧ ord.Pairwise (fun x y => x.1 ∈ anc os y.1 ∨ (x.2 = false ∧ ∀ a b, os[x.1]? = some a → os[y.1]? = some b → a.apart os.toArray b = true)) := by
    intro ord
    induction ord with
    | nil => intro _; exact ⟨List.nodup_nil, List.Pairwise.nil⟩
    | cons x r ih =>
      intro h3
      simp only [ordAll, Bool.and_eq_true, List.all_eq_true] at h3
      obtain ⟨i1, i2⟩ := ih h3.2
      refine ⟨List.nodup_cons.2 ⟨fun hx => ?_, i1⟩, List.pairwise_cons.2 ⟨fun y hy => ?_, i2⟩⟩
      · obtain ⟨y, hy, e⟩ := List.mem_map.1 hx
        have := (h3.1 y hy).1
        rw [e] at this
        simp at this
      · have := (h3.1 y hy).2
        simp only [ordPair, Bool.or_eq_true, Bool.and_eq_true, Bool.not_eq_true', List.any_eq_true] at this
        rcases this with ⟨z, hz, he⟩ | ⟨hb, hm⟩
        · have := Nat.eq_of_beq_eq_true he
          subst this; exact .inl hz
        · refine .inr ⟨hb, fun a b ha hb' => ?_⟩
          rw [ha, hb'] at hm
          exact hm
  obtain ⟨hnodup, hpw⟩ := hgen ord h3
  have hf : ∀ i, i < os.length → (Array.replicate os.toArray.size false).getD i true = false := by
    intro i hi; simp [Array.getD, hi]
  have hlt : ∀ {i : Nat} {o : Oper}, os[i]? = some o → i < os.length := by
    intro i o e
    rcases Nat.lt_or_ge i os.length with c | c
    · exact c
    · rw [List.getElem?_eq_none c] at e; cases e
  refine any_of_order (S := S) hnd h4 (fun i o ho j hj => ?_) os.toArray.size ord _ a w.drew (by simp [h1]) (by simp) (fun i hi => ?_) hlo hnodup (fun i o ho hl => ?_) hpw hS (h a ha hS)
  · rw [List.all_eq_true] at h5
    have := h5 (o, i) (by rw [List.mem_zipIdx_iff_getElem?]; exact ho)
    simp only [List.all_eq_true, Nat.blt_eq] at this
    exact this j hj
  · rw [hf i hi]; simp [hall i hi]
  · rw [hf i (hlt ho)] at hl; cases hl

/-- the same, the world behind the draw as it comes -/
theorem CW.drawX {id : Nat} {os : List Oper} (ord : List (Nat × Bool)) (S : World → Prop) (hmix : P.follows .mixedOrders = true) (hok : ordOk os ord = true) (hS : ∀ w1, Fr0 w w1 → S w1)
    (h : ∀ w1, Fr0 w w1 → XW S P os.toArray Q n D (pickO os ord) L w1) (hnd : noDefer r os = true := by rfl) : CW r P (.region id os.toArray true) Q n D L w :=
  CW.drawS ord S hmix hok (hS _ (Fr.drew w)) (h _ (Fr.drew w)) hnd

/-! ### a last part that comes in a row -/

def pickL (os : List Oper) : List Nat → List Oper
  | [] => []
  | i :: r => match os[i]? with
    | some o => o :: pickL os r
    | none => pickL os r

/-- the last part stands behind all others, one behind the other -/
def tailAll (t : List (List Nat)) : List Nat → Bool
  | [] => true
  | x :: r => r.all (fun y => (t.getD y []).any (Nat.beq x)) && tailAll t r

def ordOkT (os : List Oper) (ord : List (Nat × Bool)) (tl : List Nat) : Bool :=
  Nat.beq (ord.length + tl.length) os.length && ord.all (fun x => Nat.blt x.1 os.length) && tl.all (fun x => Nat.blt x os.length) &&
  ((List.range os.length).all fun i => ord.any (fun x => Nat.beq x.1 i) || tl.any (Nat.beq i)) && ordAll os (ancs os) ord && noSel os && (os.zipIdx.all fun (o, i) => (bpreds o).all (Nat.blt · i)) &&
  (ord.all fun x => tl.all fun y => ((ancs os).getD y []).any (Nat.beq x.1)) && tailAll (ancs os) tl

def QT (P : Program) (os : List Oper) (Q : Exit → Act → World → Prop) (tl : List Nat) : Exit → Act → World → Prop := fun _ a w => wpL P os.toArray Q (pickL os tl) a w

theorem tail_of_order {os : List Oper} (hnd : noDefer r os = true) (hback : ∀ (i : Nat) (o : Oper), os[i]? = some o → ∀ j ∈ bpreds o, j < i) :
    ∀ (tl : List Nat) (listed : Array Bool) (a : Act) (w : World), listed.size = os.length → (∀ i, i < os.length → (listed.getD i true = false ↔ i ∈ tl)) → (∀ x ∈ tl, x < os.length) → tl.Nodup →
      (∀ (i : Nat) (o : Oper), os[i]? = some o → listed.getD i true = true → ∀ j ∈ bpreds o, listed.getD j true = true) → tl.Pairwise (fun x y => x ∈ anc os y) →
      wpL P os.toArray Q (pickL os tl) a w → wpAnyIn (GF r) 0 P .any os.toArray Q tl.length listed a w := by
  have hlt : ∀ {i : Nat} {o : Oper}, os[i]? = some o → i < os.length := by
    intro i o e
    rcases Nat.lt_or_ge i os.length with c | c
    · exact c
    · rw [List.getElem?_eq_none c] at e; cases e
  intro tl
  induction tl with
  | nil =>
    intro listed a w hsz hun _ _ _ _ h
    simp only [wpAnyIn, List.length_nil]
    refine ⟨?_, h⟩
    rw [List.eq_nil_iff_forall_not_mem]
    intro i hi
    obtain ⟨o, ho, hl, _⟩ := ready_iff.1 hi
    simpa using (hun i (hlt ho)).1 hl
  | cons x tl ih =>
    intro listed a w hsz hun hlo hndp hcl hpw h
    have hft : ∀ i, i < os.length → listed.getD i false = listed.getD i true := fun i hi => getD_ft (by rw [hsz]; exact hi)
    have hxl : x < os.length := hlo x (by simp)
    have hx := List.getElem?_eq_getElem hxl
    have hal : ∀ g i' o', i' ≤ g → os[i']? = some o' → (∀ j ∈ bpreds o', listed.getD j true = true) → ∀ z ∈ anc os i', listed.getD z true = true := by
      intro g
      induction g with
      | zero =>
        intro i' o' hi' ho' hb' z hz
        obtain ⟨j, hj, h⟩ := anc_spec ho' hz
        have := hback i' o' ho' j hj
        omega
      | succ g ihg =>
        intro i' o' hi' ho' hb' z hz
        obtain ⟨j, hj, h⟩ := anc_spec ho' hz
        rcases h with rfl | ⟨hji, h⟩
        · exact hb' _ hj
        · have hjl : j < os.length := by have := hlt ho'; omega
          exact ihg j os[j] (by omega) (List.getElem?_eq_getElem hjl) (hcl j _ (List.getElem?_eq_getElem hjl) (hb' j hj)) z h
    have only : ∀ i, i ∈ Region.ready .any os.toArray listed → i = x := by
      intro i hi
      obtain ⟨o, ho, hl, hd⟩ := ready_iff.1 hi
      have hm := (hun i (hlt ho)).1 hl
      rcases List.mem_cons.1 hm with e | hm
      · exact e
      · have hp := (List.pairwise_cons.1 hpw).1 i hm
        have h1 := hal i i o (Nat.le_refl _) ho (fun j hj => by
          obtain ⟨e, he, hbd, rfl⟩ := mem_bpreds.1 hj
          have := hback i o ho e.on hj
          rw [← hft _ (by have := hlt ho; omega)]; exact hd e he hbd) x hp
        rw [(hun x hxl).2 (by simp)] at h1; cases h1
    simp only [wpAnyIn, List.length_cons]
    constructor
    · intro hr
      exfalso
      -- what must come before the first one is listed
      have hpl : ∀ j ∈ bpreds os[x], listed.getD j true = true := by
        intro j hj
        have hjx := hback x _ hx j hj
        cases c : listed.getD j true with
        | true => rfl
        | false =>
          exfalso
          -- the least one that is not listed is ready
          have hex : ∀ g i, i ≤ g → i < os.length → listed.getD i true = false → ∃ q, q ∈ Region.ready .any os.toArray listed := by
            intro g
            induction g with
            | zero =>
              intro i hi hil hf
              have hi0 : i = 0 := by omega
              subst hi0
              refine ⟨0, ready_iff.2 ⟨os[0], List.getElem?_eq_getElem hil, hf, fun e he hb => ?_⟩⟩
              exact absurd (hback 0 _ (List.getElem?_eq_getElem hil) e.on (mem_bpreds.2 ⟨e, he, hb, rfl⟩)) (by omega)
            | succ g ihg =>
              intro i hi hil hf
              by_cases c : ∃ q ∈ bpreds os[i], listed.getD q true = false
              · obtain ⟨q, hq, hqf⟩ := c
                have := hback i _ (List.getElem?_eq_getElem hil) q hq
                exact ihg q (by omega) (by omega) hqf
              · refine ⟨i, ready_iff.2 ⟨os[i], List.getElem?_eq_getElem hil, hf, fun e he hb => ?_⟩⟩
                have hm : e.on ∈ bpreds os[i] := mem_bpreds.2 ⟨e, he, hb, rfl⟩
                have := hback i _ (List.getElem?_eq_getElem hil) e.on hm
                rw [hft _ (by omega)]
                cases hc : listed.getD e.on true with
                | true => rfl
                | false => exact absurd ⟨e.on, hm, hc⟩ c
          obtain ⟨q, hq⟩ := hex j j (Nat.le_refl _) (by omega) c
          rw [hr] at hq; simp at hq
      have : x ∈ Region.ready .any os.toArray listed := ready_iff.2 ⟨os[x], hx, (hun x hxl).2 (by simp), fun e he hb => by
        have hm : e.on ∈ bpreds os[x] := mem_bpreds.2 ⟨e, he, hb, rfl⟩
        have := hback x _ hx e.on hm
        rw [hft _ (by omega)]; exact hpl _ hm⟩
      rw [hr] at this; simp at this
    · intro i hi
      have e := only i hi
      subst e
      obtain ⟨o, ho, hl, hd⟩ := ready_iff.1 hi
      have hpl : ∀ j ∈ bpreds o, listed.getD j true = true := fun j hj => by
        obtain ⟨e, he, hbd, rfl⟩ := mem_bpreds.1 hj
        have := hback i o ho e.on hj
        rw [← hft _ (by omega)]; exact hd e he hbd
      simp only [pickL, ho, wpL] at h
      have next : ∀ a' w', wpL P os.toArray Q (pickL os tl) a' w' → wpAnyIn (GF r) 0 P .any os.toArray Q tl.length (listed.setIfInBounds i true) a' w' := by
        intro a' w' h'
        refine ih _ a' w' (by simp [hsz]) (fun j hj => ?_) (fun z hz => hlo z (by simp [hz])) (List.nodup_cons.1 hndp).2 (fun j o' ho' hlj q hq => ?_) (List.pairwise_cons.1 hpw).2 h'
        · rw [getD_set (by rw [hsz]; exact hj)]
          by_cases c : i = j
          · subst c
            simp only [decide_true, Bool.true_or, Bool.true_eq_false, false_iff]
            exact (List.nodup_cons.1 hndp).1
          · simp only [c, decide_false, Bool.false_or]
            rw [hun j hj, List.mem_cons]
            constructor
            · rintro (rfl | h)
              · exact absurd rfl c
              · exact h
            · exact .inr
        · have hjl := hlt ho'
          have hqj := hback j o' ho' q hq
          rw [getD_set (by rw [hsz]; exact hjl)] at hlj
          rw [getD_set (by rw [hsz]; omega)]
          by_cases c : i = j
          · subst c
            rw [ho] at ho'; cases ho'
            rw [hpl q hq]; simp
          · simp only [c, decide_false, Bool.false_or] at hlj
            rw [hcl j o' ho' hlj q hq]; simp
      simp only [wpOpIn, List.getElem?_toArray, ho]
      split
      · rename_i hw
        rw [if_pos hw] at h
        exact wpIn_round hnd (List.mem_of_getElem? ho) next (fun _ _ _ h => h) id h
      · rename_i hw
        rw [if_neg hw] at h
        exact ⟨fun _ _ => trivial, next _ _ h⟩

/-- any order leads where the one order leads, the last part coming in a row -/
theorem any_of_orderT {os : List Oper} {tl : List Nat} (htl : ∀ x ∈ tl, x < os.length) (htn : tl.Nodup) (htp : tl.Pairwise (fun x y => x ∈ anc os y)) (hnd : noDefer r os = true) (hsel : noSel os = true) (hback : ∀ (i : Nat) (o : Oper), os[i]? = some o → ∀ j ∈ bpreds o, j < i) :
    ∀ (k : Nat) (ord : List (Nat × Bool)) (listed : Array Bool) (a : Act) (w : World), ord.length = k → listed.size = os.length → (∀ i, i < os.length → (listed.getD i true = false ↔ (∃ b, (i, b) ∈ ord) ∨ i ∈ tl)) → (∀ x ∈ ord, x.1 < os.length ∧ x.1 ∉ tl) → (∀ x ∈ ord, ∀ y ∈ tl, x.1 ∈ anc os y) → (ord.map (·.1)).Nodup →
      (∀ (i : Nat) (o : Oper), os[i]? = some o → listed.getD i true = true → ∀ j ∈ bpreds o, listed.getD j true = true) →
      ord.Pairwise (fun x y => x.1 ∈ anc os y.1 ∨ (x.2 = false ∧ ∀ a b, os[x.1]? = some a → os[y.1]? = some b → a.apart os.toArray b = true)) →
      S w → wpX P os.toArray S (QT P os Q tl) (pickO os ord) a w → wpAnyIn (GF r) 0 P .any os.toArray Q (k + tl.length) listed a w := by
  intro k
  have hlt : ∀ {i : Nat} {o : Oper}, os[i]? = some o → i < os.length := by
    intro i o e
    rcases Nat.lt_or_ge i os.length with c | c
    · exact c
    · rw [List.getElem?_eq_none c] at e; cases e
  have hsl : ∀ {i : Nat} {o : Oper}, os[i]? = some o → ∀ cs b, o.op ≠ .select cs b := fun h cs b => noSel_spec hsel h cs b
  induction k with
  | zero =>
    intro ord listed a w hk hsz hun hlo0 hto hndp hcl hpw hS h
    have hlo : ∀ x ∈ ord, x.1 < os.length := fun x hx => (hlo0 x hx).1
    have : ord = [] := List.eq_nil_of_length_eq_zero hk
    subst this
    rw [Nat.zero_add]
    exact tail_of_order hnd hback tl listed a w hsz (fun i hi => by rw [hun i hi]; simp) htl htn hcl htp h
  | succ k ih =>
    intro ord listed a w hk hsz hun hlo0 hto hndp hcl hpw hS h
    have hlo : ∀ x ∈ ord, x.1 < os.length := fun x hx => (hlo0 x hx).1
    rw [show k + 1 + tl.length = (k + tl.length) + 1 by omega]
    have hft : ∀ i, i < os.length → listed.getD i false = listed.getD i true := fun i hi => getD_ft (by rw [hsz]; exact hi)
    simp only [wpAnyIn]
    constructor
    · intro hr
      exfalso
      have hex : ∀ g i, i ≤ g → i < os.length → listed.getD i true = false → ∃ j, j ∈ Region.ready .any os.toArray listed := by
        intro g
        induction g with
        | zero =>
          intro i hi hil hf
          have hi0 : i = 0 := by omega
          subst hi0
          refine ⟨0, ready_iff.2 ⟨os[0], List.getElem?_eq_getElem hil, hf, fun e he hb => ?_⟩⟩
          exact absurd (hback 0 _ (List.getElem?_eq_getElem hil) e.on (mem_bpreds.2 ⟨e, he, hb, rfl⟩)) (by omega)
        | succ g ihg =>
          intro i hi hil hf
          by_cases c : ∃ q ∈ bpreds os[i], listed.getD q true = false
          · obtain ⟨q, hq, hqf⟩ := c
            have := hback i _ (List.getElem?_eq_getElem hil) q hq
            exact ihg q (by omega) (by omega) hqf
          · refine ⟨i, ready_iff.2 ⟨os[i], List.getElem?_eq_getElem hil, hf, fun e he hb => ?_⟩⟩
            have hm : e.on ∈ bpreds os[i] := mem_bpreds.2 ⟨e, he, hb, rfl⟩
            have := hback i _ (List.getElem?_eq_getElem hil) e.on hm
            rw [hft _ (by omega)]
            cases hc : listed.getD e.on true with
            | true => rfl
            | false => exact absurd ⟨e.on, hm, hc⟩ c
      obtain ⟨x, hx⟩ : ∃ x, x ∈ ord := by
        cases ord with
        | nil => simp at hk
        | cons x _ => exact ⟨x, by simp⟩
      obtain ⟨j, hj⟩ := hex x.1 x.1 (Nat.le_refl _) (hlo x hx) ((hun x.1 (hlo x hx)).2 (.inl ⟨x.2, hx⟩))
      rw [hr] at hj; simp at hj
    · intro i hi
      obtain ⟨o, ho, hl, hd⟩ := ready_iff.1 hi
      have hil := hlt ho
      -- all that must come before it is listed
      have hpl : ∀ j ∈ bpreds o, listed.getD j true = true := fun j hj => by
        obtain ⟨e, he, hbd, rfl⟩ := mem_bpreds.1 hj
        have := hback i o ho e.on hj
        rw [← hft _ (by omega)]; exact hd e he hbd
      have hal : ∀ g i' o', i' ≤ g → os[i']? = some o' → (∀ j ∈ bpreds o', listed.getD j true = true) → ∀ x ∈ anc os i', listed.getD x true = true := by
        intro g
        induction g with
        | zero =>
          intro i' o' hi' ho' hb' x hx
          obtain ⟨j, hj, h⟩ := anc_spec ho' hx
          have := hback i' o' ho' j hj
          omega
        | succ g ihg =>
          intro i' o' hi' ho' hb' x hx
          obtain ⟨j, hj, h⟩ := anc_spec ho' hx
          rcases h with rfl | ⟨hji, h⟩
          · exact hb' _ hj
          · have hjl : j < os.length := by have := hlt ho'; omega
            exact ihg j os[j] (by omega) (List.getElem?_eq_getElem hjl) (hcl j _ (List.getElem?_eq_getElem hjl) (hb' j hj)) x h
      have hio : ∃ b, (i, b) ∈ ord := by
        rcases (hun i hil).1 hl with h1 | h1
        · exact h1
        · exfalso
          obtain ⟨x, hx⟩ : ∃ x, x ∈ ord := by
            cases ord with
            | nil => simp at hk
            | cons x _ => exact ⟨x, by simp⟩
          have h2 := hal i i o (Nat.le_refl _) ho hpl x.1 (hto x hx i h1)
          rw [(hun x.1 (hlo x hx)).2 (.inl ⟨x.2, hx⟩)] at h2; cases h2
      obtain ⟨b, hb⟩ := hio
      obtain ⟨pre, post, rfl⟩ := List.append_of_mem hb
      have hpre : ∀ x ∈ pre, x.2 = false ∧ ∀ a, os[x.1]? = some a → a.apart os.toArray o = true := by
        intro x hx
        have hp := (List.pairwise_append.1 hpw).2.2 x hx (i, b) (by simp)
        rcases hp with hp | hp
        · have h1 := hal i i o (Nat.le_refl _)  ho hpl x.1 hp
          have h2 := (hun x.1 (hlo x (by simp [hx]))).2 (.inl ⟨x.2, by simp [hx]⟩)
          rw [h1] at h2; cases h2
        · exact ⟨hp.1, fun a ha => hp.2 a o ha ho⟩
      rw [pickO_append] at h
      simp only [pickO, ho] at h
      have hfr := wpX.front (y := (o, b)) (hsl ho) (pickO os pre) (fun x hx => by
        obtain ⟨j, hj1, hj2⟩ := mem_pickO hx
        have := hpre (j, x.2) hj1
        exact ⟨this.1, this.2 x.1 hj2, hsl hj2⟩) a w h
      rw [← pickO_append] at hfr
      have hset : ∀ j, j < os.length → (listed.setIfInBounds i true).getD j true = (decide (i = j) || listed.getD j true) := fun j hj => getD_set (by rw [hsz]; exact hj)
      have hnd1 : (i :: ((pre ++ post).map (·.1))).Nodup := by
        have : ((pre ++ (i, b) :: post).map (·.1)).Perm (i :: ((pre ++ post).map (·.1))) := by
          simp only [List.map_append, List.map_cons]
          exact List.perm_middle
        exact this.nodup_iff.1 hndp
      have hni : ∀ x ∈ pre ++ post, x.1 ≠ i := by
        intro x hx e
        have := (List.nodup_cons.1 hnd1).1
        exact this (List.mem_map.2 ⟨x, hx, e⟩)
      have next : ∀ a' w', S w' → wpX P os.toArray S (QT P os Q tl) (pickO os (pre ++ post)) a' w' → wpAnyIn (GF r) 0 P .any os.toArray Q (k + tl.length) (listed.setIfInBounds i true) a' w' := by
        intro a' w' hS' h'
        refine ih (pre ++ post) _ a' w' (by simp at hk ⊢; omega) (by simp [hsz]) (fun j hj => ?_) (fun x hx => hlo0 x ?_) (fun x hx => hto x ?_) (List.nodup_cons.1 hnd1).2 (fun j o' ho' hlj q hq => ?_) ?_ hS' h'
        · rw [hset j hj]
          by_cases c : i = j
          · subst c
            simp only [decide_true, Bool.true_or, Bool.true_eq_false, false_iff]
            rintro (⟨b', hb'⟩ | hb')
            · exact hni _ hb' rfl
            · exact (hlo0 (i, b) (by simp)).2 hb'
          · simp only [c, decide_false, Bool.false_or]
            rw [hun j hj]
            constructor
            · rintro (⟨b', hb'⟩ | hb')
              · refine .inl ⟨b', ?_⟩
                rcases List.mem_append.1 hb' with z | z
                · exact List.mem_append_left _ z
                · rcases List.mem_cons.1 z with z | z
                  · cases z; exact absurd rfl c
                  · exact List.mem_append_right _ z
              · exact .inr hb'
            · rintro (⟨b', hb'⟩ | hb')
              · refine .inl ⟨b', ?_⟩
                rcases List.mem_append.1 hb' with z | z
                · exact List.mem_append_left _ z
                · exact List.mem_append_right _ (List.mem_cons_of_mem _ z)
              · exact .inr hb'
        · rcases List.mem_append.1 hx with z | z
          · exact List.mem_append_left _ z
          · exact List.mem_append_right _ (List.mem_cons_of_mem _ z)
        · rcases List.mem_append.1 hx with z | z
          · exact List.mem_append_left _ z
          · exact List.mem_append_right _ (List.mem_cons_of_mem _ z)
        · have hjl := hlt ho'
          have hqj := hback j o' ho' q hq
          rw [hset j hjl] at hlj
          rw [hset q (by omega)]
          by_cases c : i = j
          · subst c
            rw [ho] at ho'; cases ho'
            rw [hpl q hq]; simp
          · simp only [c, decide_false, Bool.false_or] at hlj
            rw [hcl j o' ho' hlj q hq]; simp
        · refine hpw.sublist ?_
          exact List.Sublist.append (List.Sublist.refl _) (List.sublist_cons_self _ _)
      simp only [wpOpIn, List.getElem?_toArray, ho]
      have hmem : o ∈ os := List.mem_of_getElem? ho
      cases b with
      | false =>
        obtain ⟨v, hy, hrest⟩ := hfr
        rcases hy with ⟨hw, hv⟩ | ⟨hw, hv⟩
        · rw [if_pos hw]
          obtain ⟨v', hrun, hvv⟩ := hv w hS
          refine wpIn_round (Q := noQ) (K := fun a' w' => a' = a.put o.dst v ∧ w' = w) hnd hmem ?_ (fun _ _ _ h => h.elim) (fun ⟨_, _, h⟩ => h.elim) ?_
          · rintro _ _ ⟨rfl, rfl⟩; exact next _ _ hS hrest
          · refine ⟨fun _ _ => trivial, ?_⟩
            show o.uponIn _ _ _ _ _ _ ((o.semAt none a.eval).run P w)
            rw [Oper.semAt_none, hrun]
            exact ⟨put_dst hvv, rfl⟩
        · rw [if_neg (by rw [hw]; simp)]
          refine ⟨fun _ _ => trivial, ?_⟩
          rw [put_dst (v' := undef) (v := v) (fun d e => (hv d e).symm)]
          exact next _ _ hS hrest
      | true =>
        simp only [wpX] at hfr
        unfold stp at hfr
        split
        · rename_i hw
          rw [if_pos hw] at hfr
          exact wpIn_round (Q := noQ) hnd hmem (fun a' w' h => next a' w' h.1 h.2) (fun _ _ _ h => h.elim) (fun ⟨_, _, h⟩ => h.elim) hfr
        · rename_i hw
          rw [if_neg hw] at hfr
          exact ⟨fun _ _ => trivial, next _ _ hfr.1 hfr.2⟩


theorem XW.tail {os : List Oper} {tl : List Nat} (h : OW P os.toArray Q n D (pickL os tl) L w) : XW S P os.toArray (QT P os Q tl) n D [] L w := fun a ha _ => h a ha

/-- a region whose order is open: a first part in whatever order, a last one in a row -/
theorem CW.drawY {id : Nat} {os : List Oper} (ord : List (Nat × Bool)) (tl : List Nat) (S : World → Prop) (hmix : P.follows .mixedOrders = true) (hok : ordOkT os ord tl = true) (hS : ∀ w1, Fr0 w w1 → S w1)
    (h : ∀ w1, Fr0 w w1 → XW S P os.toArray (QT P os Q tl) n D (pickO os ord) L w1) (hnd : noDefer r os = true := by rfl) : CW r P (.region id os.toArray true) Q n D L w := by
  intro a ha
  refine wpIn_region_any hmix ?_
  simp only [ordOkT, Bool.and_eq_true] at hok
  obtain ⟨⟨⟨⟨⟨⟨⟨⟨h1, h0⟩, h0t⟩, h2⟩, h3⟩, h4⟩, h5⟩, h6⟩, h7⟩ := hok
  have h1 := Nat.eq_of_beq_eq_true h1
  have beq : ∀ {l : List Nat} {j : Nat}, l.any (Nat.beq j) = true → j ∈ l := by
    intro l j h
    rw [List.any_eq_true] at h
    obtain ⟨x, hx, he⟩ := h
    exact (Nat.eq_of_beq_eq_true he) ▸ hx
  have hall : ∀ i, i < os.length → (∃ b, (i, b) ∈ ord) ∨ i ∈ tl := by
    intro i hi
    rw [List.all_eq_true] at h2
    have := h2 i (by simpa using hi)
    rw [Bool.or_eq_true] at this
    rcases this with this | this
    · rw [List.any_eq_true] at this
      obtain ⟨x, hx, he⟩ := this
      have := Nat.eq_of_beq_eq_true he
      exact .inl ⟨x.2, by rw [← this]; exact hx⟩
    · exact .inr (beq this)
  have hlo : ∀ x ∈ ord, x.1 < os.length := fun x hx => by
    rw [List.all_eq_true] at h0
    have := h0 x hx
    simpa [Nat.blt_eq] using this
  have htl : ∀ x ∈ tl, x < os.length := fun x hx => by
    rw [List.all_eq_true] at h0t
    have := h0t x hx
    simpa [Nat.blt_eq] using this
  have hback : ∀ (i : Nat) (o : Oper), os[i]? = some o → ∀ j ∈ bpreds o, j < i := fun i o ho j hj => by
    rw [List.all_eq_true] at h5
    have := h5 (o, i) (by rw [List.mem_zipIdx_iff_getElem?]; exact ho)
    simp only [List.all_eq_true, Nat.blt_eq] at this
    exact this j hj
  have hto : ∀ x ∈ ord, ∀ y ∈ tl, x.1 ∈ anc os y := fun x hx y hy => by
    rw [List.all_eq_true] at h6
    have := h6 x hx
    rw [List.all_eq_true] at this
    exact beq (this y hy)
  -- what must come before one is another one
  have hirr : ∀ g i, i ≤ g → i < os.length → ∀ z ∈ anc os i, z < i := by
    intro g
    induction g with
    | zero =>
      intro i hi hil z hz
      obtain ⟨j, hj, h⟩ := anc_spec (List.getElem?_eq_getElem hil) hz
      have := hback i _ (List.getElem?_eq_getElem hil) j hj
      omega
    | succ g ihg =>
      intro i hi hil z hz
      obtain ⟨j, hj, h⟩ := anc_spec (List.getElem?_eq_getElem hil) hz
      have hji := hback i _ (List.getElem?_eq_getElem hil) j hj
      rcases h with rfl | ⟨_, h⟩
      · exact hji
      · have := ihg j (by omega) (by omega) z h; omega
  have hnt : ∀ x ∈ ord, x.1 ∉ tl := fun x hx c => by
    have := hirr x.1 x.1 (Nat.le_refl _) (hlo x hx) x.1 (hto x hx x.1 c); omega
  have htp : tl.Pairwise (fun x y => x ∈ anc os y) := by
    have gen : ∀ tl : List Nat, tailAll (ancs os) tl = true → tl.Pairwise (fun x y => x ∈ anc os y) := by
     intro tl
     induction tl with
     | nil => intro _; exact List.Pairwise.nil
     | cons x r ih =>
      intro h7
      simp only [tailAll, Bool.and_eq_true, List.all_eq_true] at h7
      exact List.pairwise_cons.2 ⟨fun y hy => beq (h7.1 y hy), ih h7.2⟩
    exact gen tl h7
  have htn : tl.Nodup := htp.imp_of_mem fun {x y} hx hy h e => by
    subst e
    have := hirr x x (Nat.le_refl _) (htl x hx) x h; omega
  have hgen : ∀ ord : List (Nat × Bool), ordAll os (ancs os) ord = true → (ord.map (·.1)).Nodup ∧ ord.Pairwise (fun x y => x.1 ∈ anc os y.1 ∨ (x.2 = false ∧ ∀ a b, os[x.1]? = some a → os[y.1]? = some b → a.apart os.toArray b = true)) := by
    intro ord
    induction ord with
    | nil => intro _; exact ⟨List.nodup_nil, List.Pairwise.nil⟩
    | cons x r ih =>
      intro h3
      simp only [ordAll, Bool.and_eq_true, List.all_eq_true] at h3
      obtain ⟨i1, i2⟩ := ih h3.2
      refine ⟨List.nodup_cons.2 ⟨fun hx => ?_, i1⟩, List.pairwise_cons.2 ⟨fun y hy => ?_, i2⟩⟩
      · obtain ⟨y, hy, e⟩ := List.mem_map.1 hx
        have := (h3.1 y hy).1
        rw [e] at this
        simp at this
      · have := (h3.1 y hy).2
        simp only [ordPair, Bool.or_eq_true, Bool.and_eq_true, Bool.not_eq_true', List.any_eq_true] at this
        rcases this with ⟨z, hz, he⟩ | ⟨hb, hm⟩
        · have := Nat.eq_of_beq_eq_true he
          subst this; exact .inl hz
        · refine .inr ⟨hb, fun a b ha hb' => ?_⟩
          rw [ha, hb'] at hm
          exact hm
  obtain ⟨hnodup, hpw⟩ := hgen ord h3
  have hf : ∀ i, i < os.length → (Array.replicate os.toArray.size false).getD i true = false := by
    intro i hi; simp [Array.getD, hi]
  have hlt : ∀ {i : Nat} {o : Oper}, os[i]? = some o → i < os.length := by
    intro i o e
    rcases Nat.lt_or_ge i os.length with c | c
    · exact c
    · rw [List.getElem?_eq_none c] at e; cases e
  have hres := any_of_orderT (r := r) (S := S) htl htn htp hnd h4 hback ord.length ord (Array.replicate os.toArray.size false) a w.drew rfl (by simp) (fun i hi => by rw [hf i hi]; exact ⟨fun _ => hall i hi, fun _ => rfl⟩) (fun x hx => ⟨hlo x hx, hnt x hx⟩) hto hnodup (fun i o ho hl => by rw [hf i (hlt ho)] at hl; cases hl) hpw (hS _ (Fr.drew w)) (h _ (Fr.drew w) a ha (hS _ (Fr.drew w)))
  have e : ord.length + tl.length = os.toArray.size := by simp [h1]
  rw [e] at hres
  exact hres

end Go.Eng
