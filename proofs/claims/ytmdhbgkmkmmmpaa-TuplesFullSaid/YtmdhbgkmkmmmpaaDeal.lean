/-
  Deals of law 9, and what both tables tell of them.
  No condition.
-/
import Derived.Test.YtmdhbgkmkmmmpaaTj
import Derived.Test.YtmdhbgkmkmmmpaaTf
import Derived.Test.YtmdhbgkmkmmmpaaDat7
import Derived.Test.YtmdhbgkmkmmmpaaOpen
namespace Go.Eng
open Go Go.Proofs

structure Deal where
  act : Int
  r : Rule
  id : Int
  h : Hdr

def dealCells (x : Deal) (cv : Value) : List Value := .int .i64 x.act :: (ruleCells x.r.rank x.r.mat cv x.r.cookie ++ (.int .i64 x.id :: x.h.cells))
def dealR : Rep Deal := fun X w cs x => ∃ cv, cs = dealCells x cv ∧ ruleR X w (ruleCells x.r.rank x.r.mat cv x.r.cookie) x.r ∧ x.h.wf
theorem dealR_ok : dealR.Ok 38 where
  frame := fun ⟨cv, e, h, g⟩ f hx => ⟨cv, e, ruleR_ok.frame h f hx, g⟩
  mono := fun ⟨cv, e, h, g⟩ hx => ⟨cv, e, ruleR_ok.mono h hx, g⟩
  one := fun ⟨cv, e, h, g⟩ c hc => by
    subst e
    rcases List.mem_cons.1 hc with rfl | hc
    · rfl
    rcases List.mem_append.1 hc with hc | hc
    · exact ruleR_ok.one h c hc
    rcases List.mem_cons.1 hc with rfl | hc
    · rfl
    · exact cells_one _ c hc
  len := fun ⟨cv, e, _⟩ => by subst e; rfl

theorem deal_rule {x : Deal} {cv : Value} (j : Nat) (v : Value) (h : (ruleCells x.r.rank x.r.mat cv x.r.cookie)[j]? = some v) : (dealCells x cv)[1 + j]? = some v := by
  unfold dealCells
  rw [show 1 + j = j + 1 by omega, List.getElem?_cons_succ, List.getElem?_append_left]
  · exact h
  · rcases Nat.lt_or_ge j (ruleCells x.r.rank x.r.mat cv x.r.cookie).length with c | c
    · exact c
    · rw [List.getElem?_eq_none c] at h; cases h
theorem deal_hdr {x : Deal} {cv : Value} (j : Nat) (v : Value) (h : x.h.cells[j]? = some v) : (dealCells x cv)[27 + j]? = some v := by
  unfold dealCells
  rw [show 27 + j = (26 + j) + 1 by omega, List.getElem?_cons_succ, List.getElem?_append_right (by show 25 ≤ 26 + j; omega)]
  rw [show 26 + j - (ruleCells x.r.rank x.r.mat cv x.r.cookie).length = j + 1 by show 26 + j - 25 = j + 1; omega, List.getElem?_cons_succ]
  exact h

variable {P : Program} {H : Type} {enc : TypeId × Value → H} {w : World}

theorem Opens.deal {t t64 tr th : TypeId} (hf : fieldsIs P t = some [(t64, 0, 1), (tr, 1, 25), (t64, 26, 1), (th, 27, 11)]) (hl : P.cellsOf t = 38)
    (h64 : P.underlying t64 = some (.int .i64)) (hr : Opens enc P w tr ruleR) (hh : Opens enc P w th hdrR) : Opens enc P w t dealR := by
  intro fuel cs d ps hrd hw
  obtain ⟨hlen, fuel', hel⟩ := open_struct hf hrd hw
  obtain ⟨d1, p1, r1, w1⟩ := hel 0 _ _ _ rfl
  obtain ⟨d2, p2, r2, w2⟩ := hel 1 _ _ _ rfl
  obtain ⟨d3, p3, r3, w3⟩ := hel 2 _ _ _ rfl
  obtain ⟨d4, p4, r4, w4⟩ := hel 3 _ _ _ rfl
  obtain ⟨a, ha, _⟩ := Opens.int (enc := enc) (w := w) h64 _ _ _ _ r1 w1
  obtain ⟨r, hr'⟩ := hr _ _ _ _ r2 w2
  obtain ⟨i, hi, _⟩ := Opens.int (enc := enc) (w := w) h64 _ _ _ _ r3 w3
  obtain ⟨h, hh', hhw⟩ := hh _ _ _ _ r4 w4
  obtain ⟨cv, hc, hcps⟩ := hr'
  refine ⟨⟨a, r, i, h⟩, cv, ?_, ⟨cv, rfl, hcps⟩, hhw⟩
  have e : cs = (cs.drop 0).take 1 ++ ((cs.drop 1).take 25 ++ ((cs.drop 26).take 1 ++ ((cs.drop 27).take 11 ++ cs.drop 38))) := by rw [drop_take_app, drop_take_app, drop_take_app, drop_take_app]; rfl
  rw [e, ha, hc, hi, hh', List.drop_of_length_le (by omega), List.append_nil]; rfl

/-! ### what both tables tell -/

def addOk (l : List Ent) (ru : Rule) : Bool := matOk ru.mat && decide (l.length < 1024)
def addNo (l : List Ent) (last : Int) (ru : Rule) : Int := if addOk l ru then last + 1 else 0
def addErr (l : List Ent) (ru : Rule) : Int := if matOk ru.mat then (if l.length < 1024 then 0 else 4) else 20
def addL (l : List Ent) (last : Int) (ru : Rule) : List Ent := if addOk l ru then l ++ [(last + 1, Td.r0 ru)] else l
def addLast (l : List Ent) (last : Int) (ru : Rule) : Int := if addOk l ru then last + 1 else last

theorem addL_len (l : List Ent) (last : Int) (ru : Rule) : (addL l last ru).length ≤ l.length + 1 := by unfold addL; split <;> simp
theorem addLast_le (l : List Ent) (last : Int) (ru : Rule) : last ≤ addLast l last ru ∧ addLast l last ru ≤ last + 1 := by unfold addLast; split <;> omega

theorem add2 {T : TabSt} {ru : Rule} {X : Nat → Prop} {rc : List Value} (w : World) (h : Holds w [tabA T]) (inv : TInv T) (hl : T.atl.length ≤ 100000) (hb : T.last < 4611686018427387904) (hru : ruleR X w rc ru) :
    Does Try.prog 28 [.pointer (some ⟨T.bt, 0, none⟩), .agg rc.toArray] w fun v w' => ∃ T', v = .tuple #[.int .i64 (addNo T.atl T.last ru), .int .i64 (addErr T.atl ru)] ∧ TInv T' ∧ T'.bt = T.bt ∧ Moves w w' (tabA T) (tabA T') ∧ T'.atl = addL T.atl T.last ru ∧ T'.last = addLast T.atl T.last ru := by
  refine (Tf.add_spec w h inv hl hb hru).mono ?_
  rintro v w' ⟨T', i1, i2, i3, ho⟩
  refine ⟨T', ?_, i1, i2, i3, ?_⟩
  · rcases ho with ⟨h1, rfl, _⟩ | ⟨h1, h2, rfl, _⟩ | ⟨h1, h2, rfl, _⟩
    · simp [addNo, addErr, addOk, h1]
    · have : ¬ T.atl.length < 1024 := by omega
      simp [addNo, addErr, addOk, h1, this]
    · simp [addNo, addErr, addOk, h1, h2]
  · rcases ho with ⟨h1, _, rfl⟩ | ⟨h1, h2, _, rfl⟩ | ⟨h1, h2, _, h3, h4⟩
    · simp [addL, addLast, addOk, h1]
    · have : ¬ T'.atl.length < 1024 := by omega
      simp [addL, addLast, addOk, this]
    · simp [addL, addLast, addOk, h1, h2, h3, h4]

theorem refAdd2 {R : RefSt} {ru : Rule} {X : Nat → Prop} {rc : List Value} (w : World) (h : Holds w [refA R]) (hlast : 0 ≤ R.last ∧ R.last < 4611686018427387904) (hru : ruleR X w rc ru) :
    Does Try.prog 32 [.pointer (some ⟨R.b, 0, none⟩), .agg rc.toArray] w fun v w' => ∃ R', v = .tuple #[.int .i64 (addNo R.l R.last ru), .int .i64 (addErr R.l ru)] ∧ R'.b = R.b ∧ Moves w w' (refA R) (refA R') ∧ R'.l = addL R.l R.last ru ∧ R'.last = addLast R.l R.last ru := by
  refine (Tj.refAdd_does w h hlast hru).mono ?_
  rintro v w' (⟨h1, rfl, f⟩ | ⟨h1, h2, rfl, f⟩ | ⟨h1, h2, rfl, R', e1, e2, e3, m⟩)
  · exact ⟨R, by simp [addNo, addErr, addOk, h1], rfl, Moves.fr0 h f, by simp [addL, addOk, h1], by simp [addLast, addOk, h1]⟩
  · have : ¬ R.l.length < 1024 := by omega
    exact ⟨R, by simp [addNo, addErr, addOk, h1, this], rfl, Moves.fr0 h f, by simp [addL, addOk, this], by simp [addLast, addOk, this]⟩
  · exact ⟨R', by simp [addNo, addErr, addOk, h1, h2], e1, m, by simp [addL, addOk, h1, h2, e2], by simp [addLast, addOk, h1, h2, e3]⟩

theorem kvDelG_filter {l : List Ent} {id : Int} (hs : l.Pairwise fun a b => a.1 < b.1) : kvDelG id l = l.filter fun x => decide (x.1 ≠ id) := by
  induction l with
  | nil => rfl
  | cons x l ih =>
    obtain ⟨a, b⟩ := x
    rw [List.pairwise_cons] at hs
    unfold kvDelG
    by_cases c : a = id
    · subst c
      rw [if_pos rfl, List.filter_cons, if_neg (by simp)]
      symm
      refine List.filter_eq_self.2 fun y hy => ?_
      have := hs.1 y hy
      simp only at this
      exact decide_eq_true (by omega)
    · rw [if_neg c, List.filter_cons, if_pos (decide_eq_true c), ih hs.2]

theorem drop2 {T : TabSt} {id : Int} (w : World) (h : Holds w [tabA T]) (inv : TInv T) (hl : T.atl.length ≤ 100000) (hb : T.last < 4611686018427387904) :
    Does Try.prog 33 [.pointer (some ⟨T.bt, 0, none⟩), .int .i64 id] w fun v w' => ∃ T', v = .bool (decide ((T.atl.filter fun x => decide (x.1 ≠ id)).length < T.atl.length)) ∧ TInv T' ∧ T'.bt = T.bt ∧ Moves w w' (tabA T) (tabA T') ∧ T'.atl = (T.atl.filter fun x => decide (x.1 ≠ id)) ∧ T'.last = T.last := by
  refine (Ti.drop_does w h (add_pre inv hl hb) inv).mono ?_
  rintro v w' (⟨h1, rfl, f⟩ | ⟨rfl, T', hr, m⟩)
  · have e : (T.atl.filter fun x => decide (x.1 ≠ id)) = T.atl := List.filter_eq_self.2 fun y hy => decide_eq_true (kvGetG_none.1 h1 y hy)
    exact ⟨T, by rw [e]; simp, inv, rfl, Moves.fr0 h f, e.symm, rfl⟩
  · obtain ⟨i1, i2, i3⟩ := drop_inv inv hr
    refine ⟨T', ?_, i1, hr.1, m, by rw [i2, kvDelG_filter inv.ids], i3⟩
    obtain ⟨_, _, _, _, ru, _, _, hg, _⟩ := hr
    have hp := (kvGetG_perm hg).length_eq
    rw [List.length_cons, kvDelG_filter inv.ids] at hp
    rw [decide_eq_true (Nat.lt_of_succ_le (Nat.le_of_eq hp.symm))]

/-- both tables side by side -/
structure Both (T : TabSt) (R : RefSt) (n : Nat) : Prop where
  inv : TInv T
  l : R.l = T.atl
  last : R.last = T.last
  len : T.atl.length ≤ n
  top : T.last ≤ n

theorem Both.more {T : TabSt} {R : RefSt} {n : Nat} (b : Both T R n) : Both T R (n + 1) := ⟨b.inv, b.l, b.last, by have := b.len; omega, by have := b.top; omega⟩

end Go.Eng
