/-
  The engine, part F: values that are whole numbers all through (arrays and structs of such), held against each other; maps over such keys.
  No condition: general lemmas over any program.
-/
import Derived.Test.YtmdhbgkmkmmmpaaEngE
import Derived.DeepKeys3
namespace Go.Eng
open Go

variable {r : Option Nat} {P : Program} {w w' : World}

/-- cells that are whole numbers -/
def ints (l : List (IntKind × Int)) : List Value := l.map fun p => .int p.1 p.2
def lits (l : List (IntKind × Int)) : List Lit := l.map fun p => .int p.1 p.2
def intsWf (l : List (IntKind × Int)) : Prop := ∀ p ∈ l, (Lit.int p.1 p.2).wf = true

/-- the kinds of a type's cells, where all are whole numbers -/
def kindsOf (P : Program) : Nat → TypeId → Option (List IntKind)
  | 0, _ => none
  | d + 1, t => match P.underlying t with
    | some (.int k) => if P.cellsOf t = 1 then some [k] else none
    | some (.array n e) => match kindsOf P d e with
      | some ks => if P.cellsOf e = ks.length ∧ P.cellsOf t = n * ks.length then some (List.replicate n ks).flatten else none
      | none => none
    | some (.struct fs) => if fs.all (·.name != "_") then
        fs.toList.foldl (fun acc f => match acc, kindsOf P d f.type with
          | some a, some ks => if f.offset = a.length ∧ P.cellsOf f.type = ks.length then some (a ++ ks) else none
          | _, _ => none) (some [])
      else none
    | _ => none

theorem split_kinds {l : List (IntKind × Int)} {a b : List IntKind} (h : l.map (·.1) = a ++ b) : ∃ x y, l = x ++ y ∧ x.map (·.1) = a ∧ y.map (·.1) = b := by
  refine ⟨l.take a.length, l.drop a.length, (List.take_append_drop _ _).symm, ?_, ?_⟩
  · rw [List.map_take, h, List.take_left]
  · rw [List.map_drop, h, List.drop_left]

theorem ints_app (a b : List (IntKind × Int)) : ints (a ++ b) = ints a ++ ints b := by simp [ints]
theorem lits_app (a b : List (IntKind × Int)) : lits (a ++ b) = lits a ++ lits b := by simp [lits]
theorem ints_len (a : List (IntKind × Int)) : (ints a).length = a.length := by simp [ints]

theorem kinds_cells : ∀ (d : Nat) (t : TypeId) (ks : List IntKind), kindsOf P d t = some ks → ∀ (D : Nat), d ≤ D → ∀ l : List (IntKind × Int), l.map (·.1) = ks → intsWf l → P.cellsOf t = ks.length →
    P.keyLits D t (ints l) = some (lits l)
  | 0, t, ks, h, D, hD, l, hl, hw, hc => by simp [kindsOf] at h
  | d + 1, t, ks, h, D, hD, l, hl, hw, hc => by
    obtain ⟨D, rfl⟩ : ∃ q, D = q + 1 := ⟨D - 1, by omega⟩
    have hD' : d ≤ D := by omega
    have hlen : l.length = ks.length := by rw [← hl]; simp
    simp only [kindsOf] at h
    split at h
    · rename_i k hu
      split at h
      · simp only [Option.some.injEq] at h
        subst h
        match l, hl with
        | [(k', v)], hl =>
          simp at hl; subst hl
          have := hw (k', v) (by simp)
          simp [Program.keyLits, hu, ints, lits, this]
      · cases h
    · rename_i m e hu
      split at h
      · rename_i ks' he
        split at h
        · rename_i hce
          simp only [Option.some.injEq] at h
          subst h
          simp only [Program.keyLits, hu]
          rw [if_pos (by rw [ints_len, hlen, hc])]
          have key : ∀ (q : Nat) (l : List (IntKind × Int)) (pre : List Value) (s : Nat), pre.length = s * ks'.length → l.map (·.1) = (List.replicate q ks').flatten → intsWf l →
              ((List.range' s q).mapM fun i => P.keyLits D e (((pre ++ ints l).drop (i * P.cellsOf e)).take (P.cellsOf e))).map List.flatten = some (lits l) := by
            intro q
            induction q with
            | zero => intro l pre s hp hl hw; simp at hl; subst hl; simp [lits]
            | succ q ih =>
              intro l pre s hp hl hw
              rw [List.replicate_succ, List.flatten_cons] at hl
              obtain ⟨x, y, rfl, hx, hy⟩ := split_kinds hl
              have hxl : x.length = ks'.length := by rw [← hx]; simp
              have h1 := kinds_cells d e ks' he D hD' x hx (fun p hp => hw p (by simp [hp])) hce.1
              have h2 := ih y (pre ++ ints x) (s + 1) (by rw [List.length_append, ints_len, hp, hxl, Nat.succ_mul]) hy (fun p hp => hw p (by simp [hp]))
              rw [List.range'_succ, List.mapM_cons]
              have hcut : ((pre ++ ints (x ++ y)).drop (s * P.cellsOf e)).take (P.cellsOf e) = ints x := by
                rw [hce.1, ← hp, List.drop_left, ints_app, ← hxl, ← ints_len x, List.take_left]
              rw [hcut, h1]
              rw [ints_app, ← List.append_assoc]
              simp only [Option.map_eq_some_iff] at h2 ⊢
              obtain ⟨r, hr, hf⟩ := h2
              refine ⟨lits x :: r, ?_, by rw [List.flatten_cons, hf, lits_app]⟩
              simp only [Option.bind_eq_bind, Option.bind_some, hr]
              rfl
          have := key m l [] 0 (by simp) hl hw
          rw [List.range_eq_range']
          simpa using this
        · cases h
      · cases h
    · rename_i fs hu
      split at h
      · rename_i hall
        simp only [Program.keyLits, hu]
        rw [if_pos ⟨by rw [ints_len, hlen, hc], hall⟩]
        have key : ∀ (gs : List Field) (acc : List IntKind) (pre : List Value) (l : List (IntKind × Int)), pre.length = acc.length →
            gs.foldl (fun acc f => match acc, kindsOf P d f.type with
              | some a, some ks => if f.offset = a.length ∧ P.cellsOf f.type = ks.length then some (a ++ ks) else none
              | _, _ => none) (some acc) = some (acc ++ l.map (·.1)) → intsWf l →
            (gs.mapM fun f => P.keyLits D f.type (((pre ++ ints l).drop f.offset).take (P.cellsOf f.type))).map List.flatten = some (lits l) := by
          have hnone : ∀ gs : List Field, gs.foldl (fun acc f => match acc, kindsOf P d f.type with
              | some a, some ks => if f.offset = a.length ∧ P.cellsOf f.type = ks.length then some (a ++ ks) else none
              | _, _ => none) none = none := by
            intro gs; induction gs with
            | nil => rfl
            | cons g gs ih => simp only [List.foldl_cons]; exact ih
          have hpre : ∀ (gs : List Field) (a r : List IntKind), gs.foldl (fun acc f => match acc, kindsOf P d f.type with
              | some a, some ks => if f.offset = a.length ∧ P.cellsOf f.type = ks.length then some (a ++ ks) else none
              | _, _ => none) (some a) = some r → ∃ z, r = a ++ z := by
            intro gs
            induction gs with
            | nil => intro a r h; simp at h; exact ⟨[], by simp [h]⟩
            | cons g gs ih =>
              intro a r h
              simp only [List.foldl_cons] at h
              cases hk : kindsOf P d g.type with
              | none => rw [hk] at h; simp only at h; rw [hnone] at h; cases h
              | some ks =>
                rw [hk] at h
                simp only at h
                split at h
                · obtain ⟨z, rfl⟩ := ih _ _ h
                  exact ⟨ks ++ z, by simp⟩
                · rw [hnone] at h; cases h
          intro gs
          induction gs with
          | nil =>
            intro acc pre l hp hf hw
            simp at hf
            subst hf; simp [lits]
          | cons g gs ih =>
            intro acc pre l hp hf hw
            simp only [List.foldl_cons] at hf
            cases hk : kindsOf P d g.type with
            | none => rw [hk] at hf; simp only at hf; rw [hnone] at hf; cases hf
            | some ks =>
              rw [hk] at hf
              simp only at hf
              split at hf
              · rename_i hoff
                obtain ⟨z, hz⟩ := hpre gs _ _ hf
                rw [List.append_assoc] at hz
                have hz' := List.append_cancel_left hz
                obtain ⟨x, y, rfl, hx, hy⟩ := split_kinds hz'
                have hxl : x.length = ks.length := by rw [← hx]; simp
                have h1 := kinds_cells d g.type ks hk D hD' x hx (fun p hp => hw p (by simp [hp])) hoff.2
                have h2 := ih (acc ++ ks) (pre ++ ints x) y (by rw [List.length_append, List.length_append, ints_len, hp, hxl]) (by rw [hf, hz, hy]; simp) (fun p hp => hw p (by simp [hp]))
                rw [List.mapM_cons]
                have hcut : ((pre ++ ints (x ++ y)).drop g.offset).take (P.cellsOf g.type) = ints x := by
                  rw [hoff.1, hoff.2, ← hp, List.drop_left, ints_app, ← hxl, ← ints_len x, List.take_left]
                rw [hcut, h1]
                rw [ints_app, ← List.append_assoc]
                simp only [Option.map_eq_some_iff] at h2 ⊢
                obtain ⟨r, hr, hfl⟩ := h2
                refine ⟨lits x :: r, ?_, by rw [List.flatten_cons, hfl, lits_app]⟩
                simp only [Option.bind_eq_bind, Option.bind_some, hr]
                rfl
              · rw [hnone] at hf; cases hf
        have := key fs.toList [] [] l rfl (by rw [h, hl]; rfl) hw
        simpa using this
      · cases h
    · cases h

/-- what is asked of a type of whole numbers all through -/
structure Flat (P : Program) (t : TypeId) (ks : List IntKind) : Prop where
  kinds : kindsOf P 40 t = some ks
  key : P.keyTypeAt 40 t = true
  size : P.cellsOf t = ks.length
  agg : (aggSz P t).isSome = true

theorem lits_inj : ∀ {a b : List (IntKind × Int)}, lits a = lits b → a = b
  | [], [], _ => rfl
  | [], (k, v) :: b, h => by simp [lits] at h
  | (k, v) :: a, [], h => by simp [lits] at h
  | (k, v) :: a, (k', v') :: b, h => by
    simp only [lits, List.map_cons, List.cons.injEq, Lit.int.injEq] at h
    obtain ⟨⟨rfl, rfl⟩, h⟩ := h
    rw [lits_inj h]

theorem Flat.formed {t : TypeId} {ks : List IntKind} (hf : Flat P t ks) {l : List (IntKind × Int)} (hl : l.map (·.1) = ks) : (Value.agg (ints l).toArray).formed P t = true := by
  have hlen : l.length = ks.length := by rw [← hl]; simp
  have ha := hf.agg
  simp only [aggSz] at ha
  simp only [Value.formed]
  split at ha
  · rename_i h1 _; rw [h1]; simp [ints_len, hlen, hf.size]
  · rename_i h1 _; rw [h1]; simp [ints_len, hlen, hf.size]
  · cases ha

theorem Flat.eq {t : TypeId} {ks : List IntKind} (hf : Flat P t ks) {l r : List (IntKind × Int)} (hl : l.map (·.1) = ks) (hr : r.map (·.1) = ks) (wl : intsWf l) (wr : intsWf r) (w : World) :
    (Op.equal t (.agg (ints l).toArray) (.agg (ints r).toArray)).run P w = .ok (decide (l = r)) w := by
  have h1 := kinds_cells 40 t ks hf.kinds 40 (Nat.le_refl _) l hl wl hf.size
  have h2 := kinds_cells 40 t ks hf.kinds 40 (Nat.le_refl _) r hr wr hf.size
  obtain ⟨b, hb, hiff⟩ := run_equalIn_deep (P := P) 9960 40 t hf.key w 40 40 _ _ _ _ (hf.formed hl) (hf.formed hr) (by simpa [Value.cells] using h1) (by simpa [Value.cells] using h2)
  have : Op.equal t (.agg (ints l).toArray) (.agg (ints r).toArray) = Op.equalIn (9960 + 40) t (.agg (ints l).toArray) (.agg (ints r).toArray) := rfl
  rw [this, hb]
  congr 1
  by_cases c : l = r
  · subst c; simp [hiff.2 rfl]
  · cases b with
    | false => simp [c]
    | true => exact absurd (lits_inj (hiff.1 rfl)) c

theorem Flat.check {t : TypeId} {ks : List IntKind} (hf : Flat P t ks) {l : List (IntKind × Int)} (hl : l.map (·.1) = ks) (wl : intsWf l) (em : Bool) (w : World) :
    (Instr.checkKey em 10000 t (.agg (ints l).toArray)).run P w = .ok () w := by
  have h1 := kinds_cells 40 t ks hf.kinds 40 (Nat.le_refl _) l hl wl hf.size
  exact run_checkKey_deep (P := P) em 9960 40 t hf.key w 40 _ _ (hf.formed hl) (by simpa [Value.cells] using h1)

section ops
variable {n : Nat} {D : List Deferred} {L : List (Nat × Value)} {Q : Exit → Act → World → Prop} {ops : Array Oper} {todo : List Oper}
variable {d : Nat} {t t' ty : TypeId} {pos : String} {af : Array Edge} {x y : Operand} {u u' v : Value} {b o k : Nat} {i : Int} {ik : IntKind} {a : Act}

theorem OW.eqlA {ks : List IntKind} {l r : List (IntKind × Int)} (hd : Nat.blt d n = true) (hf : Flat P t ks) (hg : P.eqGuardType P.depth t = false) (hx : evl L x = some (.agg (ints l).toArray)) (hy : evl L y = some (.agg (ints r).toArray))
    (hl : l.map (·.1) = ks) (hr : r.map (·.1) = ks) (wl : intsWf l) (wr : intsWf r)
    (h : OW P ops Q n D todo ((d, .bool (decide (l = r))) :: L) w) : OW P ops Q n D (⟨some d, .binOp .eql t x y t', ty, pos, af, none⟩ :: todo) L w :=
  OW.bin hd hx hy (by
    have e := hf.eq hl hr wl wr w
    simp only [eqGuard, binOp]
    simp [hg, e]) h

theorem OW.neqA {ks : List IntKind} {l r : List (IntKind × Int)} (hd : Nat.blt d n = true) (hf : Flat P t ks) (hg : P.eqGuardType P.depth t = false) (hx : evl L x = some (.agg (ints l).toArray)) (hy : evl L y = some (.agg (ints r).toArray))
    (hl : l.map (·.1) = ks) (hr : r.map (·.1) = ks) (wl : intsWf l) (wr : intsWf r)
    (h : OW P ops Q n D todo ((d, .bool (decide (l ≠ r))) :: L) w) : OW P ops Q n D (⟨some d, .binOp .neq t x y t', ty, pos, af, none⟩ :: todo) L w :=
  OW.bin hd hx hy (by
    have e := hf.eq hl hr wl wr w
    simp only [eqGuard, binOp]
    simp [hg, e]) h

end ops

end Go.Eng
