/-
  The engine, part B: the operations that touch no memory, one lemma each.
  No condition: general lemmas over any program.
-/
import Derived.Test.YtmdhbgkmkmmmpaaEngA
namespace Go.Eng
open Go

variable {n : Nat} {D : List Deferred} {L L' : List (Nat × Value)} {a : Act} {P : Program} {Q : Exit → Act → World → Prop} {w w' : World} {ops : Array Oper} {todo : List Oper} {r : Option Nat}

theorem wanted_none {o : Oper} {y : Nat → Option Bool} (h : o.guard = none) : Region.wanted o y = true := by simp [Region.wanted, h]

theorem OW.value {o : Oper} {d : Nat} {v : Value} (hg : o.guard = none) (ho : o.dst = some d) (hd : Nat.blt d n = true)
    (hr : ∀ a, Has n D L a → (execOp a.eval o).run P w = .ok (.value v) w') (k : OW P ops Q n D todo ((d, v) :: L) w') : OW P ops Q n D (o :: todo) L w := by
  intro a ha
  simp only [wpL]
  rw [if_pos (wanted_none hg)]
  refine ⟨fun _ _ => trivial, ?_⟩
  show o.uponIn _ _ _ _ _ _ ((o.semAt none a.eval).run P w)
  rw [Oper.semAt_none, hr a ha]
  simp only [Oper.uponIn, ho]
  exact k _ (ha.put hd v)

theorem run_val {s : Sem Value} {v : Value} (h : s.run P w = .ok v w') : (do pure (.value (← s)) : Sem Next).run P w = .ok (.value v) w' := by
  show ((s.bind fun v => pure (.value v)) : Sem Next).run P w = _
  rw [Sem.run_bind', h]; rfl

theorem run_unit {s : Sem Unit} (h : s.run P w = .ok () w') : (do s; pure .skip : Sem Next).run P w = .ok .skip w' := by
  show ((s.bind fun _ => pure .skip) : Sem Next).run P w = _
  rw [Sem.run_bind', h]; rfl

theorem OW.skip {o : Oper} (hg : o.guard = none) (ho : o.dst = none)
    (hr : ∀ a, Has n D L a → (execOp a.eval o).run P w = .ok .skip w') (k : OW P ops Q n D todo L w') : OW P ops Q n D (o :: todo) L w := by
  intro a ha
  simp only [wpL]
  rw [if_pos (wanted_none hg)]
  refine ⟨fun _ _ => trivial, ?_⟩
  show o.uponIn _ _ _ _ _ _ ((o.semAt none a.eval).run P w)
  rw [Oper.semAt_none, hr a ha]
  simp only [Oper.uponIn, ho]
  exact k _ ha

/-! ### guards -/

/-- a guarded operation, its guard met -/
theorem OW.gyes {dst : Option Tmp} {op : Op} {ty : TypeId} {pos : String} {af : Array Edge} {j s : Nat} {b : Bool}
    (hj : (ops[j]?).bind (·.dst) = some s) (hs : look L s = some (.bool b))
    (k : OW P ops Q n D (⟨dst, op, ty, pos, af, none⟩ :: todo) L w) : OW P ops Q n D (⟨dst, op, ty, pos, af, some (j, b)⟩ :: todo) L w := by
  intro a ha
  have h1 := k a ha
  have hy : yielded ops a.tmps j = some b := by simp [yielded, hj, ha.get s _ hs]
  simp only [wpL] at h1 ⊢
  rw [if_pos (by simp [Region.wanted])] at h1
  rw [if_pos (by simp [Region.wanted, hy])]
  exact h1

/-- a guarded operation, its guard not met: it is passed over -/
theorem OW.gno {dst : Option Tmp} {op : Op} {ty : TypeId} {pos : String} {af : Array Edge} {j s : Nat} {b c : Bool}
    (hj : (ops[j]?).bind (·.dst) = some s) (hs : look L s = some (.bool b)) (hb : (b == c) = false)
    (hd : ∀ d, dst = some d → Nat.blt d n = true)
    (k : OW P ops Q n D todo (match dst with | some d => (d, undef) :: L | none => L) w) : OW P ops Q n D (⟨dst, op, ty, pos, af, some (j, c)⟩ :: todo) L w := by
  intro a ha
  have hy : yielded ops a.tmps j = some b := by simp [yielded, hj, ha.get s _ hs]
  have hne : ¬ b = c := by simpa using hb
  simp only [wpL]
  rw [if_neg (by simp [Region.wanted, hy, hne])]
  cases dst with
  | none => exact k _ ha
  | some d => exact k _ (ha.put (hd d rfl) undef)

theorem OW.gnoD {d : Nat} {op : Op} {ty : TypeId} {pos : String} {af : Array Edge} {j s : Nat} {b c : Bool}
    (hj : (ops[j]?).bind (·.dst) = some s) (hs : look L s = some (.bool b)) (hb : (b == c) = false) (hd : Nat.blt d n = true)
    (k : OW P ops Q n D todo ((d, undef) :: L) w) : OW P ops Q n D (⟨some d, op, ty, pos, af, some (j, c)⟩ :: todo) L w :=
  OW.gno hj hs hb (fun e he => by cases he; exact hd) k

/-- a slot's Bool is decided: two ways -/
theorem OW.ways {s : Nat} {p : Prop} [Decidable p] (hs : look L s = some (.bool (decide p)))
    (ht : p → OW P ops Q n D todo ((s, .bool true) :: L) w) (hf : ¬ p → OW P ops Q n D todo ((s, .bool false) :: L) w) : OW P ops Q n D todo L w := by
  intro a ha
  by_cases hp : p
  · refine ht hp a ⟨ha.size, ha.defers, fun t v e => ?_⟩
    simp only [look] at e
    by_cases c : s = t
    · subst c; simp at e; subst e
      have := ha.get s _ hs; simpa [hp] using this
    · rw [beq_ne c] at e; exact ha.get t v e
  · refine hf hp a ⟨ha.size, ha.defers, fun t v e => ?_⟩
    simp only [look] at e
    by_cases c : s = t
    · subst c; simp at e; subst e
      have := ha.get s _ hs; simpa [hp] using this
    · rw [beq_ne c] at e; exact ha.get t v e

theorem OW.waysB {s : Nat} {b : Bool} (hs : look L s = some (.bool b))
    (ht : b = true → OW P ops Q n D todo ((s, .bool true) :: L) w) (hf : b = false → OW P ops Q n D todo ((s, .bool false) :: L) w) : OW P ops Q n D todo L w := by
  refine OW.ways (p := b = true) (by simpa using hs) ht (fun h => hf (by simpa using h))

/-- a slot is told anew -/
theorem OW.slot {s : Nat} {v v' : Value} (hs : look L s = some v) (e : v = v') (k : OW P ops Q n D todo ((s, v') :: L) w) : OW P ops Q n D todo L w := by
  subst e
  refine OW.sub (L' := (s, v) :: L) ?_ k
  exact Sub.cons hs (Sub.refl L)

theorem CW.slot {c : Code} {s : Nat} {v v' : Value} (hs : look L s = some v) (e : v = v') (k : CW r P c Q n D ((s, v') :: L) w) : CW r P c Q n D L w := by
  subst e
  exact CW.sub (L' := (s, v) :: L) (Sub.cons hs (Sub.refl L)) k

section ops
variable {d : Nat} {t t' ty : TypeId} {pos : String} {af : Array Edge} {x y : Operand} {u u' v : Value}

theorem OW.move (hd : Nat.blt d n = true) (hx : evl L x = some v) (k : OW P ops Q n D todo ((d, v) :: L) w) :
    OW P ops Q n D (⟨some d, .move x, ty, pos, af, none⟩ :: todo) L w :=
  OW.value rfl rfl hd (fun a ha => by simp only [execOp, ha.eval hx]; rfl) k

theorem OW.assign (hd : Nat.blt d n = true) (hx : evl L x = some v) (k : OW P ops Q n D todo ((d, v) :: L) w) :
    OW P ops Q n D (⟨some d, .assign x, ty, pos, af, none⟩ :: todo) L w :=
  OW.value rfl rfl hd (fun a ha => by simp only [execOp, ha.eval hx]; rfl) k

theorem OW.pickT {c : Operand} (hd : Nat.blt d n = true) (hc : evl L c = some (.bool true)) (hx : evl L x = some v) (k : OW P ops Q n D todo ((d, v) :: L) w) :
    OW P ops Q n D (⟨some d, .pick c x y, ty, pos, af, none⟩ :: todo) L w :=
  OW.value rfl rfl hd (fun a ha => by simp only [execOp, ha.eval hc, ha.eval hx, asBool]; rfl) k

theorem OW.pickF {c : Operand} (hd : Nat.blt d n = true) (hc : evl L c = some (.bool false)) (hy : evl L y = some v) (k : OW P ops Q n D todo ((d, v) :: L) w) :
    OW P ops Q n D (⟨some d, .pick c x y, ty, pos, af, none⟩ :: todo) L w :=
  OW.value rfl rfl hd (fun a ha => by simp only [execOp, ha.eval hc, ha.eval hy, asBool]; rfl) k

theorem OW.not {b : Bool} (hd : Nat.blt d n = true) (hx : evl L x = some (.bool b)) (k : OW P ops Q n D todo ((d, .bool (!b)) :: L) w) :
    OW P ops Q n D (⟨some d, .unOp .not t x, ty, pos, af, none⟩ :: todo) L w :=
  OW.value rfl rfl hd (fun a ha => by simp only [execOp, ha.eval hx, Op.unary]; rfl) k

theorem OW.notD {p : Prop} [Decidable p] (hd : Nat.blt d n = true) (hx : evl L x = some (.bool (decide p))) (k : OW P ops Q n D todo ((d, .bool (decide (¬ p))) :: L) w) :
    OW P ops Q n D (⟨some d, .unOp .not t x, ty, pos, af, none⟩ :: todo) L w :=
  OW.value rfl rfl hd (fun a ha => by simp only [execOp, ha.eval hx, Op.unary, decide_not]; rfl) k

theorem OW.extract {vs : Array Value} {i : Nat} (hd : Nat.blt d n = true) (hx : evl L x = some (.tuple vs)) (hi : vs[i]? = some v) (k : OW P ops Q n D todo ((d, v) :: L) w) :
    OW P ops Q n D (⟨some d, .extract x i, ty, pos, af, none⟩ :: todo) L w :=
  OW.value rfl rfl hd (fun a ha => by simp only [execOp, ha.eval hx, Instr.extract, hi]; rfl) k

/-! ### whole numbers -/
variable {k : IntKind} {i j : Int}

theorem OW.bin {op : BinOp} (hd : Nat.blt d n = true) (hx : evl L x = some u) (hy : evl L y = some u') (hv : (do eqGuard op t x y u u'; binOp op t u u' : Sem Value).run P w = .ok v w)
    (h : OW P ops Q n D todo ((d, v) :: L) w) : OW P ops Q n D (⟨some d, .binOp op t x y t', ty, pos, af, none⟩ :: todo) L w :=
  OW.value rfl rfl hd (fun a ha => by
    simp only [execOp, ha.eval hx, ha.eval hy]
    exact run_val hv) h

theorem OW.lss (hd : Nat.blt d n = true) (hx : evl L x = some (.int k i)) (hy : evl L y = some (.int k j)) (h : OW P ops Q n D todo ((d, .bool (decide (i < j))) :: L) w) :
    OW P ops Q n D (⟨some d, .binOp .lss t x y t', ty, pos, af, none⟩ :: todo) L w :=
  OW.bin hd hx hy (by simp [eqGuard, binOp, Op.intCmp]) h

theorem OW.leq (hd : Nat.blt d n = true) (hx : evl L x = some (.int k i)) (hy : evl L y = some (.int k j)) (h : OW P ops Q n D todo ((d, .bool (decide (i ≤ j))) :: L) w) :
    OW P ops Q n D (⟨some d, .binOp .leq t x y t', ty, pos, af, none⟩ :: todo) L w :=
  OW.bin hd hx hy (by simp [eqGuard, binOp, Op.intCmp]) h

theorem OW.gtr (hd : Nat.blt d n = true) (hx : evl L x = some (.int k i)) (hy : evl L y = some (.int k j)) (h : OW P ops Q n D todo ((d, .bool (decide (i > j))) :: L) w) :
    OW P ops Q n D (⟨some d, .binOp .gtr t x y t', ty, pos, af, none⟩ :: todo) L w :=
  OW.bin hd hx hy (by simp [eqGuard, binOp, Op.intCmp]) h

theorem OW.geq (hd : Nat.blt d n = true) (hx : evl L x = some (.int k i)) (hy : evl L y = some (.int k j)) (h : OW P ops Q n D todo ((d, .bool (decide (i ≥ j))) :: L) w) :
    OW P ops Q n D (⟨some d, .binOp .geq t x y t', ty, pos, af, none⟩ :: todo) L w :=
  OW.bin hd hx hy (by simp [eqGuard, binOp, Op.intCmp]) h

theorem OW.eql (hd : Nat.blt d n = true) (hx : evl L x = some (.int k i)) (hy : evl L y = some (.int k j)) (h : OW P ops Q n D todo ((d, .bool (decide (i = j))) :: L) w) :
    OW P ops Q n D (⟨some d, .binOp .eql t x y t', ty, pos, af, none⟩ :: todo) L w :=
  OW.bin hd hx hy (by simp [eqGuard, binOp, Op.intCmp, Bool.beq_eq_decide_eq]) h

theorem OW.neq (hd : Nat.blt d n = true) (hx : evl L x = some (.int k i)) (hy : evl L y = some (.int k j)) (h : OW P ops Q n D todo ((d, .bool (decide (i ≠ j))) :: L) w) :
    OW P ops Q n D (⟨some d, .binOp .neq t x y t', ty, pos, af, none⟩ :: todo) L w :=
  OW.bin hd hx hy (by simp [eqGuard, binOp, Op.intCmp, bne, Bool.beq_eq_decide_eq]) h

theorem wrap_id {k : IntKind} {i : Int} (h : if k.signed then -(2 ^ (k.bits - 1) : Int) ≤ i ∧ i < 2 ^ (k.bits - 1) else 0 ≤ i ∧ i < 2 ^ k.bits) : k.wrap i = i := by
  cases k <;> simp [IntKind.signed, IntKind.bits] at h <;> simp [IntKind.wrap, IntKind.signed, IntKind.bits] <;> omega

theorem OW.addW (hd : Nat.blt d n = true) (hx : evl L x = some (.int k i)) (hy : evl L y = some (.int k j)) (h : OW P ops Q n D todo ((d, .int k (k.wrap (i + j))) :: L) w) :
    OW P ops Q n D (⟨some d, .binOp .add t x y t', ty, pos, af, none⟩ :: todo) L w :=
  OW.bin hd hx hy (by simp [eqGuard, binOp, Op.intArith]) h

theorem OW.subW (hd : Nat.blt d n = true) (hx : evl L x = some (.int k i)) (hy : evl L y = some (.int k j)) (h : OW P ops Q n D todo ((d, .int k (k.wrap (i - j))) :: L) w) :
    OW P ops Q n D (⟨some d, .binOp .sub t x y t', ty, pos, af, none⟩ :: todo) L w :=
  OW.bin hd hx hy (by simp [eqGuard, binOp, Op.intArith]) h

theorem OW.mulW (hd : Nat.blt d n = true) (hx : evl L x = some (.int k i)) (hy : evl L y = some (.int k j)) (h : OW P ops Q n D todo ((d, .int k (k.wrap (i * j))) :: L) w) :
    OW P ops Q n D (⟨some d, .binOp .mul t x y t', ty, pos, af, none⟩ :: todo) L w :=
  OW.bin hd hx hy (by simp [eqGuard, binOp, Op.intArith]) h

theorem OW.add (hd : Nat.blt d n = true) (hx : evl L x = some (.int .i64 i)) (hy : evl L y = some (.int .i64 j)) (hb : -9223372036854775808 ≤ i + j ∧ i + j < 9223372036854775808)
    (h : OW P ops Q n D todo ((d, .int .i64 (i + j)) :: L) w) : OW P ops Q n D (⟨some d, .binOp .add t x y t', ty, pos, af, none⟩ :: todo) L w :=
  OW.addW hd hx hy (by rw [wrap_id (k := .i64) (by simp [IntKind.signed, IntKind.bits]; omega)]; exact h)

theorem OW.sub' (hd : Nat.blt d n = true) (hx : evl L x = some (.int .i64 i)) (hy : evl L y = some (.int .i64 j)) (hb : -9223372036854775808 ≤ i - j ∧ i - j < 9223372036854775808)
    (h : OW P ops Q n D todo ((d, .int .i64 (i - j)) :: L) w) : OW P ops Q n D (⟨some d, .binOp .sub t x y t', ty, pos, af, none⟩ :: todo) L w :=
  OW.subW hd hx hy (by rw [wrap_id (k := .i64) (by simp [IntKind.signed, IntKind.bits]; omega)]; exact h)

theorem OW.mul (hd : Nat.blt d n = true) (hx : evl L x = some (.int .i64 i)) (hy : evl L y = some (.int .i64 j)) (hb : -9223372036854775808 ≤ i * j ∧ i * j < 9223372036854775808)
    (h : OW P ops Q n D todo ((d, .int .i64 (i * j)) :: L) w) : OW P ops Q n D (⟨some d, .binOp .mul t x y t', ty, pos, af, none⟩ :: todo) L w :=
  OW.mulW hd hx hy (by rw [wrap_id (k := .i64) (by simp [IntKind.signed, IntKind.bits]; omega)]; exact h)

theorem OW.shr {k' : IntKind} (hd : Nat.blt d n = true) (hx : evl L x = some (.int k i)) (hy : evl L y = some (.int k' j)) (h0 : 0 ≤ j) (h : OW P ops Q n D todo ((d, .int k (i.fdiv (2 ^ min j.toNat k.bits))) :: L) w) :
    OW P ops Q n D (⟨some d, .binOp .shr t x y t', ty, pos, af, none⟩ :: todo) L w :=
  OW.bin hd hx hy (by simp [eqGuard, binOp, Op.shift, show ¬ j < 0 by omega]) h

theorem OW.shl {k' : IntKind} (hd : Nat.blt d n = true) (hx : evl L x = some (.int k i)) (hy : evl L y = some (.int k' j)) (h0 : 0 ≤ j) (h : OW P ops Q n D todo ((d, .int k (k.wrap (i * 2 ^ min j.toNat k.bits))) :: L) w) :
    OW P ops Q n D (⟨some d, .binOp .shl t x y t', ty, pos, af, none⟩ :: todo) L w :=
  OW.bin hd hx hy (by simp [eqGuard, binOp, Op.shift, show ¬ j < 0 by omega]) h

/-! bits of whole numbers that are not below 0 -/
def band (i j : Int) : Int := ((i.toNat &&& j.toNat : Nat) : Int)
def bor (i j : Int) : Int := ((i.toNat ||| j.toNat : Nat) : Int)
def bxor (i j : Int) : Int := ((i.toNat ^^^ j.toNat : Nat) : Int)
/-- the bits of the first that the second lacks -/
def bout (i j : Int) : Int := ((i.toNat ^^^ (i.toNat &&& j.toNat) : Nat) : Int)

theorem ofInt_toNat {m : Nat} {i : Int} (h0 : 0 ≤ i) : (BitVec.ofInt m i) = BitVec.ofNat m i.toNat := by
  obtain ⟨q, rfl⟩ := Int.eq_ofNat_of_zero_le h0
  simp

theorem run_and64 (h0 : 0 ≤ i) (h1 : i < 18446744073709551616) (g0 : 0 ≤ j) (g1 : j < 18446744073709551616) : (Op.intBits .and .u64 i j).run P w = .ok (.int .u64 (band i j)) w := by
  have e : (BitVec.ofInt 64 i &&& BitVec.ofInt 64 j).toNat = i.toNat &&& j.toNat := by
    rw [ofInt_toNat h0, ofInt_toNat g0]
    simp only [BitVec.toNat_and, BitVec.toNat_ofNat]
    rw [Nat.mod_eq_of_lt (by omega), Nat.mod_eq_of_lt (by omega)]
  have hl : i.toNat &&& j.toNat < 2 ^ 64 := Nat.and_lt_two_pow _ (by omega)
  show Result.ok (Value.int .u64 (IntKind.u64.wrap ((BitVec.ofInt 64 i &&& BitVec.ofInt 64 j).toNat))) w = _
  rw [e, wrap_id (k := .u64) (by simp [IntKind.signed, IntKind.bits]; omega)]; rfl

theorem run_or64 (h0 : 0 ≤ i) (h1 : i < 18446744073709551616) (g0 : 0 ≤ j) (g1 : j < 18446744073709551616) : (Op.intBits .or .u64 i j).run P w = .ok (.int .u64 (bor i j)) w := by
  have e : (BitVec.ofInt 64 i ||| BitVec.ofInt 64 j).toNat = i.toNat ||| j.toNat := by
    rw [ofInt_toNat h0, ofInt_toNat g0]
    simp only [BitVec.toNat_or, BitVec.toNat_ofNat]
    rw [Nat.mod_eq_of_lt (by omega), Nat.mod_eq_of_lt (by omega)]
  have hl : i.toNat ||| j.toNat < 2 ^ 64 := Nat.or_lt_two_pow (by omega) (by omega)
  show Result.ok (Value.int .u64 (IntKind.u64.wrap ((BitVec.ofInt 64 i ||| BitVec.ofInt 64 j).toNat))) w = _
  rw [e, wrap_id (k := .u64) (by simp [IntKind.signed, IntKind.bits]; omega)]; rfl

theorem run_xor64 (h0 : 0 ≤ i) (h1 : i < 18446744073709551616) (g0 : 0 ≤ j) (g1 : j < 18446744073709551616) : (Op.intBits .xor .u64 i j).run P w = .ok (.int .u64 (bxor i j)) w := by
  have e : (BitVec.ofInt 64 i ^^^ BitVec.ofInt 64 j).toNat = i.toNat ^^^ j.toNat := by
    rw [ofInt_toNat h0, ofInt_toNat g0]
    simp only [BitVec.toNat_xor, BitVec.toNat_ofNat]
    rw [Nat.mod_eq_of_lt (by omega), Nat.mod_eq_of_lt (by omega)]
  have hl : i.toNat ^^^ j.toNat < 2 ^ 64 := Nat.xor_lt_two_pow (by omega) (by omega)
  show Result.ok (Value.int .u64 (IntKind.u64.wrap ((BitVec.ofInt 64 i ^^^ BitVec.ofInt 64 j).toNat))) w = _
  rw [e, wrap_id (k := .u64) (by simp [IntKind.signed, IntKind.bits]; omega)]; rfl

theorem run_andNot64 (h0 : 0 ≤ i) (h1 : i < 18446744073709551616) (g0 : 0 ≤ j) (g1 : j < 18446744073709551616) : (Op.intBits .andNot .u64 i j).run P w = .ok (.int .u64 (bout i j)) w := by
  have e : (BitVec.ofInt 64 i &&& ~~~ BitVec.ofInt 64 j).toNat = i.toNat ^^^ (i.toNat &&& j.toNat) := by
    rw [ofInt_toNat h0, ofInt_toNat g0]
    have : BitVec.ofNat 64 i.toNat &&& ~~~ BitVec.ofNat 64 j.toNat = BitVec.ofNat 64 i.toNat ^^^ (BitVec.ofNat 64 i.toNat &&& BitVec.ofNat 64 j.toNat) := by
      ext b hb
      simp only [BitVec.getElem_and, BitVec.getElem_not, BitVec.getElem_xor]
      cases (BitVec.ofNat 64 i.toNat)[b] <;> cases (BitVec.ofNat 64 j.toNat)[b] <;> rfl
    rw [this]
    simp only [BitVec.toNat_xor, BitVec.toNat_and, BitVec.toNat_ofNat]
    rw [Nat.mod_eq_of_lt (by omega), Nat.mod_eq_of_lt (by omega)]
  have hl : i.toNat ^^^ (i.toNat &&& j.toNat) < 2 ^ 64 := Nat.xor_lt_two_pow (by omega) (Nat.and_lt_two_pow _ (by omega))
  show Result.ok (Value.int .u64 (IntKind.u64.wrap ((BitVec.ofInt 64 i &&& ~~~ BitVec.ofInt 64 j).toNat))) w = _
  rw [e, wrap_id (k := .u64) (by simp [IntKind.signed, IntKind.bits]; omega)]; rfl

theorem OW.and64 (hd : Nat.blt d n = true) (hx : evl L x = some (.int .u64 i)) (hy : evl L y = some (.int .u64 j)) (h0 : 0 ≤ i ∧ i < 18446744073709551616) (g0 : 0 ≤ j ∧ j < 18446744073709551616)
    (h : OW P ops Q n D todo ((d, .int .u64 (band i j)) :: L) w) : OW P ops Q n D (⟨some d, .binOp .and t x y t', ty, pos, af, none⟩ :: todo) L w :=
  OW.bin hd hx hy (by
    have e := run_and64 (P := P) (w := w) h0.1 h0.2 g0.1 g0.2
    simp only [eqGuard, binOp]
    simpa using e) h

theorem OW.or64 (hd : Nat.blt d n = true) (hx : evl L x = some (.int .u64 i)) (hy : evl L y = some (.int .u64 j)) (h0 : 0 ≤ i ∧ i < 18446744073709551616) (g0 : 0 ≤ j ∧ j < 18446744073709551616)
    (h : OW P ops Q n D todo ((d, .int .u64 (bor i j)) :: L) w) : OW P ops Q n D (⟨some d, .binOp .or t x y t', ty, pos, af, none⟩ :: todo) L w :=
  OW.bin hd hx hy (by
    have e := run_or64 (P := P) (w := w) h0.1 h0.2 g0.1 g0.2
    simp only [eqGuard, binOp]
    simpa using e) h

theorem OW.xor64 (hd : Nat.blt d n = true) (hx : evl L x = some (.int .u64 i)) (hy : evl L y = some (.int .u64 j)) (h0 : 0 ≤ i ∧ i < 18446744073709551616) (g0 : 0 ≤ j ∧ j < 18446744073709551616)
    (h : OW P ops Q n D todo ((d, .int .u64 (bxor i j)) :: L) w) : OW P ops Q n D (⟨some d, .binOp .xor t x y t', ty, pos, af, none⟩ :: todo) L w :=
  OW.bin hd hx hy (by
    have e := run_xor64 (P := P) (w := w) h0.1 h0.2 g0.1 g0.2
    simp only [eqGuard, binOp]
    simpa using e) h

theorem OW.andNot64 (hd : Nat.blt d n = true) (hx : evl L x = some (.int .u64 i)) (hy : evl L y = some (.int .u64 j)) (h0 : 0 ≤ i ∧ i < 18446744073709551616) (g0 : 0 ≤ j ∧ j < 18446744073709551616)
    (h : OW P ops Q n D todo ((d, .int .u64 (bout i j)) :: L) w) : OW P ops Q n D (⟨some d, .binOp .andNot t x y t', ty, pos, af, none⟩ :: todo) L w :=
  OW.bin hd hx hy (by
    have e := run_andNot64 (P := P) (w := w) h0.1 h0.2 g0.1 g0.2
    simp only [eqGuard, binOp]
    simpa using e) h

theorem OW.convertW {k' : IntKind} (hd : Nat.blt d n = true) (hs : (P.underlying t).isSome = true) (ht : P.underlying t' = some (.int k')) (hx : evl L x = some (.int k i))
    (h : OW P ops Q n D todo ((d, .int k' (k'.wrap i)) :: L) w) : OW P ops Q n D (⟨some d, .convert t t' x, ty, pos, af, none⟩ :: todo) L w :=
  OW.value rfl rfl hd (fun a ha => by
    simp only [execOp, ha.eval hx]
    refine run_val ?_
    obtain ⟨d', hd'⟩ := Option.isSome_iff_exists.mp hs
    simp [convert, run_underlying hd', run_underlying ht, Conv.intToInt]) h
end ops

end Go.Eng
