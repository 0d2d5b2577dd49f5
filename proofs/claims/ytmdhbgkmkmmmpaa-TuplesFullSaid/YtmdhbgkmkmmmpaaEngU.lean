/-
  The engine, part U: bytes as strings; strings held against each other; Bools held against each other.
  No condition: general lemmas over any program.
-/
import Derived.Test.YtmdhbgkmkmmmpaaEngT
import Derived.Laws.IdiomStrings
import Derived.WalkKit
namespace Go.Eng
open Go

variable {P : Program} {Q : Exit → Act → World → Prop} {w w' : World} {n : Nat} {D : List Deferred} {L : List (Nat × Value)} {ops : Array Oper} {todo : List Oper}
variable {d : Nat} {t t' ty : TypeId} {pos : String} {af : Array Edge} {x y lo hi : Operand} {u u' v : Value} {b o k : Nat}

/-- a number of a kind, below a bound, in one cell -/
def numR (k : IntKind) (B : Nat) : Rep Nat := fun _ _ cs n => cs = [.int k (n : Nat)] ∧ n < B
theorem numR_ok (k : IntKind) (B : Nat) : (numR k B).Ok 1 where
  frame := fun h _ _ => h
  mono := fun h _ => h
  one := fun ⟨e, _⟩ c hc => by subst e; simp at hc; subst hc; rfl
  len := fun ⟨e, _⟩ => by subst e; rfl

abbrev byteR : Rep Nat := numR .u8 256
theorem byteR_ok : byteR.Ok 1 := numR_ok _ _

def str (xs : List Nat) : ByteArray := ⟨(xs.map UInt8.ofNat).toArray⟩

theorem str_inj {a b : List Nat} (ha : ∀ x ∈ a, x < 256) (hb : ∀ x ∈ b, x < 256) (h : str a = str b) : a = b := by
  have h1 : (a.map UInt8.ofNat) = (b.map UInt8.ofNat) := by
    have := congrArg (fun s : ByteArray => s.data.toList) h
    simpa [str] using this
  clear h
  induction a generalizing b with
  | nil => cases b with
    | nil => rfl
    | cons y b => simp at h1
  | cons x a ih =>
    cases b with
    | nil => simp at h1
    | cons y b =>
      simp only [List.map_cons, List.cons.injEq] at h1
      have hx := ha x (by simp)
      have hy := hb y (by simp)
      have e : x = y := by
        have := congrArg UInt8.toNat h1.1
        simp at this
        omega
      rw [e, ih (fun z hz => ha z (by simp [hz])) (fun z hz => hb z (by simp [hz])) h1.2]

theorem bytes_lt {X : Nat → Prop} {xs : List Nat} {k : IntKind} {B : Nat} (h : SlR 1 (numR k B) X w v xs) : ∀ x ∈ xs, x < B := by
  intro x hx
  obtain ⟨i, hi⟩ := List.mem_iff_getElem?.1 hx
  have hl : i < xs.length := by
    rcases Nat.lt_or_ge i xs.length with g | g
    · exact g
    · rw [List.getElem?_eq_none g] at hi; cases hi
  obtain ⟨b, o, cap, _, _, _, _, _, hr⟩ := h.at hl
  obtain ⟨c, _, _, hw⟩ := hr i x hi
  exact hw

theorem nums_cells {X : Nat → Prop} {xs : List Nat} {b o : Nat} {k : IntKind} {B : Nat} (h : Row 1 (numR k B) X w b o xs) : Seg w b o (xs.map fun n => Value.int k (n : Nat)) := by
  intro j v e
  rw [List.getElem?_map] at e
  simp only [Option.map_eq_some_iff] at e
  obtain ⟨n, hn, rfl⟩ := e
  obtain ⟨c, h1, h2, _⟩ := h j n hn
  subst h2
  have := h1.one 0 rfl
  rwa [Nat.add_zero, Nat.mul_one] at this

theorem str_fold (xs : List Nat) : (xs.map fun n : Nat => (n : Int)).foldl (fun r (n : Int) => r.push (UInt8.ofNat n.toNat)) ByteArray.empty = str xs := by
  have gen : ∀ (xs : List Nat) (s : ByteArray), (xs.map fun n : Nat => (n : Int)).foldl (fun r (n : Int) => r.push (UInt8.ofNat n.toNat)) s = ⟨s.data ++ (xs.map UInt8.ofNat).toArray⟩ := by
    intro xs
    induction xs with
    | nil => intro s; simp
    | cons x xs ih =>
      intro s
      simp only [List.map_cons, List.foldl_cons]
      rw [ih]
      simp [ByteArray.push]
  rw [gen]
  show (⟨#[] ++ (xs.map UInt8.ofNat).toArray⟩ : ByteArray) = str xs
  simp [str]

/-- string(b) -/
theorem OW.bytesStr {X : Nat → Prop} {xs : List Nat} {e : Nat} (hd : Nat.blt d n = true) (hs : P.underlying t = some (.slice e)) (he : P.underlying e = some (.int .u8)) (ht : P.underlying t' = some .string) (hx : evl L x = some v) (hv : SlR 1 byteR X w v xs)
    (h : OW P ops Q n D todo ((d, .string (str xs)) :: L) w) : OW P ops Q n D (⟨some d, .convert t t' x, ty, pos, af, none⟩ :: todo) L w := by
  refine OW.value rfl rfl hd (fun a ha => ?_) h
  simp only [execOp, ha.eval hx]
  refine run_val ?_
  rcases hv with ⟨p, cap, rfl, rfl⟩ | ⟨b, o, cap, rfl, _, _, _, _, hr⟩
  · rw [run_convert_bytes_string w t t' e p 0 cap hs he ht]
    cases p with
    | none => rfl
    | some p =>
      rw [run_bytesToString w p 0 cap [] rfl]
      rfl
  · rw [run_convert_bytes_string w t t' e _ _ cap hs he ht]
    have h1 := run_loadSeg (P := P) (nums_cells hr)
    rw [List.length_map] at h1
    have h2 : (xs.map fun n => Value.int .u8 (n : Nat)) = (xs.map fun n : Nat => (n : Int)).map (Value.int .u8) := by simp
    rw [h2] at h1
    rw [run_bytesToString w _ _ cap _ h1, str_fold]

theorem run_neqStr (a b : ByteArray) (w : World) : (Op.stringOp .neq a b).run P w = .ok (.bool (decide (a ≠ b))) w := by
  have : (a.toList == b.toList) = decide (a = b) := by
    rw [ByteArray.toList_eq, ByteArray.toList_eq]
    by_cases c : a = b
    · subst c; simp
    · have : ¬ a.data = b.data := fun e => c (by cases a; cases b; simp at e; simp [e])
      simp [c, this]
  simp [Op.stringOp, this]

theorem run_eqlStr (a b : ByteArray) (w : World) : (Op.stringOp .eql a b).run P w = .ok (.bool (decide (a = b))) w := by
  have : (a.toList == b.toList) = decide (a = b) := by
    rw [ByteArray.toList_eq, ByteArray.toList_eq]
    by_cases c : a = b
    · subst c; simp
    · have : ¬ a.data = b.data := fun e => c (by cases a; cases b; simp at e; simp [e])
      simp [c, this]
  simp [Op.stringOp, this]

theorem str_dec {a b : List Nat} (ha : ∀ x ∈ a, x < 256) (hb : ∀ x ∈ b, x < 256) : decide (str a = str b) = decide (a = b) :=
  decide_eq_decide.2 ⟨str_inj ha hb, fun e => by rw [e]⟩

theorem OW.neqStr {a b : ByteArray} (hd : Nat.blt d n = true) (hx : evl L x = some (.string a)) (hy : evl L y = some (.string b))
    (h : OW P ops Q n D todo ((d, .bool (decide (a ≠ b))) :: L) w) : OW P ops Q n D (⟨some d, .binOp .neq t x y t', ty, pos, af, none⟩ :: todo) L w :=
  OW.bin hd hx hy (by simp [eqGuard, binOp, run_neqStr]) h

theorem OW.eqlStr {a b : ByteArray} (hd : Nat.blt d n = true) (hx : evl L x = some (.string a)) (hy : evl L y = some (.string b))
    (h : OW P ops Q n D todo ((d, .bool (decide (a = b))) :: L) w) : OW P ops Q n D (⟨some d, .binOp .eql t x y t', ty, pos, af, none⟩ :: todo) L w :=
  OW.bin hd hx hy (by simp [eqGuard, binOp, run_eqlStr]) h

theorem OW.neqBool {p q : Bool} (hd : Nat.blt d n = true) (ht : P.underlying t = some .bool) (hx : evl L x = some (.bool p)) (hy : evl L y = some (.bool q))
    (h : OW P ops Q n D todo ((d, .bool (decide (p ≠ q))) :: L) w) : OW P ops Q n D (⟨some d, .binOp .neq t x y t', ty, pos, af, none⟩ :: todo) L w :=
  OW.bin hd hx hy (by
    have : (Op.equal t (.bool p) (.bool q)).run P w = .ok (p == q) w := by
      show (Op.equalIn (9999 + 1) t (.bool p) (.bool q)).run P w = _
      rw [Op.equalIn]
      simp [run_underlying ht]
    simp [eqGuard, binOp, this]
    cases p <;> cases q <;> rfl) h

theorem OW.eqlBool {p q : Bool} (hd : Nat.blt d n = true) (ht : P.underlying t = some .bool) (hx : evl L x = some (.bool p)) (hy : evl L y = some (.bool q))
    (h : OW P ops Q n D todo ((d, .bool (decide (p = q))) :: L) w) : OW P ops Q n D (⟨some d, .binOp .eql t x y t', ty, pos, af, none⟩ :: todo) L w :=
  OW.bin hd hx hy (by
    have : (Op.equal t (.bool p) (.bool q)).run P w = .ok (p == q) w := by
      show (Op.equalIn (9999 + 1) t (.bool p) (.bool q)).run P w = _
      rw [Op.equalIn]
      simp [run_underlying ht]
    simp [eqGuard, binOp, this]
    cases p <;> cases q <;> rfl) h

end Go.Eng
