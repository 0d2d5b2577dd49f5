/-
  Headers and matches, place by place: when a match is one, and which headers it means.
  No condition.
-/
import Derived.Test.YtmdhbgkmkmmmpaaEngV
import Derived.Test.YtmdhbgkmkmmmpaaDf
namespace Go.Eng
open Go

theorem xor_zero_iff {a b : Nat} : a ^^^ b = 0 ↔ a = b := by
  constructor
  · intro h
    apply Nat.eq_of_testBit_eq
    intro i
    have := congrArg (fun n => n.testBit i) h
    simp only [Nat.testBit_xor, Nat.zero_testBit] at this
    cases h1 : a.testBit i <;> cases h2 : b.testBit i <;> simp_all
  · rintro rfl; exact Nat.xor_self a

def Hdr.at (h : Hdr) (i : Nat) : Nat := if h' : i < 11 then h ⟨i, h'⟩ else 0

theorem Hdr.get (h : Hdr) {i : Nat} (hi : i < 11) : h.cells[i]? = some (.int .u64 (h.at i)) := by
  have : i = 0 ∨ i = 1 ∨ i = 2 ∨ i = 3 ∨ i = 4 ∨ i = 5 ∨ i = 6 ∨ i = 7 ∨ i = 8 ∨ i = 9 ∨ i = 10 := by omega
  rcases this with rfl | rfl | rfl | rfl | rfl | rfl | rfl | rfl | rfl | rfl | rfl <;> rfl

theorem Hdr.getO (h : Hdr) {o i : Nat} (ho : o = i) (hi : i < 11) : h.cells[o]? = some (.int .u64 (h.at i)) := by subst ho; exact h.get hi
theorem Mat.getV (m : Mat) {o i : Nat} (ho : o = i) (hi : i < 11) : m.cells[o]? = some (.int .u64 (m.val.at i)) := by
  subst ho
  unfold Mat.cells
  rw [List.getElem?_append_left (by show o < 11; exact hi)]
  exact m.val.get hi
theorem Mat.getM (m : Mat) {o i : Nat} (ho : o = 11 + i) (hi : i < 11) : m.cells[o]? = some (.int .u64 (m.mask.at i)) := by
  subst ho
  unfold Mat.cells
  rw [List.getElem?_append_right (by show 11 ≤ 11 + i; omega), show 11 + i - m.val.cells.length = i by show 11 + i - 11 = i; omega]
  exact m.mask.get hi

theorem Hdr.at_lt {h : Hdr} (w : h.wf) (i : Nat) : h.at i < 18446744073709551616 := by
  unfold Hdr.at; split
  · exact w _
  · omega

theorem Hdr.ext_at {a b : Hdr} (h : ∀ i, i < 11 → a.at i = b.at i) : a = b := by
  funext i
  have := h i.1 i.2
  simpa [Hdr.at] using this

/-- is a match none, at a place? -/
def badAt (m : Mat) (i : Nat) : Bool :=
  decide (((m.mask.at i : Nat) : Int).fdiv (2 ^ min (widthS i).toNat 64) ≠ 0) || decide (bout (m.val.at i : Nat) (m.mask.at i : Nat) ≠ 0)
def matOk (m : Mat) : Bool := (List.range 11).all fun i => !badAt m i
theorem matOk_iff {m : Mat} : matOk m = true ↔ ∀ i, i < 11 → badAt m i = false := by simp [matOk]
theorem matOk_not {m : Mat} {i : Nat} (hi : i < 11) (h : badAt m i = true) : matOk m = false := by
  cases c : matOk m with
  | false => rfl
  | true => rw [matOk_iff.1 c i hi] at h; cases h

/-- is a header meant, at a place? -/
def hitAt (m : Mat) (h : Hdr) (i : Nat) : Bool := decide (h.at i &&& m.mask.at i = m.val.at i)
def hits (m : Mat) (h : Hdr) : Bool := matOk m && (List.range 11).all fun i => hitAt m h i
theorem hits_iff {m : Mat} {h : Hdr} : hits m h = true ↔ matOk m = true ∧ ∀ i, i < 11 → hitAt m h i = true := by simp [hits]
theorem hits_not {m : Mat} {h : Hdr} {i : Nat} (hi : i < 11) (c : hitAt m h i = false) : hits m h = false := by
  cases d : hits m h with
  | false => rfl
  | true => rw [(hits_iff.1 d).2 i hi] at c; cases c
theorem hits_bad {m : Mat} {h : Hdr} (c : matOk m = false) : hits m h = false := by simp [hits, c]

theorem sub_of_ok {m : Mat} (h : matOk m = true) {i : Nat} (hi : i < 11) : m.val.at i &&& m.mask.at i = m.val.at i := by
  have := matOk_iff.1 h i hi
  simp only [badAt, Bool.or_eq_false_iff, decide_eq_false_iff_not, Decidable.not_not] at this
  have h2 := this.2
  unfold bout at h2
  simp only [Int.toNat_natCast] at h2
  have h3 : m.val.at i ^^^ (m.val.at i &&& m.mask.at i) = 0 := by omega
  exact (xor_zero_iff.1 h3).symm

theorem hit_xor {m : Mat} (h : Hdr) (ok : matOk m = true) {i : Nat} (hi : i < 11) : decide (band (bxor (h.at i : Nat) (m.val.at i : Nat)) (m.mask.at i : Nat) ≠ 0) = !hitAt m h i := by
  have hs := sub_of_ok ok hi
  have e : (h.at i ^^^ m.val.at i) &&& m.mask.at i = (h.at i &&& m.mask.at i) ^^^ m.val.at i := by
    rw [Nat.and_xor_distrib_right, hs]
  have e2 : band (bxor (h.at i : Nat) (m.val.at i : Nat)) (m.mask.at i : Nat) = (((h.at i &&& m.mask.at i) ^^^ m.val.at i : Nat) : Int) := by
    unfold band bxor
    simp only [Int.toNat_natCast, e]
  rw [e2]
  unfold hitAt
  by_cases c : h.at i &&& m.mask.at i = m.val.at i
  · rw [c, Nat.xor_self]; simp
  · have : ¬ ((h.at i &&& m.mask.at i) ^^^ m.val.at i) = 0 := fun e => c (xor_zero_iff.1 e)
    simp only [ne_eq, c, decide_false, Bool.not_false, decide_eq_true_eq]
    omega

/-- what is left of a header under a mask -/
def under (h k : Hdr) : Hdr := fun i => h i &&& k i
theorem under_at (h k : Hdr) {i : Nat} (hi : i < 11) : (under h k).at i = h.at i &&& k.at i := by simp [Hdr.at, under, hi]
theorem hits_under {m : Mat} {h : Hdr} (ok : matOk m = true) : hits m h = decide (under h m.mask = m.val) := by
  by_cases c : under h m.mask = m.val
  · rw [decide_eq_true c]
    refine hits_iff.2 ⟨ok, fun i hi => ?_⟩
    unfold hitAt
    rw [← under_at _ _ hi, c]; simp
  · rw [decide_eq_false c]
    cases d : hits m h with
    | false => rfl
    | true =>
      refine absurd (Hdr.ext_at fun i hi => ?_) c
      have := (hits_iff.1 d).2 i hi
      unfold hitAt at this
      rw [under_at _ _ hi]; exact of_decide_eq_true this

theorem under_wf {h k : Hdr} (w : h.wf) : (under h k).wf := fun i => Nat.lt_of_le_of_lt Nat.and_le_left (w i)

end Go.Eng
