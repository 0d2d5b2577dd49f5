/-
  The engine, part E: what is ready in a region whose order is open.
  No condition: general lemmas over any program.
-/
import Derived.Test.YtmdhbgkmkmmmpaaEngD
import Derived.OrdersIn
namespace Go.Eng
open Go

variable {os : List Oper}

theorem ready_iff {listed : Array Bool} {i : Nat} : i ∈ Region.ready .any os.toArray listed ↔
    ∃ o, os[i]? = some o ∧ listed.getD i true = false ∧ ∀ e ∈ o.after, Region.binds .any e = true → listed.getD e.on false = true := by
  simp only [Region.ready, List.mem_filter, List.mem_range, Bool.and_eq_true, Bool.not_eq_true']
  constructor
  · rintro ⟨h1, h2, h3⟩
    simp only [List.getElem?_toArray] at h3
    cases ho : os[i]? with
    | none => rw [ho] at h3; simp at h3
    | some o =>
      rw [ho] at h3
      simp only [Option.map_some, Option.getD_some, Array.all_eq_true_iff_forall_mem, Bool.or_eq_true, Bool.not_eq_true'] at h3
      refine ⟨o, rfl, h2, fun e he hb => ?_⟩
      rcases h3 e he with c | c
      · rw [hb] at c; cases c
      · exact c
  · rintro ⟨o, ho, h2, h3⟩
    have hi : i < os.length := by
      rcases Nat.lt_or_ge i os.length with c | c
      · exact c
      · rw [List.getElem?_eq_none c] at ho; cases ho
    refine ⟨by simpa using hi, h2, ?_⟩
    simp only [List.getElem?_toArray, ho, Option.map_some, Option.getD_some, Array.all_eq_true_iff_forall_mem, Bool.or_eq_true, Bool.not_eq_true']
    intro e he
    cases hb : Region.binds .any e with
    | false => exact .inl rfl
    | true => exact .inr (h3 e he hb)

theorem getD_ft {listed : Array Bool} {i : Nat} (hi : i < listed.size) : listed.getD i false = listed.getD i true := by
  simp only [Array.getD, hi, dif_pos]

def keysOf (L : List (Nat × Value)) : List Nat := L.map (·.1)

theorem look_keys : ∀ {L : List (Nat × Value)} {t : Nat} {v : Value}, look L t = some v → t ∈ keysOf L
  | [], t, v, h => by simp [look] at h
  | (k, x) :: L, t, v, h => by
    simp only [look] at h
    by_cases c : k = t
    · subst c; simp [keysOf]
    · rw [beq_ne c] at h
      exact List.mem_cons_of_mem _ (look_keys h)

end Go.Eng
