/-
  The engine, part X: scopes that no goto leaves.
  No condition: general lemmas over any program.
-/
import Derived.Test.YtmdhbgkmkmmmpaaEngA
import Derived.Scope
namespace Go.Eng
open Go

section
variable {F : Fence} {m : Nat} {P : Program} {b : Frame} {a : Act} {k : List Item} {cs : List Frame} {w : World} {Q : Exit → Act → World → Prop}

theorem stepR_scope {c : Code} : step P (lone (b.atR a (.code (.scope c) :: k)) cs w) = .next (lone (b.atR a (.code c :: .inScope c :: k)) cs w) :=
  step_lone_go (by simp [stepG, stepG.exec, Frame.atR])
theorem stepR_inScope {c : Code} : step P (lone (b.atR a (.inScope c :: k)) cs w) = .next (lone (b.atR a k) cs w) :=
  step_lone_go (by simp [stepG, stepG.exec, Frame.atR])

theorem wpIn_scope {c : Code} (h : c.wpIn F m P (Exit.noGoto Q) a w) : (Code.scope c).wpIn F m P Q a w := by
  intro b k cs hro hb hr
  have h0 : (lone (b.atR a (.code (.scope c) :: k)) cs w).fenced P F := fenced_calm hb hr rfl
  obtain ⟨e, a₁, w₁, hq, harr⟩ := h b (.inScope c :: k) cs hro hb hr
  cases e with
  | normal => exact ⟨.normal, a₁, w₁, hq, .head h0 stepR_scope (StepsIn.trans harr (.one (fenced_calm hb hr rfl) stepR_inScope))⟩
  | exit id =>
    exact ⟨.exit id, a₁, w₁, hq, fun k' hk => .head h0 stepR_scope (harr.1 k' (by simp [exitTo, hk])),
      fun hr' hk => let ⟨k₁, h1, h2⟩ := harr.2 hr' (by simp [exitTo]; exact hk); ⟨k₁, h1, .head h0 stepR_scope h2⟩⟩
  | goto l => exact hq.elim
  | ret => exact ⟨_, a₁, w₁, hq, .of_steps (.one h0 stepR_scope) harr⟩
  | panic ch => exact ⟨_, a₁, w₁, hq, .of_steps (.one h0 stepR_scope) harr⟩
  | outgrown => exact ⟨_, a₁, w₁, hq, .of_steps (.one h0 stepR_scope) harr⟩
end

variable {n : Nat} {D : List Deferred} {L : List (Nat × Value)} {P : Program} {Q : Exit → Act → World → Prop} {w : World} {r : Option Nat}

theorem CW.scope {c : Code} (h : CW r P c (Exit.noGoto Q) n D L w) : CW r P (.scope c) Q n D L w := fun a ha => wpIn_scope (h a ha)
theorem NX.scopeN (h : NX Q n D .normal L w) : NX (Exit.noGoto Q) n D .normal L w := fun a ha => h a ha
theorem NX.scopeExit {i : Nat} (h : NX Q n D (.exit i) L w) : NX (Exit.noGoto Q) n D (.exit i) L w := fun a ha => h a ha
theorem NX.scopeRet (h : NX Q n D .ret L w) : NX (Exit.noGoto Q) n D .ret L w := fun a ha => h a ha

end Go.Eng
