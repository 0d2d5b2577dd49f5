/-
  'tollbridgelaw09.TuplesPlays' returns true at every input, and its arguments read behind the call as they read before.
  No condition.
-/
import Derived.Test.YtmdhbgkmkmmmpaaRows
import Derived.Test.YtmdhbgkmkmmmpaaOpen
import Derived.Test.YtmdhbgkmkmmmpaaTk
import Derived.WalkKit
import Derived.ProofKit
import Derived.OpenShut
import Derived.ChangeOld
import Derived.Below
import Derived.SizedLaws
namespace Go.Proofs.Ytmdhbgkmkmmmpaa
open Go Go.Eng Go.ChangeShapes Go.WideShapes Go.ChangeAt Go.RowKit

namespace plays
theorem own : ownKnob Try.prog.godebug = none := by kernel_rfl
theorem laidOut : laidOutB Try.prog = true := by kernel_rfl
theorem par : Try.f11.params = #[65] := by kernel_rfl
theorem uDeals : Try.prog.underlying 65 = some (.slice 71) := by kernel_rfl
theorem uBool : Try.prog.underlying 4 = some .bool := by kernel_rfl

theorem opensHdr {H : Type} (enc : TypeId × Value → H) (w : World) : Opens enc Try.prog w 31 hdrR :=
  Opens.hdr (e := 29) (by kernel_rfl) (by kernel_rfl) (by kernel_rfl) (by kernel_rfl)
theorem opensRule {H : Type} (enc : TypeId × Value → H) (w : World) : Opens enc Try.prog w 36 ruleR :=
    Opens.rule (t64 := 3) (tm := 33) (tc := 34) (tu := 29) (by kernel_rfl) (by kernel_rfl) (by kernel_rfl)
      (Opens.mat (th := 31) (by kernel_rfl) (by kernel_rfl) (opensHdr enc w))
      (Opens.slice (e := 75) (by kernel_rfl) (by kernel_rfl) (by decide) (of_decide_eq_true (by kernel_rfl))
        (Opens.slice (e := 89) (by kernel_rfl) (by kernel_rfl) (by decide) (of_decide_eq_true (by kernel_rfl))
          (Opens.actn (t8 := 38) (t64 := 29) (by kernel_rfl) (by kernel_rfl) (by kernel_rfl) (by kernel_rfl))))
      (by kernel_rfl)
theorem opens {H : Type} (enc : TypeId × Value → H) (w : World) : Opens enc Try.prog w 65 (rowR 38 dealR) :=
  Opens.slice uDeals (by kernel_rfl) (by decide) (of_decide_eq_true (by kernel_rfl))
    (Opens.deal (t64 := 3) (tr := 36) (th := 31) (by kernel_rfl) (by kernel_rfl) (by kernel_rfl) (opensRule enc w) (opensHdr enc w))

set_option maxRecDepth 100000 in
theorem lifted (os : Os) (started : os.Started) (H : Type) (enc : TypeId × Value → H) :
    ReturnsInHanded {} Try.checked os 11 .any (Rows.tuplesPlaysSpec.pre6 enc Try.prog Try.f11 Rows.tuplesPlaysRow.domain false) (Rows.tuplesPlaysSpec.post enc Try.prog Try.f11 false true false false) := by
  refine returnsInHanded_of_change_sized (C := Try.checked) own started (by kernel_rfl) Try.func11
    (ChangeSpec.witness6 (enc := enc) (C := Try.checked) false ⟨#[], #[.slice none 0 0], []⟩ 8 (by kernel_rfl) (by kernel_rfl) (by kernel_rfl) (by kernel_rfl)) ?_
  intro W base args ds gs before hval0 hW hcnd hsz _
  have hval : ∀ (j : Nat) t v, Try.f11.params[j]? = some t → args[j]? = some v → Value.okWide Try.prog W .any base t v := hval0
  have hW' := hW
  obtain ⟨p, q, hA0, hV, rfl, hfz, hnd⟩ := hW
  have hA : DataW.TrodAll enc Try.prog W 0 (fun _ => true) true Try.f11.params.toList args.toList ds p := hA0
  have hsz' : (DataW.weightsEach Try.prog (Try.f11.params.toList ++ Rows.tuplesPlaysSpec.plain.varTypes Try.prog) (ds ++ gs)).all (· ≤ reachBytes) = true := hsz
  rw [par] at hA hval hsz'
  obtain ⟨v0, vs0, d0, ds0, p0, q0, hargs, rfl, rfl, h0, r0⟩ := trodAll_cons hA
  obtain ⟨rfl, rfl, rfl⟩ := trodAll_nil r0
  obtain rfl : args = #[v0] := by cases args; simp_all
  obtain ⟨rfl, rfl⟩ := trodVars_none hV
  rw [List.all_eq_true] at hsz'
  have k0 := h0
  have lt0 : ∀ x ∈ p0, x.block < W.heap.size := by obtain ⟨m, hm⟩ := k0; exact DataW.trod_lt m _ _ _ hm
  obtain ⟨a0, len0, cap0, rfl⟩ := okWide_slice uDeals (hval 0 _ v0 rfl rfl)
  obtain ⟨xs, hx⟩ := open_value (opens enc W) rfl h0 (fun n hn => by
    have := hsz' n (weightsEach_mem (j := 0) rfl rfl n hn)
    simpa using this)
  clear hA0 hval0
  have hd := Tk.plays_does W hx
  refine Calls.mono (show Calls Try.prog 11 #[_] W _ from hd) ?_
  rintro e W' ⟨v, rfl, rfl, hf⟩
  have bel := hf.below
  exact ⟨_, rfl, _, _, _, [], _, [], hW', trodAll_mk1 (shut_bool uBool _), (trodAll_cons_mk (Below.trod laidOut (by kernel_rfl) (of_decide_eq_true (by kernel_rfl)) k0 bel lt0) trodAll_mk0), rfl, bel.frame _, fun h => by cases h⟩

theorem over : Rows.tuplesPlaysRow.holds Try.pinned (OpenSpec.ofChange Rows.tuplesPlaysSpec) :=
  OpenClaim.holds_of_wide 11 Try.f11 rfl rfl rfl rfl rfl rfl rfl ⟨rfl, rfl, rfl, rfl, rfl⟩ rfl rfl rfl rfl rfl (by kernel_rfl) Try.func11 (by kernel_rfl)
    (of_decide_eq_true (by kernel_rfl)) (by unfold Func.isWrapper; first | (rw [if_pos (by decide +kernel)]; kernel_rfl) | (rw [if_neg (by decide +kernel)]; exact ⟨rfl, rfl⟩))
    (fun os started H enc _ => lifted os started H enc)
end plays

theorem tuplesPlaysProved : Rows.TuplesPlaysSaid := plays.over
end Go.Proofs.Ytmdhbgkmkmmmpaa
