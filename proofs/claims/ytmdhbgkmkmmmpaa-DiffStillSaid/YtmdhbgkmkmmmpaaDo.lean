/-
  'alike' of law 24, stepped through.
  No condition.
-/
import Derived.Test.YtmdhbgkmkmmmpaaDg
import Derived.Test.YtmdhbgkmkmmmpaaDat6
import Derived.Test.YtmdhbgkmkmmmpaaProg
import Derived.KernelRfl
namespace Go.Eng.Do
open Go Go.Eng Go.Proofs

theorem ag33 : aggSz Try.prog 33 = some 22 := by kernel_rfl
theorem cl41 : callable Try.prog 41 = true := by kernel_rfl
theorem ct29 : cellTy Try.prog 29 = true := by kernel_rfl
theorem ct3 : cellTy Try.prog 3 = true := by kernel_rfl
theorem ct34 : cellTy Try.prog 34 = true := by kernel_rfl
theorem eg33 : Try.prog.eqGuardType Try.prog.depth 33 = false := by kernel_rfl
theorem fo36_0 : fieldOff Try.prog 36 0 = some 0 := by kernel_rfl
theorem fo36_1 : fieldOff Try.prog 36 1 = some 1 := by kernel_rfl
theorem fo36_2 : fieldOff Try.prog 36 2 = some 23 := by kernel_rfl
theorem fo36_3 : fieldOff Try.prog 36 3 = some 24 := by kernel_rfl

def alikeS (a b : Rule) : Bool := decide (a.rank = b.rank ∧ a.mat = b.mat ∧ a.cookie = b.cookie ∧ a.cps = b.cps)
theorem matFlat : Flat Try.prog 33 (List.replicate 22 .u64) := ⟨by kernel_rfl, by kernel_rfl, by kernel_rfl, by kernel_rfl⟩

theorem alike_does {X Y : Nat → Prop} {a b : Rule} {ca cb : List Value} (w : World) (ha : ruleR X w ca a) (hb : ruleR Y w cb b) : Does Try.prog 18 [.agg ca.toArray, .agg cb.toArray] w fun v w' => v = .bool (alikeS a b) ∧ Fr0 w w' := by
  obtain ⟨cva, rfl, hcpa, hwa⟩ := ha
  obtain ⟨cvb, rfl, hcpb, hwb⟩ := hb
  refine Does.enter Try.func18 rfl rfl ?_
  show CW _ _ _ _ 31 [] [(0, .agg (ruleCells a.rank a.mat cva a.cookie).toArray), (1, .agg (ruleCells b.rank b.mat cvb b.cookie).toArray)] w
  refine CW.seq ?_
  refine CW.region ?_
  refine OW.boxA rfl rfl ?_
  intro b1 w1 n1
  refine OW.boxA rfl rfl ?_
  intro b2 w2 n2
  have e1 : Bk w2 b1 36 (ruleCells a.rank a.mat cva a.cookie) := n1.bk.frame n2.fr id
  have e2 : Bk w2 b2 36 (ruleCells b.rank b.mat cvb b.cookie) := n2.bk
  have f2 : Fr0 w w2 := n1.fr.trans n2.fr
  refine OW.assign rfl rfl ?_
  refine OW.nil ?_
  refine NX.seq ?_
  refine CW.seq ?_
  refine CW.region ?_
  refine OW.fieldAddr rfl fo36_0 rfl ?_
  refine OW.load1 rfl ct3 rfl (e1.cell (o := 0) rfl) ?_
  refine OW.fieldAddr rfl fo36_0 rfl ?_
  refine OW.load1 rfl ct3 rfl (e2.cell (o := 0) rfl) ?_
  refine OW.eql rfl rfl rfl ?_
  refine OW.move rfl rfl ?_
  refine OW.ways (s := 10) rfl (fun h1 => ?_) (fun h1 => ?_)
  · refine OW.gyes rfl rfl ?_
    refine OW.fieldAddr rfl fo36_1 rfl ?_
    refine OW.gyes rfl rfl ?_
    refine OW.loadA rfl ag33 rfl (e1.segAt 1 a.mat.cells (fun j v e => Dg.ruleCells_mat j v e)) (rfl) ?_
    refine OW.gyes rfl rfl ?_
    refine OW.fieldAddr rfl fo36_1 rfl ?_
    refine OW.gyes rfl rfl ?_
    refine OW.loadA rfl ag33 rfl (e2.segAt 1 b.mat.cells (fun j v e => Dg.ruleCells_mat j v e)) (rfl) ?_
    refine OW.gyes rfl rfl ?_
    refine OW.eqlA (l := a.mat.lits) (r := b.mat.lits) rfl matFlat eg33 rfl rfl rfl rfl (Mat.lits_wf hwa.2.2.1) (Mat.lits_wf hwb.2.2.1) ?_
    refine OW.pickT rfl rfl rfl ?_
    refine OW.move rfl rfl ?_
    refine OW.ways (s := 17) rfl (fun h2 => ?_) (fun h2 => ?_)
    · refine OW.gyes rfl rfl ?_
      refine OW.fieldAddr rfl fo36_3 rfl ?_
      refine OW.gyes rfl rfl ?_
      refine OW.load1 rfl ct29 rfl (e1.cell (o := 24) rfl) ?_
      refine OW.gyes rfl rfl ?_
      refine OW.fieldAddr rfl fo36_3 rfl ?_
      refine OW.gyes rfl rfl ?_
      refine OW.load1 rfl ct29 rfl (e2.cell (o := 24) rfl) ?_
      refine OW.gyes rfl rfl ?_
      refine OW.eql rfl rfl rfl ?_
      refine OW.pickT rfl rfl rfl ?_
      refine OW.move rfl rfl ?_
      refine OW.ways (s := 24) rfl (fun h3 => ?_) (fun h3 => ?_)
      · refine OW.gyes rfl rfl ?_
        refine OW.fieldAddr rfl fo36_2 rfl ?_
        refine OW.gyes rfl rfl ?_
        refine OW.load1 rfl ct34 rfl (e1.cell (o := 23) rfl) ?_
        refine OW.gyes rfl rfl ?_
        refine OW.fieldAddr rfl fo36_2 rfl ?_
        refine OW.gyes rfl rfl ?_
        refine OW.load1 rfl ct34 rfl (e2.cell (o := 23) rfl) ?_
        refine OW.gyes rfl rfl ?_
        refine OW.call rfl rfl cl41 (Dg.same_does w2 (hcpa.frame cpsR_ok f2 (fun _ _ h => h)) (hcpb.frame cpsR_ok f2 (fun _ _ h => h))) ?_
        rintro _ w3 ⟨rfl, f3⟩
        refine OW.pickT rfl rfl rfl ?_
        refine OW.assign rfl rfl ?_
        refine OW.nil ?_
        refine NX.seq ?_
        refine CW.ret ?_
        exact NX.ret1 rfl rfl (⟨by rw [alikeS]; exact congrArg Value.bool (decide_eq_decide.2 ⟨fun h => ⟨h1, Mat.lits_inj h2, by omega, h⟩, fun h => h.2.2.2⟩), f2.trans f3⟩)
      · refine OW.gnoD rfl rfl rfl rfl ?_
        refine OW.gnoD rfl rfl rfl rfl ?_
        refine OW.gnoD rfl rfl rfl rfl ?_
        refine OW.gnoD rfl rfl rfl rfl ?_
        refine OW.gnoD rfl rfl rfl rfl ?_
        refine OW.pickF rfl rfl rfl ?_
        refine OW.assign rfl rfl ?_
        refine OW.nil ?_
        refine NX.seq ?_
        refine CW.ret ?_
        exact NX.ret1 rfl rfl (⟨by rw [alikeS, decide_eq_false]; intro h; exact h3 (by rw [h.2.2.1]), f2⟩)
    · refine OW.gnoD rfl rfl rfl rfl ?_
      refine OW.gnoD rfl rfl rfl rfl ?_
      refine OW.gnoD rfl rfl rfl rfl ?_
      refine OW.gnoD rfl rfl rfl rfl ?_
      refine OW.gnoD rfl rfl rfl rfl ?_
      refine OW.pickF rfl rfl rfl ?_
      refine OW.move rfl rfl ?_
      refine OW.gnoD rfl rfl rfl rfl ?_
      refine OW.gnoD rfl rfl rfl rfl ?_
      refine OW.gnoD rfl rfl rfl rfl ?_
      refine OW.gnoD rfl rfl rfl rfl ?_
      refine OW.gnoD rfl rfl rfl rfl ?_
      refine OW.pickF rfl rfl rfl ?_
      refine OW.assign rfl rfl ?_
      refine OW.nil ?_
      refine NX.seq ?_
      refine CW.ret ?_
      exact NX.ret1 rfl rfl (⟨by rw [alikeS, decide_eq_false]; intro h; exact h2 (by rw [h.2.1]), f2⟩)
  · refine OW.gnoD rfl rfl rfl rfl ?_
    refine OW.gnoD rfl rfl rfl rfl ?_
    refine OW.gnoD rfl rfl rfl rfl ?_
    refine OW.gnoD rfl rfl rfl rfl ?_
    refine OW.gnoD rfl rfl rfl rfl ?_
    refine OW.pickF rfl rfl rfl ?_
    refine OW.move rfl rfl ?_
    refine OW.gnoD rfl rfl rfl rfl ?_
    refine OW.gnoD rfl rfl rfl rfl ?_
    refine OW.gnoD rfl rfl rfl rfl ?_
    refine OW.gnoD rfl rfl rfl rfl ?_
    refine OW.gnoD rfl rfl rfl rfl ?_
    refine OW.pickF rfl rfl rfl ?_
    refine OW.move rfl rfl ?_
    refine OW.gnoD rfl rfl rfl rfl ?_
    refine OW.gnoD rfl rfl rfl rfl ?_
    refine OW.gnoD rfl rfl rfl rfl ?_
    refine OW.gnoD rfl rfl rfl rfl ?_
    refine OW.gnoD rfl rfl rfl rfl ?_
    refine OW.pickF rfl rfl rfl ?_
    refine OW.assign rfl rfl ?_
    refine OW.nil ?_
    refine NX.seq ?_
    refine CW.ret ?_
    exact NX.ret1 rfl rfl (⟨by rw [alikeS, decide_eq_false]; intro h; exact h1 h.1, f2⟩)

end Go.Eng.Do
