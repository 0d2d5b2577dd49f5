/-
  DiffTells, stepped through.
  No condition.
-/
import Derived.Test.YtmdhbgkmkmmmpaaDq
import Derived.Test.YtmdhbgkmkmmmpaaLst
import Derived.Test.YtmdhbgkmkmmmpaaDat7
import Derived.Test.YtmdhbgkmkmmmpaaProg
import Derived.KernelRfl
import Derived.Test.YtmdhbgkmkmmmpaaDn
import Derived.Test.YtmdhbgkmkmmmpaaDs
import Derived.Test.YtmdhbgkmkmmmpaaDt
namespace Go.Eng.Du
open Go Go.Eng Go.Proofs
theorem MIX : Try.prog.follows .mixedOrders = true := by kernel_rfl

theorem cl13 : callable Try.prog 13 = true := by kernel_rfl
theorem cl14 : callable Try.prog 14 = true := by kernel_rfl
theorem cl15 : callable Try.prog 15 = true := by kernel_rfl
theorem cl16 : callable Try.prog 16 = true := by kernel_rfl
theorem cl17 : callable Try.prog 17 = true := by kernel_rfl

theorem between_acts (was now : List Rule) : ∀ m ∈ betweenS was now, -128 ≤ m.act ∧ m.act < 128 := by
  intro m hm
  unfold betweenS gone at hm
  rcases List.mem_append.1 hm with h | h
  · obtain ⟨p, _, rfl⟩ := List.mem_map.1 h
    exact ⟨by simp only [strictMsg]; omega, by simp only [strictMsg]; omega⟩
  · obtain ⟨r, _, rfl⟩ := List.mem_map.1 h
    exact ⟨by simp only [addMsg]; omega, by simp only [addMsg]; omega⟩

theorem diffTells_does {was now : List Rule} {va vb : Value} (w : World) (hx : rulesR (Bel w) w va was) (hy : rulesR (Bel w) w vb now) : Does Try.prog 3 [va, vb] w fun v w' => v = .bool true ∧ Fr0 w w' := by
  refine Does.enter Try.func3 rfl rfl ?_
  show CW _ _ _ _ 22 [] [(0, va), (1, vb)] w
  refine CW.seq ?_
  refine CW.region ?_
  refine OW.assign rfl rfl ?_
  refine OW.nil ?_
  refine NX.seq ?_
  refine CW.seq ?_
  refine CW.seq ?_
  refine CW.region ?_
  refine OW.move rfl rfl ?_
  refine OW.call rfl rfl cl13 (great_does _ was w hx) ?_
  rintro _ w1 ⟨rfl, rfl⟩
  refine OW.move rfl rfl ?_
  refine OW.waysB (s := 7) rfl (fun hg1 => ?_) (fun hg1 => ?_)
  · refine OW.gnoD rfl rfl rfl rfl ?_
    refine OW.gnoD rfl rfl rfl rfl ?_
    refine OW.pickT rfl rfl rfl ?_
    refine OW.nil ?_
    refine NX.seq ?_
    refine CW.condT rfl ?_
    refine CW.seq ?_
    refine CW.region ?_
    refine OW.call rfl rfl cl14 (Dm.wakes_does _) ?_
    rintro _ w9 ⟨rfl, f9⟩
    refine OW.assign rfl rfl ?_
    refine OW.nil ?_
    refine NX.seq ?_
    refine CW.ret ?_
    refine NX.thenRet ?_
    exact NX.ret1 rfl rfl (⟨rfl, f9⟩)
  · refine OW.gyes rfl rfl ?_
    refine OW.move rfl rfl ?_
    refine OW.gyes rfl rfl ?_
    refine OW.call rfl rfl cl13 (great_does _ now w1 hy) ?_
    rintro _ w2 ⟨rfl, rfl⟩
    refine OW.pickF rfl rfl rfl ?_
    refine OW.nil ?_
    refine NX.seq ?_
    refine CW.condB rfl (fun hg2 => ?_) (fun hg2 => ?_)
    · refine CW.seq ?_
      refine CW.region ?_
      refine OW.call rfl rfl cl14 (Dm.wakes_does _) ?_
      rintro _ w9 ⟨rfl, f9⟩
      refine OW.assign rfl rfl ?_
      refine OW.nil ?_
      refine NX.seq ?_
      refine CW.ret ?_
      refine NX.thenRet ?_
      exact NX.ret1 rfl rfl (⟨rfl, f9⟩)
    · obtain ⟨h1, h2⟩ := Dn.greatS_false hg1
      obtain ⟨h3, h4⟩ := Dn.greatS_false hg2
      refine CW.skip ?_
      refine NX.seq ?_
      refine CW.seq ?_
      refine CW.region ?_
      refine OW.move rfl rfl ?_
      refine OW.move rfl rfl ?_
      refine OW.call rfl rfl cl16 (Dk.between_does w2 hx hy (by omega) (by omega) (fun r hr => Dn.wt_ok (h4 r hr))) ?_
      rintro v3 w3 ⟨hm3, f3⟩
      refine OW.move rfl rfl ?_
      refine OW.move rfl rfl ?_
      refine OW.call rfl rfl cl17 (Ds.refBetween_does w3 (sfB hx ruleR_ok f3) (sfB hy ruleR_ok f3) (by omega) (by omega)) ?_
      rintro v4 w4 ⟨hm4, f4⟩
      rw [refBetween_eq] at hm4
      have ha : ∀ m ∈ betweenS was now, -128 ≤ m.act ∧ m.act < 128 := between_acts was now
      refine OW.call rfl rfl cl15 (Dt.all_does w4 (msgsR_x (sf hm3 msgR_ok f4) ha) (msgsR_x hm4 ha)) ?_
      rintro _ w5 ⟨rfl, f5⟩
      refine OW.slot (s := 18) rfl (show Value.bool (decide _) = .bool true from by rw [decide_eq_true rfl]) ?_
      refine OW.move rfl rfl ?_
      refine OW.gyes rfl rfl ?_
      refine OW.call rfl rfl cl14 (Dm.wakes_does _) ?_
      rintro _ w9 ⟨rfl, f9⟩
      refine OW.pickT rfl rfl rfl ?_
      refine OW.assign rfl rfl ?_
      refine OW.nil ?_
      refine NX.seq ?_
      refine CW.ret ?_
      exact NX.ret1 rfl rfl (⟨rfl, ((f3.trans f4).trans f5).trans f9⟩)

end Go.Eng.Du
