/-
  What the document says of two short lists, stepped through.
  No condition.
-/
import Derived.Test.YtmdhbgkmkmmmpaaDl
import Derived.Test.YtmdhbgkmkmmmpaaDat6
import Derived.Test.YtmdhbgkmkmmmpaaProg
import Derived.KernelRfl
namespace Go.Eng.Dm
open Go Go.Eng Go.Proofs

theorem cl16 : callable Try.prog 16 = true := by kernel_rfl
theorem cl38 : callable Try.prog 38 = true := by kernel_rfl
theorem ct3 : cellTy Try.prog 3 = true := by kernel_rfl
theorem ct34 : cellTy Try.prog 34 = true := by kernel_rfl
theorem ct38 : cellTy Try.prog 38 = true := by kernel_rfl
theorem el22 : elemIs Try.prog 22 = some (36, 25) := by kernel_rfl
theorem el26 : elemIs Try.prog 26 = some (45, 36) := by kernel_rfl
theorem el34 : elemIs Try.prog 34 = some (75, 1) := by kernel_rfl
theorem fo36_0 : fieldOff Try.prog 36 0 = some 0 := by kernel_rfl
theorem fo36_2 : fieldOff Try.prog 36 2 = some 23 := by kernel_rfl
theorem fo45_2 : fieldOff Try.prog 45 2 = some 2 := by kernel_rfl
theorem fo45_3 : fieldOff Try.prog 45 3 = some 3 := by kernel_rfl
theorem zr36 : zeroIs Try.prog 36 = some (.agg #[.int .i64 0, .int .u64 0, .int .u64 0, .int .u64 0, .int .u64 0, .int .u64 0, .int .u64 0, .int .u64 0, .int .u64 0, .int .u64 0, .int .u64 0, .int .u64 0, .int .u64 0, .int .u64 0, .int .u64 0, .int .u64 0, .int .u64 0, .int .u64 0, .int .u64 0, .int .u64 0, .int .u64 0, .int .u64 0, .int .u64 0, .slice none 0 0, .int .u64 0]) := by kernel_rfl

def wr (rk : Int) (to out : Nat) : Rule := ⟨rk, ⟨Dl.h5 to, Dl.h5 255⟩, [[⟨1, 0, out⟩]], 0⟩
theorem h5_wf {n : Nat} (h : n < 18446744073709551616) : (Dl.h5 n).wf := by
  intro i
  unfold Dl.h5
  split
  · exact h
  · decide
theorem wr_wf (rk : Int) (to out : Nat) (h1 : -9223372036854775808 ≤ rk) (h2 : rk < 9223372036854775808) (h3 : to < 18446744073709551616) (_ : out < 18446744073709551616) : (wr rk to out).wf :=
  ⟨h1, h2, ⟨h5_wf h3, h5_wf (by decide)⟩, show (0 : Nat) < _ from by decide⟩
theorem wrs (l : List Rule) (h : (l.all fun r => decide (r.cps.length ≤ 1000000) && r.cps.all fun c => decide (c.length ≤ 1000000)) = true) : ∀ r ∈ l, Dk.wtOk r := by
  intro r hr
  rw [List.all_eq_true] at h
  have := h r hr
  simp only [Bool.and_eq_true, decide_eq_true_eq, List.all_eq_true] at this
  exact this
theorem bw1 : betweenS [wr 1 1 1, wr 2 2 2] [wr 2 2 2, wr 3 3 3] = [⟨3, ⟨1, ⟨Dl.h5 1, Dl.h5 255⟩, [], 0⟩⟩, ⟨0, wr 3 3 3⟩] := by kernel_rfl
theorem bw2 : betweenS [wr 1 1 1] [wr 1 1 2] = [⟨0, wr 1 1 2⟩] := by kernel_rfl
theorem bw3 : betweenS [wr 1 1 1, wr 2 2 2] [wr 2 2 2, wr 1 1 1] = [] := by kernel_rfl

theorem wakes_does (w : World) : Does Try.prog 14 [] w fun v w' => v = .bool true ∧ Fr0 w w' := by
  refine Does.enter Try.func14 rfl rfl ?_
  show CW _ _ _ _ 78 [] [] w
  refine CW.seq ?_
  refine CW.region ?_
  refine OW.assign rfl rfl ?_
  refine OW.nil ?_
  refine NX.seq ?_
  refine CW.seq ?_
  refine CW.region ?_
  refine OW.call rfl rfl cl38 (Dl.rule_does 1 1 1 (by decide) w) ?_
  rintro _ w1 ⟨cv2, rfl, hc3, f4⟩
  refine OW.call rfl rfl cl38 (Dl.rule_does 2 2 2 (by decide) w1) ?_
  rintro _ w5 ⟨cv6, rfl, hc7, f8⟩
  have hc3 := hc3.frame cpsR_ok f8 (fun _ _ h => h)
  refine OW.buildSlice (z := .agg (ruleCells 0 ⟨fun _ => 0, fun _ => 0⟩ (.slice none 0 0) 0).toArray) rfl el22 zr36 rfl rfl rfl rfl rfl ?_
  intro b9 w10 n11
  have hc3 := hc3.frame cpsR_ok n11.fr (fun _ _ h => h)
  have hc7 := hc7.frame cpsR_ok n11.fr (fun _ _ h => h)
  have hl12 : rulesR AllB w10 (.slice (some ⟨b9, 0, none⟩) 2 2) [wr 1 1 1, wr 2 2 2] := by
    refine SlR.ofNew (R := ruleR) (X := AllB) (xs := [wr 1 1 1, wr 2 2 2]) (e := 36) (sz := 25) (cs := [ruleCells 1 ⟨Dl.h5 1, Dl.h5 255⟩ cv2 0, ruleCells 2 ⟨Dl.h5 2, Dl.h5 255⟩ cv6 0]) n11 rfl ?_ trivial (Nat.le_refl _) (show 2 ≤ 140737488355328 from by decide) ?_
    · intro c hc
      simp only [List.mem_cons, List.not_mem_nil, or_false] at hc
      rcases hc with rfl | rfl <;> rfl
    · intro i x c hx hc
      match i, hx, hc with
      | 0, hx, hc => cases hx; cases hc; exact ⟨cv2, rfl, hc3.mono cpsR_ok (fun _ _ => trivial), wr_wf _ _ _ (by decide) (by decide) (by decide) (by decide)⟩
      | 1, hx, hc => cases hx; cases hc; exact ⟨cv6, rfl, hc7.mono cpsR_ok (fun _ _ => trivial), wr_wf _ _ _ (by decide) (by decide) (by decide) (by decide)⟩
  refine OW.call rfl rfl cl38 (Dl.rule_does 2 2 2 (by decide) w10) ?_
  rintro _ w13 ⟨cv14, rfl, hc15, f16⟩
  have hl12 := hl12.frame ruleR_ok f16 (fun _ _ h => h)
  refine OW.call rfl rfl cl38 (Dl.rule_does 3 3 3 (by decide) w13) ?_
  rintro _ w17 ⟨cv18, rfl, hc19, f20⟩
  have hl12 := hl12.frame ruleR_ok f20 (fun _ _ h => h)
  have hc15 := hc15.frame cpsR_ok f20 (fun _ _ h => h)
  refine OW.buildSlice (z := .agg (ruleCells 0 ⟨fun _ => 0, fun _ => 0⟩ (.slice none 0 0) 0).toArray) rfl el22 zr36 rfl rfl rfl rfl rfl ?_
  intro b21 w22 n23
  have hl12 := hl12.frame ruleR_ok n23.fr (fun _ _ h => h)
  have hc15 := hc15.frame cpsR_ok n23.fr (fun _ _ h => h)
  have hc19 := hc19.frame cpsR_ok n23.fr (fun _ _ h => h)
  have hl24 : rulesR AllB w22 (.slice (some ⟨b21, 0, none⟩) 2 2) [wr 2 2 2, wr 3 3 3] := by
    refine SlR.ofNew (R := ruleR) (X := AllB) (xs := [wr 2 2 2, wr 3 3 3]) (e := 36) (sz := 25) (cs := [ruleCells 2 ⟨Dl.h5 2, Dl.h5 255⟩ cv14 0, ruleCells 3 ⟨Dl.h5 3, Dl.h5 255⟩ cv18 0]) n23 rfl ?_ trivial (Nat.le_refl _) (show 2 ≤ 140737488355328 from by decide) ?_
    · intro c hc
      simp only [List.mem_cons, List.not_mem_nil, or_false] at hc
      rcases hc with rfl | rfl <;> rfl
    · intro i x c hx hc
      match i, hx, hc with
      | 0, hx, hc => cases hx; cases hc; exact ⟨cv14, rfl, hc15.mono cpsR_ok (fun _ _ => trivial), wr_wf _ _ _ (by decide) (by decide) (by decide) (by decide)⟩
      | 1, hx, hc => cases hx; cases hc; exact ⟨cv18, rfl, hc19.mono cpsR_ok (fun _ _ => trivial), wr_wf _ _ _ (by decide) (by decide) (by decide) (by decide)⟩
  refine OW.call rfl rfl cl16 (Dk.between_does w22 ((rulesR_tight hl12).mono ruleR_ok (fun _ h => h.2)) ((rulesR_tight hl24).mono ruleR_ok (fun _ h => h.2)) (show 2 ≤ 100000000 from by decide) (show 2 ≤ 100000000 from by decide) (wrs _ rfl)) ?_
  rintro v28 w25 ⟨hm26, f27⟩
  rw [bw1] at hm26
  obtain ⟨p29, c30, hv, _⟩ := hm26.shape
  subst hv
  obtain ⟨bq, oq, hpq, hrq⟩ := SlR.at' hm26 (i := 0) (by decide)
  subst hpq
  obtain ⟨c1', sg1, rc1, ec1, cv1', er1, hcx1, _⟩ := hrq 0 _ rfl
  subst er1
  subst ec1
  obtain ⟨c2', sg2, rc2, ec2, cv2', er2, hcx2, _⟩ := hrq 1 _ rfl
  subst er2
  subst ec2
  obtain ⟨px, cx, hvx, _⟩ := hcx1.shape
  subst hvx
  refine OW.assign rfl rfl ?_
  refine OW.nil ?_
  refine NX.seq ?_
  refine CW.seq ?_
  refine CW.region ?_
  refine OW.call rfl rfl cl38 (Dl.rule_does 1 1 1 (by decide) w25) ?_
  rintro _ w31 ⟨cv32, rfl, hc33, f34⟩
  have sg1 := sg1.frame f34 id
  have sg2 := sg2.frame f34 id
  refine OW.buildSlice (z := .agg (ruleCells 0 ⟨fun _ => 0, fun _ => 0⟩ (.slice none 0 0) 0).toArray) rfl el22 zr36 rfl rfl rfl rfl rfl ?_
  intro b35 w36 n37
  have sg1 := sg1.frame n37.fr id
  have sg2 := sg2.frame n37.fr id
  have hc33 := hc33.frame cpsR_ok n37.fr (fun _ _ h => h)
  have hl38 : rulesR AllB w36 (.slice (some ⟨b35, 0, none⟩) 1 1) [wr 1 1 1] := by
    refine SlR.ofNew (R := ruleR) (X := AllB) (xs := [wr 1 1 1]) (e := 36) (sz := 25) (cs := [ruleCells 1 ⟨Dl.h5 1, Dl.h5 255⟩ cv32 0]) n37 rfl ?_ trivial (Nat.le_refl _) (show 1 ≤ 140737488355328 from by decide) ?_
    · intro c hc
      simp only [List.mem_cons, List.not_mem_nil, or_false] at hc
      rcases hc with rfl <;> rfl
    · intro i x c hx hc
      match i, hx, hc with
      | 0, hx, hc => cases hx; cases hc; exact ⟨cv32, rfl, hc33.mono cpsR_ok (fun _ _ => trivial), wr_wf _ _ _ (by decide) (by decide) (by decide) (by decide)⟩
  refine OW.call rfl rfl cl38 (Dl.rule_does 1 1 2 (by decide) w36) ?_
  rintro _ w39 ⟨cv40, rfl, hc41, f42⟩
  have sg1 := sg1.frame f42 id
  have sg2 := sg2.frame f42 id
  have hl38 := hl38.frame ruleR_ok f42 (fun _ _ h => h)
  refine OW.buildSlice (z := .agg (ruleCells 0 ⟨fun _ => 0, fun _ => 0⟩ (.slice none 0 0) 0).toArray) rfl el22 zr36 rfl rfl rfl rfl rfl ?_
  intro b43 w44 n45
  have sg1 := sg1.frame n45.fr id
  have sg2 := sg2.frame n45.fr id
  have hl38 := hl38.frame ruleR_ok n45.fr (fun _ _ h => h)
  have hc41 := hc41.frame cpsR_ok n45.fr (fun _ _ h => h)
  have hl46 : rulesR AllB w44 (.slice (some ⟨b43, 0, none⟩) 1 1) [wr 1 1 2] := by
    refine SlR.ofNew (R := ruleR) (X := AllB) (xs := [wr 1 1 2]) (e := 36) (sz := 25) (cs := [ruleCells 1 ⟨Dl.h5 1, Dl.h5 255⟩ cv40 0]) n45 rfl ?_ trivial (Nat.le_refl _) (show 1 ≤ 140737488355328 from by decide) ?_
    · intro c hc
      simp only [List.mem_cons, List.not_mem_nil, or_false] at hc
      rcases hc with rfl <;> rfl
    · intro i x c hx hc
      match i, hx, hc with
      | 0, hx, hc => cases hx; cases hc; exact ⟨cv40, rfl, hc41.mono cpsR_ok (fun _ _ => trivial), wr_wf _ _ _ (by decide) (by decide) (by decide) (by decide)⟩
  refine OW.call rfl rfl cl16 (Dk.between_does w44 ((rulesR_tight hl38).mono ruleR_ok (fun _ h => h.2)) ((rulesR_tight hl46).mono ruleR_ok (fun _ h => h.2)) (show 1 ≤ 100000000 from by decide) (show 1 ≤ 100000000 from by decide) (wrs _ rfl)) ?_
  rintro v50 w47 ⟨hm48, f49⟩
  have sg1 := sg1.frame f49 id
  have sg2 := sg2.frame f49 id
  rw [bw2] at hm48
  obtain ⟨p51, c52, hv, _⟩ := hm48.shape
  subst hv
  obtain ⟨br, or_, hpr, hrr⟩ := SlR.at' hm48 (i := 0) (by decide)
  subst hpr
  obtain ⟨c3', sg3, rc3, ec3, cv3', er3, _, _⟩ := hrr 0 _ rfl
  subst er3
  subst ec3
  refine OW.assign rfl rfl ?_
  refine OW.nil ?_
  refine NX.seq ?_
  refine CW.seq ?_
  refine CW.seq ?_
  refine CW.region ?_
  refine OW.move rfl rfl ?_
  refine OW.len rfl el26 rfl ?_
  refine OW.neq rfl rfl rfl ?_
  refine OW.slot (s := 17) rfl (show _ = Value.bool false from rfl) ?_
  refine OW.move rfl rfl ?_
  refine OW.gyes rfl rfl ?_
  refine OW.move rfl rfl ?_
  refine OW.gyes rfl rfl ?_
  refine OW.len rfl el26 rfl ?_
  refine OW.gyes rfl rfl ?_
  refine OW.neq rfl rfl rfl ?_
  refine OW.slot (s := 21) rfl (show _ = Value.bool false from rfl) ?_
  refine OW.pickF rfl rfl rfl ?_
  refine OW.move rfl rfl ?_
  refine OW.gyes rfl rfl ?_
  refine OW.call rfl rfl cl38 (Dl.rule_does 1 1 1 (by decide) w47) ?_
  rintro _ w53 ⟨cv54, rfl, hc55, f56⟩
  have sg1 := sg1.frame f56 id
  have sg2 := sg2.frame f56 id
  have sg3 := sg3.frame f56 id
  refine OW.gyes rfl rfl ?_
  refine OW.call rfl rfl cl38 (Dl.rule_does 2 2 2 (by decide) w53) ?_
  rintro _ w57 ⟨cv58, rfl, hc59, f60⟩
  have sg1 := sg1.frame f60 id
  have sg2 := sg2.frame f60 id
  have sg3 := sg3.frame f60 id
  have hc55 := hc55.frame cpsR_ok f60 (fun _ _ h => h)
  refine OW.gyes rfl rfl ?_
  refine OW.buildSlice (z := .agg (ruleCells 0 ⟨fun _ => 0, fun _ => 0⟩ (.slice none 0 0) 0).toArray) rfl el22 zr36 rfl rfl rfl rfl rfl ?_
  intro b61 w62 n63
  have sg1 := sg1.frame n63.fr id
  have sg2 := sg2.frame n63.fr id
  have sg3 := sg3.frame n63.fr id
  have hc55 := hc55.frame cpsR_ok n63.fr (fun _ _ h => h)
  have hc59 := hc59.frame cpsR_ok n63.fr (fun _ _ h => h)
  have hl64 : rulesR AllB w62 (.slice (some ⟨b61, 0, none⟩) 2 2) [wr 1 1 1, wr 2 2 2] := by
    refine SlR.ofNew (R := ruleR) (X := AllB) (xs := [wr 1 1 1, wr 2 2 2]) (e := 36) (sz := 25) (cs := [ruleCells 1 ⟨Dl.h5 1, Dl.h5 255⟩ cv54 0, ruleCells 2 ⟨Dl.h5 2, Dl.h5 255⟩ cv58 0]) n63 rfl ?_ trivial (Nat.le_refl _) (show 2 ≤ 140737488355328 from by decide) ?_
    · intro c hc
      simp only [List.mem_cons, List.not_mem_nil, or_false] at hc
      rcases hc with rfl | rfl <;> rfl
    · intro i x c hx hc
      match i, hx, hc with
      | 0, hx, hc => cases hx; cases hc; exact ⟨cv54, rfl, hc55.mono cpsR_ok (fun _ _ => trivial), wr_wf _ _ _ (by decide) (by decide) (by decide) (by decide)⟩
      | 1, hx, hc => cases hx; cases hc; exact ⟨cv58, rfl, hc59.mono cpsR_ok (fun _ _ => trivial), wr_wf _ _ _ (by decide) (by decide) (by decide) (by decide)⟩
  refine OW.gyes rfl rfl ?_
  refine OW.call rfl rfl cl38 (Dl.rule_does 2 2 2 (by decide) w62) ?_
  rintro _ w65 ⟨cv66, rfl, hc67, f68⟩
  have sg1 := sg1.frame f68 id
  have sg2 := sg2.frame f68 id
  have sg3 := sg3.frame f68 id
  have hl64 := hl64.frame ruleR_ok f68 (fun _ _ h => h)
  refine OW.gyes rfl rfl ?_
  refine OW.call rfl rfl cl38 (Dl.rule_does 1 1 1 (by decide) w65) ?_
  rintro _ w69 ⟨cv70, rfl, hc71, f72⟩
  have sg1 := sg1.frame f72 id
  have sg2 := sg2.frame f72 id
  have sg3 := sg3.frame f72 id
  have hl64 := hl64.frame ruleR_ok f72 (fun _ _ h => h)
  have hc67 := hc67.frame cpsR_ok f72 (fun _ _ h => h)
  refine OW.gyes rfl rfl ?_
  refine OW.buildSlice (z := .agg (ruleCells 0 ⟨fun _ => 0, fun _ => 0⟩ (.slice none 0 0) 0).toArray) rfl el22 zr36 rfl rfl rfl rfl rfl ?_
  intro b73 w74 n75
  have sg1 := sg1.frame n75.fr id
  have sg2 := sg2.frame n75.fr id
  have sg3 := sg3.frame n75.fr id
  have hl64 := hl64.frame ruleR_ok n75.fr (fun _ _ h => h)
  have hc67 := hc67.frame cpsR_ok n75.fr (fun _ _ h => h)
  have hc71 := hc71.frame cpsR_ok n75.fr (fun _ _ h => h)
  have hl76 : rulesR AllB w74 (.slice (some ⟨b73, 0, none⟩) 2 2) [wr 2 2 2, wr 1 1 1] := by
    refine SlR.ofNew (R := ruleR) (X := AllB) (xs := [wr 2 2 2, wr 1 1 1]) (e := 36) (sz := 25) (cs := [ruleCells 2 ⟨Dl.h5 2, Dl.h5 255⟩ cv66 0, ruleCells 1 ⟨Dl.h5 1, Dl.h5 255⟩ cv70 0]) n75 rfl ?_ trivial (Nat.le_refl _) (show 2 ≤ 140737488355328 from by decide) ?_
    · intro c hc
      simp only [List.mem_cons, List.not_mem_nil, or_false] at hc
      rcases hc with rfl | rfl <;> rfl
    · intro i x c hx hc
      match i, hx, hc with
      | 0, hx, hc => cases hx; cases hc; exact ⟨cv66, rfl, hc67.mono cpsR_ok (fun _ _ => trivial), wr_wf _ _ _ (by decide) (by decide) (by decide) (by decide)⟩
      | 1, hx, hc => cases hx; cases hc; exact ⟨cv70, rfl, hc71.mono cpsR_ok (fun _ _ => trivial), wr_wf _ _ _ (by decide) (by decide) (by decide) (by decide)⟩
  refine OW.gyes rfl rfl ?_
  refine OW.call rfl rfl cl16 (Dk.between_does w74 ((rulesR_tight hl64).mono ruleR_ok (fun _ h => h.2)) ((rulesR_tight hl76).mono ruleR_ok (fun _ h => h.2)) (show 2 ≤ 100000000 from by decide) (show 2 ≤ 100000000 from by decide) (wrs _ rfl)) ?_
  rintro v80 w77 ⟨hm78, f79⟩
  have sg1 := sg1.frame f79 id
  have sg2 := sg2.frame f79 id
  have sg3 := sg3.frame f79 id
  rw [bw3] at hm78
  obtain ⟨p81, c82, hv, _⟩ := hm78.shape
  subst hv
  refine OW.gyes rfl rfl ?_
  refine OW.len rfl el26 rfl ?_
  refine OW.gyes rfl rfl ?_
  refine OW.neq rfl rfl rfl ?_
  refine OW.slot (s := 32) rfl (show _ = Value.bool false from rfl) ?_
  refine OW.pickF rfl rfl rfl ?_
  refine OW.nil ?_
  refine NX.seq ?_
  refine CW.condF rfl ?_
  refine CW.skip ?_
  refine NX.seq ?_
  refine CW.seq ?_
  refine CW.region ?_
  refine OW.move rfl rfl ?_
  refine OW.indexAddr rfl el26 rfl rfl (⟨by decide, by decide⟩) ?_
  refine OW.fieldAddr rfl fo45_2 rfl ?_
  refine OW.load1 rfl ct38 rfl (sg1.one 2 rfl) ?_
  refine OW.eql rfl rfl rfl ?_
  refine OW.slot (s := 38) rfl (show _ = Value.bool true from rfl) ?_
  refine OW.move rfl rfl ?_
  refine OW.gyes rfl rfl ?_
  refine OW.move rfl rfl ?_
  refine OW.gyes rfl rfl ?_
  refine OW.indexAddr rfl el26 rfl rfl (⟨by decide, by decide⟩) ?_
  refine OW.gyes rfl rfl ?_
  refine OW.fieldAddr rfl fo45_3 rfl ?_
  refine OW.gyes rfl rfl ?_
  refine OW.fieldAddr rfl fo36_0 rfl ?_
  refine OW.gyes rfl rfl ?_
  refine OW.load1 rfl ct3 rfl (sg1.one 3 rfl) ?_
  refine OW.gyes rfl rfl ?_
  refine OW.eql rfl rfl rfl ?_
  refine OW.slot (s := 45) rfl (show _ = Value.bool true from rfl) ?_
  refine OW.pickT rfl rfl rfl ?_
  refine OW.move rfl rfl ?_
  refine OW.gyes rfl rfl ?_
  refine OW.move rfl rfl ?_
  refine OW.gyes rfl rfl ?_
  refine OW.indexAddr rfl el26 rfl rfl (⟨by decide, by decide⟩) ?_
  refine OW.gyes rfl rfl ?_
  refine OW.fieldAddr rfl fo45_3 rfl ?_
  refine OW.gyes rfl rfl ?_
  refine OW.fieldAddr rfl fo36_2 rfl ?_
  refine OW.gyes rfl rfl ?_
  refine OW.load1 rfl ct34 rfl (sg1.one 26 rfl) ?_
  refine OW.gyes rfl rfl ?_
  refine OW.len rfl el34 rfl ?_
  refine OW.gyes rfl rfl ?_
  refine OW.eql rfl rfl rfl ?_
  refine OW.slot (s := 54) rfl (show _ = Value.bool true from rfl) ?_
  refine OW.pickT rfl rfl rfl ?_
  refine OW.move rfl rfl ?_
  refine OW.gyes rfl rfl ?_
  refine OW.move rfl rfl ?_
  refine OW.gyes rfl rfl ?_
  refine OW.indexAddr rfl el26 rfl rfl (⟨by decide, by decide⟩) ?_
  refine OW.gyes rfl rfl ?_
  refine OW.fieldAddr rfl fo45_2 rfl ?_
  refine OW.gyes rfl rfl ?_
  refine OW.load1 rfl ct38 rfl (sg2.one 2 rfl) ?_
  refine OW.gyes rfl rfl ?_
  refine OW.eql rfl rfl rfl ?_
  refine OW.slot (s := 61) rfl (show _ = Value.bool true from rfl) ?_
  refine OW.pickT rfl rfl rfl ?_
  refine OW.move rfl rfl ?_
  refine OW.gyes rfl rfl ?_
  refine OW.move rfl rfl ?_
  refine OW.gyes rfl rfl ?_
  refine OW.indexAddr rfl el26 rfl rfl (⟨by decide, by decide⟩) ?_
  refine OW.gyes rfl rfl ?_
  refine OW.fieldAddr rfl fo45_3 rfl ?_
  refine OW.gyes rfl rfl ?_
  refine OW.fieldAddr rfl fo36_0 rfl ?_
  refine OW.gyes rfl rfl ?_
  refine OW.load1 rfl ct3 rfl (sg2.one 3 rfl) ?_
  refine OW.gyes rfl rfl ?_
  refine OW.eql rfl rfl rfl ?_
  refine OW.slot (s := 69) rfl (show _ = Value.bool true from rfl) ?_
  refine OW.pickT rfl rfl rfl ?_
  refine OW.move rfl rfl ?_
  refine OW.gyes rfl rfl ?_
  refine OW.move rfl rfl ?_
  refine OW.gyes rfl rfl ?_
  refine OW.indexAddr rfl el26 rfl rfl (⟨by decide, by decide⟩) ?_
  refine OW.gyes rfl rfl ?_
  refine OW.fieldAddr rfl fo45_2 rfl ?_
  refine OW.gyes rfl rfl ?_
  refine OW.load1 rfl ct38 rfl (sg3.one 2 rfl) ?_
  refine OW.gyes rfl rfl ?_
  refine OW.eql rfl rfl rfl ?_
  refine OW.slot (s := 76) rfl (show _ = Value.bool true from rfl) ?_
  refine OW.pickT rfl rfl rfl ?_
  refine OW.assign rfl rfl ?_
  refine OW.nil ?_
  refine NX.seq ?_
  refine CW.ret ?_
  exact NX.ret1 rfl rfl (⟨rfl, (Fr0.trans (Fr0.trans (Fr0.trans (Fr0.trans (Fr0.trans (Fr0.trans (Fr0.trans (Fr0.trans (Fr0.trans (Fr0.trans (Fr0.trans (Fr0.trans (Fr0.trans (Fr0.trans (Fr0.trans (Fr0.trans (Fr0.trans (Fr0.trans f4 f8) n11.fr) f16) f20) n23.fr) f27) f34) n37.fr) f42) n45.fr) f49) f56) f60) n63.fr) f68) f72) n75.fr) f79)⟩)

end Go.Eng.Dm
