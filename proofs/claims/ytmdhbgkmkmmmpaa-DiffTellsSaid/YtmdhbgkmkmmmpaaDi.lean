/-
  Reverse and Backward, stepped through.
  No condition.
-/
import Derived.Test.YtmdhbgkmkmmmpaaDat3
import Derived.Test.YtmdhbgkmkmmmpaaEngR
import Derived.RangeFuncBound
import Derived.Test.YtmdhbgkmkmmmpaaProg
import Derived.KernelRfl
namespace Go.Eng.Di
open Go Go.Eng Go.Proofs
theorem MIX : Try.prog.follows .mixedOrders = true := by kernel_rfl

theorem ag36 : aggSz Try.prog 36 = some 25 := by kernel_rfl
theorem ag82 : aggSz Try.prog 82 = some 23 := by kernel_rfl
theorem ct22 : cellTy Try.prog 22 = true := by kernel_rfl
theorem el22 : elemIs Try.prog 22 = some (36, 25) := by kernel_rfl
theorem el78 : elemIs Try.prog 78 = some (82, 23) := by kernel_rfl
theorem sz82 : sizeIs Try.prog 82 = some 23 := by kernel_rfl

def revI (n i k : Nat) : Nat := if k < i ∨ n - i ≤ k then n - 1 - k else k
theorem revI_zero (n : Nat) : revI n 0 = fun k => if n ≤ k then n - 1 - k else k := by
  funext k; simp only [revI]
  by_cases c : n ≤ k
  · rw [if_pos (by omega), if_pos c]
  · rw [if_neg (by omega), if_neg c]
theorem revI_next (n i : Nat) (h : 2 * i + 1 < n) : revI n (i + 1) = sw (revI n i) i (n - 1 - i) := by
  funext k; simp only [revI, sw]
  repeat' split
  all_goals first | rfl | (exfalso; omega) | omega
theorem revI_end (n i : Nat) (h : n ≤ 2 * i + 1) (k : Nat) (hk : k < n) : revI n i k = n - 1 - k := by
  simp only [revI]; split <;> omega

theorem reverse_does {w : World} {b n cap T : Nat} {pre post : List Value} {f : Nat → List Value} (hn : n ≤ 140737488355328) (hA : Arr w b T 23 n pre post f) :
    Does Try.prog 82 [.slice (some ⟨b, pre.length, none⟩) n cap] w fun _ w' => Arr w' b T 23 n pre post (fun k => f (n - 1 - k)) ∧ Fr (fun k => k = b) w w' := by
  have hA' : Arr w b T 23 n pre post (fun k => f ((fun k => if n ≤ k then n - 1 - k else k) k)) :=
    ⟨by rw [cat_congr (g := f) (fun k hk => by simp only; rw [if_neg (by omega)])]; exact hA.bk, fun k hk => by have := hA.len k hk; simp only; rwa [if_neg (by omega)], fun k hk => by have := hA.one k hk; simp only; rwa [if_neg (by omega)]⟩
  refine Does.enter Try.func82 rfl rfl ?_
  show CW _ _ _ _ 28 [] [(0, .slice (some ⟨b, pre.length, none⟩) n cap)] w
  refine CW.seq ?_
  refine CW.region ?_
  refine OW.move rfl rfl ?_
  refine OW.len rfl el78 rfl ?_
  refine OW.sub' rfl rfl rfl (by omega) ?_
  refine OW.assign rfl rfl ?_
  refine OW.assign rfl rfl ?_
  refine OW.nil ?_
  refine NX.seq ?_
  refine CW.block ?_
  refine CW.loop (α := Nat) (fun i => [(0, .slice (some ⟨b, pre.length, none⟩) n cap), (2, .int .i64 ((i : Nat) : Int)), (3, .int .i64 ((n : Int) - 1 - ((i : Nat) : Int)))]) (fun i w' => 2 * i ≤ n ∧ Arr w' b T 23 n pre post (fun k => f (revI n i k)) ∧ Fr (fun k => k = b) w w') (fun i => n - i) 0 (Sub.cons rfl (Sub.cons rfl (Sub.cons (congrArg (fun z : Int => some (Value.int .i64 z)) (by omega)) (Sub.nil _)))) ⟨by omega, by rw [revI_zero n]; exact hA', Fr.refl _ _⟩ ?_
  rintro i w' ⟨hi, hA1, f1⟩
  refine CW.seq ?_
  refine CW.seq ?_
  refine CW.region ?_
  refine OW.move rfl rfl ?_
  refine OW.move rfl rfl ?_
  refine OW.lss rfl rfl rfl ?_
  refine OW.nil ?_
  refine NX.seq ?_
  refine CW.cond rfl (fun hij => ?_) (fun hij => ?_)
  · refine CW.slot (s := 3) rfl (congrArg (Value.int .i64) (show (_ : Int) = ((n - 1 - i : Nat) : Int) by omega)) ?_
    refine CW.skip ?_
    refine NX.seq ?_
    refine CW.seq ?_
    refine CW.block ?_
    refine CW.drawG [⟨0, 0, false⟩, ⟨0, 0, false⟩, ⟨0, 1, false⟩, ⟨0, 1, false⟩, ⟨0, 0, false⟩, ⟨0, 0, false⟩, ⟨0, 0, false⟩, ⟨0, 0, false⟩, ⟨0, 0, false⟩, ⟨0, 0, false⟩, ⟨0, 0, false⟩, ⟨0, 0, false⟩, ⟨0, 0, false⟩, ⟨0, 0, true⟩, ⟨1, 1, false⟩, ⟨1, 1, true⟩] 2 [.slice (some ⟨b, pre.length, none⟩) n cap, .int .i64 ((i : Nat) : Int), .slice (some ⟨b, pre.length, none⟩) n cap, .int .i64 ((n - 1 - i : Nat) : Int), .slice (some ⟨b, pre.length, none⟩) n cap, .int .i64 ((n - 1 - i : Nat) : Int), .pointer (some ⟨b, pre.length + (n - 1 - i) * 23, none⟩), .agg (f ((revI n i) (n - 1 - i))).toArray, .slice (some ⟨b, pre.length, none⟩) n cap, .int .i64 ((i : Nat) : Int), .pointer (some ⟨b, pre.length + (i) * 23, none⟩), .agg (f ((revI n i) (i))).toArray, .pointer (some ⟨b, pre.length + (i) * 23, none⟩), .tuple #[], .pointer (some ⟨b, pre.length + (n - 1 - i) * 23, none⟩), .tuple #[]] (fun zc zw => match zc with | 0 => Fr0 w' zw | 1 => Fr (fun k => k = b) w' zw ∧ Arr zw b T 23 n pre post (fun zk => if zk = i then f ((revI n i) (n - 1 - i)) else f ((revI n i) zk)) | _ => Fr (fun k => k = b) w' zw ∧ Arr zw b T 23 n pre post (fun zk => f (sw (revI n i) (i) (n - 1 - i) zk))) MIX rfl rfl (Fr.drew w') ?_ ?_
    · refine drawAll.cons (fun Lt zc w1 h1 h2 hr => ?_) ?_
      · obtain rfl : zc = 0 := Nat.le_antisymm h2 h1
        exact OW.move rfl rfl (OW.nil (NX.givesD rfl hr))
      refine drawAll.cons (fun Lt zc w1 h1 h2 hr => ?_) ?_
      · obtain rfl : zc = 0 := Nat.le_antisymm h2 h1
        exact OW.move rfl rfl (OW.nil (NX.givesD rfl hr))
      refine drawAll.cons (fun Lt zc w1 h1 h2 hr => ?_) ?_
      · exact OW.move rfl rfl (OW.nil (NX.givesD rfl hr))
      refine drawAll.cons (fun Lt zc w1 h1 h2 hr => ?_) ?_
      · exact OW.move rfl rfl (OW.nil (NX.givesD rfl hr))
      refine drawAll.cons (fun Lt zc w1 h1 h2 hr => ?_) ?_
      · obtain rfl : zc = 0 := Nat.le_antisymm h2 h1
        exact OW.move rfl rfl (OW.nil (NX.givesD rfl hr))
      refine drawAll.cons (fun Lt zc w1 h1 h2 hr => ?_) ?_
      · obtain rfl : zc = 0 := Nat.le_antisymm h2 h1
        exact OW.move rfl rfl (OW.nil (NX.givesD rfl hr))
      refine drawAll.cons (fun Lt zc w1 h1 h2 hr => ?_) ?_
      · obtain rfl : zc = 0 := Nat.le_antisymm h2 h1
        exact OW.indexAddr rfl el78 rfl rfl ⟨by omega, by omega⟩ (OW.nil (NX.givesD rfl hr))
      refine drawAll.cons (fun Lt zc w1 h1 h2 hr => ?_) ?_
      · obtain rfl : zc = 0 := Nat.le_antisymm h2 h1
        exact OW.loadArrA rfl ag82 rfl (hA1.frame hr id) (show n - 1 - i < n by omega) (OW.nil (NX.givesD rfl hr))
      refine drawAll.cons (fun Lt zc w1 h1 h2 hr => ?_) ?_
      · obtain rfl : zc = 0 := Nat.le_antisymm h2 h1
        exact OW.move rfl rfl (OW.nil (NX.givesD rfl hr))
      refine drawAll.cons (fun Lt zc w1 h1 h2 hr => ?_) ?_
      · obtain rfl : zc = 0 := Nat.le_antisymm h2 h1
        exact OW.move rfl rfl (OW.nil (NX.givesD rfl hr))
      refine drawAll.cons (fun Lt zc w1 h1 h2 hr => ?_) ?_
      · obtain rfl : zc = 0 := Nat.le_antisymm h2 h1
        exact OW.indexAddr rfl el78 rfl rfl ⟨by omega, by omega⟩ (OW.nil (NX.givesD rfl hr))
      refine drawAll.cons (fun Lt zc w1 h1 h2 hr => ?_) ?_
      · obtain rfl : zc = 0 := Nat.le_antisymm h2 h1
        exact OW.loadArrA rfl ag82 rfl (hA1.frame hr id) (show i < n by omega) (OW.nil (NX.givesD rfl hr))
      refine drawAll.cons (fun Lt zc w1 h1 h2 hr => ?_) ?_
      · obtain rfl : zc = 0 := Nat.le_antisymm h2 h1
        exact OW.indexAddr rfl el78 rfl rfl ⟨by omega, by omega⟩ (OW.nil (NX.givesD rfl hr))
      refine drawAll.cons (fun Lt zc w1 h1 h2 hr => ?_) ?_
      · obtain rfl : zc = 0 := Nat.le_antisymm h2 h1
        refine OW.storeArrA rfl rfl sz82 (hA1.frame hr id) (show i < n by omega) (hA1.len (n - 1 - i) (by omega)) (hA1.one (n - 1 - i) (by omega)) fun w2 f2 a2 => ?_
        exact OW.nil (NX.givesN ⟨(Fr0.any hr).trans f2, a2⟩)
      refine drawAll.cons (fun Lt zc w1 h1 h2 hr => ?_) ?_
      · obtain rfl : zc = 1 := Nat.le_antisymm h2 h1
        exact OW.indexAddr rfl el78 rfl rfl ⟨by omega, by omega⟩ (OW.nil (NX.givesD rfl hr))
      refine drawAll.cons (fun Lt zc w1 h1 h2 hr => ?_) ?_
      · obtain rfl : zc = 1 := Nat.le_antisymm h2 h1
        refine OW.storeArrA rfl rfl sz82 hr.2 (show n - 1 - i < n by omega) (hA1.len (i) (by omega)) (hA1.one (i) (by omega)) fun w2 f2 a2 => ?_
        exact OW.nil (NX.givesN ⟨hr.1.trans f2, a2.eq (sw_eq f (revI n i) (show i ≠ n - 1 - i by omega))⟩)
      exact drawAll.nil
    intro w1 hr
    refine NX.blockN ?_
    refine NX.seq ?_
    refine CW.region ?_
    refine OW.move rfl rfl ?_
    refine OW.add rfl rfl rfl (by omega) ?_
    refine OW.move rfl rfl ?_
    refine OW.sub' rfl rfl rfl (by omega) ?_
    refine OW.assign rfl rfl ?_
    refine OW.assign rfl rfl ?_
    refine OW.nil ?_
    refine NX.slot (s := 3) rfl (congrArg (Value.int .i64) (show (_ : Int) = (n : Int) - 1 - ((i + 1 : Nat) : Int) by omega)) ?_
    exact NX.loop (i + 1) ((Sub.cons rfl (Sub.cons rfl (Sub.cons rfl (Sub.nil _))))) (⟨by omega, hr.2.eq (fun k => by rw [revI_next n i (by omega)]), f1.trans hr.1⟩) (by omega)
  · refine CW.exit ?_
    refine NX.thenExit ?_
    refine NX.thenExit ?_
    refine NX.blockEq ?_
    exact NX.ret0 (.inr rfl) rfl (⟨⟨by rw [cat_congr (g := fun k => f (revI n i k)) (fun k hk => by rw [revI_end n i (by omega) k hk])]; exact hA1.bk, fun k hk => by have := hA1.len k hk; rwa [revI_end n i (by omega) k hk] at this, fun k hk => by have := hA1.one k hk; rwa [revI_end n i (by omega) k hk] at this⟩, f1⟩)

theorem reverse0_does {w : World} {pa : Option Addr} {cap : Nat} : Does Try.prog 82 [.slice pa 0 cap] w fun _ w' => w' = w := by
  refine Does.enter Try.func82 rfl rfl ?_
  show CW _ _ _ _ 28 [] [(0, .slice pa 0 cap)] w
  refine CW.seq ?_
  refine CW.region ?_
  refine OW.move rfl rfl ?_
  refine OW.len rfl el78 rfl ?_
  refine OW.sub' rfl rfl rfl (by omega) ?_
  refine OW.assign rfl rfl ?_
  refine OW.assign rfl rfl ?_
  refine OW.nil ?_
  refine NX.seq ?_
  refine CW.block ?_
  refine CW.loop (α := Nat) (fun (_ : Nat) => [(0, .slice pa 0 cap), (2, .int .i64 0), (3, .int .i64 (-1))]) (fun _ u => u = w) (fun _ => 0) 0 (Sub.cons rfl (Sub.cons rfl (Sub.cons rfl (Sub.nil _)))) rfl ?_
  rintro _ u rfl
  refine CW.seq ?_
  refine CW.seq ?_
  refine CW.region ?_
  refine OW.move rfl rfl ?_
  refine OW.move rfl rfl ?_
  refine OW.lss rfl rfl rfl ?_
  refine OW.nil ?_
  refine NX.seq ?_
  refine CW.cond rfl (fun h => ?_) (fun h => ?_)
  · omega
  · refine CW.exit ?_
    refine NX.thenExit ?_
    refine NX.thenExit ?_
    refine NX.blockEq ?_
    exact NX.ret0 (.inr rfl) rfl (rfl)

theorem backward_does (pa : Option Addr) (n cap : Nat) (w : World) : Does Try.prog 81 [.slice pa n cap] w fun v w' => ∃ b1, v = .func (.func 130) #[] #[.pointer (some ⟨b1, 0, none⟩)] ∧ w'.cell? ⟨b1, 0, none⟩ = some (.slice pa n cap) ∧ Fr0 w w' ∧ w.heap.size ≤ b1 ∧ b1 < w'.heap.size := by
  refine Does.enter Try.func81 rfl rfl ?_
  show CW _ _ _ _ 4 [] [(0, .slice pa n cap)] w
  refine CW.seq ?_
  refine CW.region ?_
  refine OW.box rfl rfl ?_
  intro b1 w1 n1
  refine OW.assign rfl rfl ?_
  refine OW.nil ?_
  refine NX.seq ?_
  refine CW.seq ?_
  refine CW.region ?_
  refine OW.makeFunc (us := []) (vs := [.pointer (some ⟨b1, 0, none⟩)]) rfl rfl rfl ?_
  refine OW.assign rfl rfl ?_
  refine OW.nil ?_
  refine NX.seq ?_
  refine CW.ret ?_
  exact NX.ret1 rfl rfl (⟨b1, rfl, Bk.cell (cs := [.slice pa n cap]) n1.bk rfl, n1.fr, Nat.le_of_eq n1.fresh.symm, lt_of_here n1.here⟩)

def RDs (n cap b1 : Nat) (pa : Option Addr) (cs : Nat → List Value) (u : World) : Prop := u.cell? ⟨b1, 0, none⟩ = some (.slice pa n cap) ∧ ∃ b o, (0 < n → pa = some ⟨b, o, none⟩) ∧ ∀ i, i < n → Seg u b (o + i * 25) (cs i) ∧ (cs i).length = 25

theorem backward1_does {n cap b1 : Nat} {pa : Option Addr} {cs : Nat → List Value} (hn : n ≤ 140737488355328) (l : Nat) (J : Nat → World → Prop) (W : World)
    (hy : ∀ k W1, k < n → J k W1 → YieldAt Fence.wide 0 Try.prog l #[.int .i64 ((n - 1 - k : Nat) : Int), .agg (cs (n - 1 - k)).toArray] W1 (fun e W' => e = .returned (.bool true) ∧ J (k + 1) W'))
    (hRD : ∀ k W1, J k W1 → RDs n cap b1 pa cs W1) (h0 : J 0 W) : Does Try.prog 130 [.func (.yield l) #[] #[], .pointer (some ⟨b1, 0, none⟩)] W fun _ W' => J n W' := by
  refine Does.enter Try.func130 rfl rfl ?_
  show CW _ _ _ _ 19 [] [(0, .func (.yield l) #[] #[]), (1, .pointer (some ⟨b1, 0, none⟩))] W
  refine CW.seq ?_
  refine CW.region ?_
  refine OW.load1 rfl ct22 rfl ((hRD 0 W h0).1) ?_
  refine OW.len rfl el22 rfl ?_
  refine OW.sub' rfl rfl rfl (by omega) ?_
  refine OW.assign rfl rfl ?_
  refine OW.nil ?_
  refine NX.seq ?_
  refine CW.block ?_
  refine CW.loop (α := Nat) (fun k => [(0, .func (.yield l) #[] #[]), (1, .pointer (some ⟨b1, 0, none⟩)), (3, .int .i64 ((n : Int) - 1 - ((k : Nat) : Int)))]) (fun k u => k ≤ n ∧ J k u) (fun k => n - k) 0 (Sub.cons rfl (Sub.cons rfl (Sub.cons (congrArg (fun z : Int => some (Value.int .i64 z)) (by omega)) (Sub.nil _)))) ⟨by omega, h0⟩ ?_
  rintro k u ⟨hk, hJ⟩
  refine CW.seq ?_
  refine CW.seq ?_
  refine CW.region ?_
  refine OW.move rfl rfl ?_
  refine OW.geq rfl rfl rfl ?_
  refine OW.nil ?_
  refine NX.seq ?_
  refine CW.cond rfl (fun hge => ?_) (fun hge => ?_)
  · have hkn : k < n := by omega
    obtain ⟨hc, b, o, hp, hseg⟩ := hRD k u hJ
    obtain ⟨hs, hl⟩ := hseg (n - 1 - k) (by omega)
    have hp := hp (by omega)
    subst hp
    refine CW.slot (s := 3) rfl (congrArg (Value.int .i64) (show (_ : Int) = ((n - 1 - k : Nat) : Int) by omega)) ?_
    refine CW.skip ?_
    refine NX.seq ?_
    refine CW.seq ?_
    refine CW.block ?_
    refine CW.seq ?_
    refine CW.region ?_
    refine OW.move rfl rfl ?_
    refine OW.move rfl rfl ?_
    refine OW.load1 rfl ct22 rfl (hc) ?_
    refine OW.move rfl rfl ?_
    refine OW.indexAddr rfl el22 rfl rfl (⟨by omega, by omega⟩) ?_
    refine OW.loadA rfl ag36 rfl (hs) (hl) ?_
    refine OW.yield (R := fun v w' => v = .bool true ∧ J (k + 1) w') rfl rfl rfl ((hy k u hkn hJ).mono fun e w' h => ⟨_, h.1, rfl, h.2⟩) ?_
    rintro _ w2 ⟨rfl, hJ2⟩
    refine OW.not rfl rfl ?_
    refine OW.nil ?_
    refine NX.seq ?_
    refine CW.condF rfl ?_
    refine CW.skip ?_
    refine NX.blockN ?_
    refine NX.seq ?_
    refine CW.region ?_
    refine OW.move rfl rfl ?_
    refine OW.sub' rfl rfl rfl (by omega) ?_
    refine OW.assign rfl rfl ?_
    refine OW.nil ?_
    refine NX.slot (s := 3) rfl (congrArg (Value.int .i64) (show (_ : Int) = (n : Int) - 1 - ((k + 1 : Nat) : Int) by omega)) ?_
    exact NX.loop (k + 1) ((Sub.cons rfl (Sub.cons rfl (Sub.cons rfl (Sub.nil _))))) (⟨by omega, hJ2⟩) (by omega)
  · refine CW.exit ?_
    refine NX.thenExit ?_
    refine NX.thenExit ?_
    refine NX.blockEq ?_
    have e : k = n := by omega
    subst e
    exact NX.ret0 (.inr rfl) rfl (hJ)

end Go.Eng.Di
