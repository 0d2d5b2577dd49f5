/-
  Stable sorting of one element type, stepped through.
  No condition.
-/
import Derived.Test.YtmdhbgkmkmmmpaaEngI
import Derived.Test.YtmdhbgkmkmmmpaaProg
import Derived.KernelRfl
namespace Go.Eng.SI
open Go Go.Eng Go.Proofs
theorem MIX : Try.prog.follows .mixedOrders = true := by kernel_rfl

theorem ag137 : aggSz Try.prog 137 = some 2 := by kernel_rfl
theorem cl142 : callable Try.prog 142 = true := by kernel_rfl
theorem cl146 : callable Try.prog 146 = true := by kernel_rfl
theorem cl147 : callable Try.prog 147 = true := by kernel_rfl
theorem cl150 : callable Try.prog 150 = true := by kernel_rfl
theorem cl154 : callable Try.prog 154 = true := by kernel_rfl
theorem el135 : elemIs Try.prog 135 = some (137, 2) := by kernel_rfl
theorem in101 : Try.prog.underlying 101 = some (.int .u64) := by kernel_rfl
theorem in3 : Try.prog.underlying 3 = some (.int .i64) := by kernel_rfl
theorem sz137 : sizeIs Try.prog 137 = some 2 := by kernel_rfl
theorem un101 : (Try.prog.underlying 101).isSome = true := by kernel_rfl
theorem un3 : (Try.prog.underlying 3).isSome = true := by kernel_rfl

theorem swapRange_SI {w0 w : World} {b T n cap : Nat} {pre post : List Value} {xs : Nat → List Value} {p : Nat → Nat} {cv : Value} (hs : SS w0 w b T 2 n pre post xs p) (a c m : Nat) (hac : a + m ≤ c) (hc : c + m ≤ n) (hn : n ≤ 140737488355328) :
    Does Try.prog 154 [.slice (some ⟨b, pre.length, none⟩) n cap, .int .i64 ((a : Nat) : Int), .int .i64 ((c : Nat) : Int), .int .i64 ((m : Nat) : Int), cv] w fun _ w' => SS w0 w' b T 2 n pre post xs (swr p a c m) := by
  refine Does.enter Try.func154 rfl rfl ?_
  show CW _ _ _ _ 38 [] [(0, .slice (some ⟨b, pre.length, none⟩) n cap), (1, .int .i64 ((a : Nat) : Int)), (2, .int .i64 ((c : Nat) : Int)), (3, .int .i64 ((m : Nat) : Int)), (4, cv)] w
  refine CW.seq ?_
  refine CW.region ?_
  refine OW.assign rfl rfl ?_
  refine OW.nil ?_
  refine NX.seq ?_
  refine CW.block ?_
  refine CW.loop (α := Nat) (fun i => [(0, .slice (some ⟨b, pre.length, none⟩) n cap), (1, .int .i64 ((a : Nat) : Int)), (2, .int .i64 ((c : Nat) : Int)), (3, .int .i64 ((m : Nat) : Int)), (10, .int .i64 ((i : Nat) : Int))]) (fun i w' => i ≤ m ∧ SS w0 w' b T 2 n pre post xs (swr p a c i)) (fun i => m - i) 0 (Sub.cons rfl (Sub.cons rfl (Sub.cons rfl (Sub.cons rfl (Sub.cons rfl (Sub.nil _)))))) ⟨by omega, by rw [swr_zero]; exact hs⟩ ?_
  rintro i w' ⟨hi, hs⟩
  refine CW.seq ?_
  refine CW.seq ?_
  refine CW.region ?_
  refine OW.move rfl rfl ?_
  refine OW.move rfl rfl ?_
  refine OW.lss rfl rfl rfl ?_
  refine OW.nil ?_
  refine NX.seq ?_
  refine CW.cond rfl (fun him => ?_) (fun him => ?_)
  · refine CW.skip ?_
    refine NX.seq ?_
    refine CW.seq ?_
    refine CW.block ?_
    refine CW.drawG [⟨0, 0, false⟩, ⟨0, 0, false⟩, ⟨0, 0, false⟩, ⟨0, 0, false⟩, ⟨0, 1, false⟩, ⟨0, 1, false⟩, ⟨0, 1, false⟩, ⟨0, 1, false⟩, ⟨0, 0, false⟩, ⟨0, 0, false⟩, ⟨0, 0, false⟩, ⟨0, 0, false⟩, ⟨0, 0, false⟩, ⟨0, 0, false⟩, ⟨0, 0, false⟩, ⟨0, 0, false⟩, ⟨0, 0, false⟩, ⟨0, 0, false⟩, ⟨0, 0, false⟩, ⟨0, 0, false⟩, ⟨0, 0, false⟩, ⟨0, 0, true⟩, ⟨1, 1, false⟩, ⟨1, 1, true⟩] 2 [.slice (some ⟨b, pre.length, none⟩) n cap, .int .i64 ((a : Nat) : Int), .int .i64 ((i : Nat) : Int), .int .i64 ((a + i : Nat) : Int), .slice (some ⟨b, pre.length, none⟩) n cap, .int .i64 ((c : Nat) : Int), .int .i64 ((i : Nat) : Int), .int .i64 ((c + i : Nat) : Int), .slice (some ⟨b, pre.length, none⟩) n cap, .int .i64 ((c : Nat) : Int), .int .i64 ((i : Nat) : Int), .int .i64 ((c + i : Nat) : Int), .pointer (some ⟨b, pre.length + (c + i) * 2, none⟩), .agg (xs ((swr p a c i) (c + i))).toArray, .slice (some ⟨b, pre.length, none⟩) n cap, .int .i64 ((a : Nat) : Int), .int .i64 ((i : Nat) : Int), .int .i64 ((a + i : Nat) : Int), .pointer (some ⟨b, pre.length + (a + i) * 2, none⟩), .agg (xs ((swr p a c i) (a + i))).toArray, .pointer (some ⟨b, pre.length + (a + i) * 2, none⟩), .tuple #[], .pointer (some ⟨b, pre.length + (c + i) * 2, none⟩), .tuple #[]] (fun zc zw => match zc with | 0 => Fr0 w' zw | 1 => Fr (fun k => k = b) w' zw ∧ Arr zw b T 2 n pre post (fun zk => if zk = a + i then xs ((swr p a c i) (c + i)) else xs ((swr p a c i) zk)) | _ => Fr (fun k => k = b) w' zw ∧ Arr zw b T 2 n pre post (fun zk => xs (sw (swr p a c i) (a + i) (c + i) zk))) MIX rfl rfl (Fr.drew w') ?_ ?_
    · refine drawAll.cons (fun Lt zc w1 h1 h2 hr => ?_) ?_
      · obtain rfl : zc = 0 := Nat.le_antisymm h2 h1
        exact OW.move rfl rfl (OW.nil (NX.givesD rfl hr))
      refine drawAll.cons (fun Lt zc w1 h1 h2 hr => ?_) ?_
      · obtain rfl : zc = 0 := Nat.le_antisymm h2 h1
        exact OW.move rfl rfl (OW.nil (NX.givesD rfl hr))
      refine drawAll.cons (fun Lt zc w1 h1 h2 hr => ?_) ?_
      · obtain rfl : zc = 0 := Nat.le_antisymm h2 h1
        exact OW.move rfl rfl (OW.nil (NX.givesD rfl hr))
      refine drawAll.cons (fun Lt zc w1 h1 h2 hr => ?_) ?_
      · obtain rfl : zc = 0 := Nat.le_antisymm h2 h1
        refine OW.add rfl rfl rfl (by omega) (OW.nil (NX.givesD ?_ hr))
        first | rfl | exact congrArg (Value.int .i64) (by omega)
      refine drawAll.cons (fun Lt zc w1 h1 h2 hr => ?_) ?_
      · exact OW.move rfl rfl (OW.nil (NX.givesD rfl hr))
      refine drawAll.cons (fun Lt zc w1 h1 h2 hr => ?_) ?_
      · exact OW.move rfl rfl (OW.nil (NX.givesD rfl hr))
      refine drawAll.cons (fun Lt zc w1 h1 h2 hr => ?_) ?_
      · exact OW.move rfl rfl (OW.nil (NX.givesD rfl hr))
      refine drawAll.cons (fun Lt zc w1 h1 h2 hr => ?_) ?_
      · refine OW.add rfl rfl rfl (by omega) (OW.nil (NX.givesD ?_ hr))
        first | rfl | exact congrArg (Value.int .i64) (by omega)
      refine drawAll.cons (fun Lt zc w1 h1 h2 hr => ?_) ?_
      · obtain rfl : zc = 0 := Nat.le_antisymm h2 h1
        exact OW.move rfl rfl (OW.nil (NX.givesD rfl hr))
      refine drawAll.cons (fun Lt zc w1 h1 h2 hr => ?_) ?_
      · obtain rfl : zc = 0 := Nat.le_antisymm h2 h1
        exact OW.move rfl rfl (OW.nil (NX.givesD rfl hr))
      refine drawAll.cons (fun Lt zc w1 h1 h2 hr => ?_) ?_
      · obtain rfl : zc = 0 := Nat.le_antisymm h2 h1
        exact OW.move rfl rfl (OW.nil (NX.givesD rfl hr))
      refine drawAll.cons (fun Lt zc w1 h1 h2 hr => ?_) ?_
      · obtain rfl : zc = 0 := Nat.le_antisymm h2 h1
        refine OW.add rfl rfl rfl (by omega) (OW.nil (NX.givesD ?_ hr))
        first | rfl | exact congrArg (Value.int .i64) (by omega)
      refine drawAll.cons (fun Lt zc w1 h1 h2 hr => ?_) ?_
      · obtain rfl : zc = 0 := Nat.le_antisymm h2 h1
        exact OW.indexAddr rfl el135 rfl rfl ⟨by omega, by omega⟩ (OW.nil (NX.givesD rfl hr))
      refine drawAll.cons (fun Lt zc w1 h1 h2 hr => ?_) ?_
      · obtain rfl : zc = 0 := Nat.le_antisymm h2 h1
        exact OW.loadArrA rfl ag137 rfl (hs.arr.frame hr id) (show c + i < n by omega) (OW.nil (NX.givesD rfl hr))
      refine drawAll.cons (fun Lt zc w1 h1 h2 hr => ?_) ?_
      · obtain rfl : zc = 0 := Nat.le_antisymm h2 h1
        exact OW.move rfl rfl (OW.nil (NX.givesD rfl hr))
      refine drawAll.cons (fun Lt zc w1 h1 h2 hr => ?_) ?_
      · obtain rfl : zc = 0 := Nat.le_antisymm h2 h1
        exact OW.move rfl rfl (OW.nil (NX.givesD rfl hr))
      refine drawAll.cons (fun Lt zc w1 h1 h2 hr => ?_) ?_
      · obtain rfl : zc = 0 := Nat.le_antisymm h2 h1
        exact OW.move rfl rfl (OW.nil (NX.givesD rfl hr))
      refine drawAll.cons (fun Lt zc w1 h1 h2 hr => ?_) ?_
      · obtain rfl : zc = 0 := Nat.le_antisymm h2 h1
        refine OW.add rfl rfl rfl (by omega) (OW.nil (NX.givesD ?_ hr))
        first | rfl | exact congrArg (Value.int .i64) (by omega)
      refine drawAll.cons (fun Lt zc w1 h1 h2 hr => ?_) ?_
      · obtain rfl : zc = 0 := Nat.le_antisymm h2 h1
        exact OW.indexAddr rfl el135 rfl rfl ⟨by omega, by omega⟩ (OW.nil (NX.givesD rfl hr))
      refine drawAll.cons (fun Lt zc w1 h1 h2 hr => ?_) ?_
      · obtain rfl : zc = 0 := Nat.le_antisymm h2 h1
        exact OW.loadArrA rfl ag137 rfl (hs.arr.frame hr id) (show a + i < n by omega) (OW.nil (NX.givesD rfl hr))
      refine drawAll.cons (fun Lt zc w1 h1 h2 hr => ?_) ?_
      · obtain rfl : zc = 0 := Nat.le_antisymm h2 h1
        exact OW.indexAddr rfl el135 rfl rfl ⟨by omega, by omega⟩ (OW.nil (NX.givesD rfl hr))
      refine drawAll.cons (fun Lt zc w1 h1 h2 hr => ?_) ?_
      · obtain rfl : zc = 0 := Nat.le_antisymm h2 h1
        refine OW.storeArrA rfl rfl sz137 (hs.arr.frame hr id) (show a + i < n by omega) (hs.arr.len (c + i) (by omega)) (hs.arr.one (c + i) (by omega)) fun w2 f2 a2 => ?_
        exact OW.nil (NX.givesN ⟨(Fr0.any hr).trans f2, a2⟩)
      refine drawAll.cons (fun Lt zc w1 h1 h2 hr => ?_) ?_
      · obtain rfl : zc = 1 := Nat.le_antisymm h2 h1
        exact OW.indexAddr rfl el135 rfl rfl ⟨by omega, by omega⟩ (OW.nil (NX.givesD rfl hr))
      refine drawAll.cons (fun Lt zc w1 h1 h2 hr => ?_) ?_
      · obtain rfl : zc = 1 := Nat.le_antisymm h2 h1
        refine OW.storeArrA rfl rfl sz137 hr.2 (show c + i < n by omega) (hs.arr.len (a + i) (by omega)) (hs.arr.one (a + i) (by omega)) fun w2 f2 a2 => ?_
        exact OW.nil (NX.givesN ⟨hr.1.trans f2, a2.eq (sw_eq xs (swr p a c i) (show a + i ≠ c + i by omega))⟩)
      exact drawAll.nil
    intro w1 hr
    refine NX.blockN ?_
    refine NX.seq ?_
    have hs1 := SS.step hs hr.1 hr.2
    refine CW.region ?_
    refine OW.move rfl rfl ?_
    refine OW.add rfl rfl rfl (by omega) ?_
    refine OW.assign rfl rfl ?_
    refine OW.nil ?_
    exact NX.loop (i + 1) ((Sub.cons rfl (Sub.cons rfl (Sub.cons rfl (Sub.cons rfl (Sub.cons rfl (Sub.nil _))))))) (⟨by omega, by rw [← swr_next p (show a + i < c by omega)]; exact hs1⟩) (by omega)
  · refine CW.exit ?_
    refine NX.thenExit ?_
    refine NX.thenExit ?_
    refine NX.blockEq ?_
    have e : i = m := by omega
    subst e
    exact NX.ret0 (.inr rfl) rfl (hs)

theorem rotate_SI {w0 w : World} {b T n cap : Nat} {pre post : List Value} {xs : Nat → List Value} {p : Nat → Nat} {cv : Value} (hs : SS w0 w b T 2 n pre post xs p) (a m e : Nat) (ham : a < m) (hme : m < e) (hen : e ≤ n) (hn : n ≤ 140737488355328) :
    Does Try.prog 150 [.slice (some ⟨b, pre.length, none⟩) n cap, .int .i64 ((a : Nat) : Int), .int .i64 ((m : Nat) : Int), .int .i64 ((e : Nat) : Int), cv] w fun _ w' => SS w0 w' b T 2 n pre post xs (rot p a m e) := by
  refine Does.enter Try.func150 rfl rfl ?_
  show CW _ _ _ _ 58 [] [(0, .slice (some ⟨b, pre.length, none⟩) n cap), (1, .int .i64 ((a : Nat) : Int)), (2, .int .i64 ((m : Nat) : Int)), (3, .int .i64 ((e : Nat) : Int)), (4, cv)] w
  refine CW.seq ?_
  refine CW.region ?_
  refine OW.move rfl rfl ?_
  refine OW.move rfl rfl ?_
  refine OW.sub' rfl rfl rfl (by omega) ?_
  refine OW.assign rfl rfl ?_
  refine OW.nil ?_
  refine NX.seq ?_
  refine CW.seq ?_
  refine CW.region ?_
  refine OW.move rfl rfl ?_
  refine OW.move rfl rfl ?_
  refine OW.sub' rfl rfl rfl (by omega) ?_
  refine OW.assign rfl rfl ?_
  refine OW.nil ?_
  refine NX.seq ?_
  refine CW.seq ?_
  refine CW.block ?_
  refine CW.loop (α := Nat × Nat) (fun (s : Nat × Nat) => match s with | (i, j) => [(0, .slice (some ⟨b, pre.length, none⟩) n cap), (1, .int .i64 ((a : Nat) : Int)), (2, .int .i64 ((m : Nat) : Int)), (3, .int .i64 ((e : Nat) : Int)), (4, cv), (10, .int .i64 ((i : Nat) : Int)), (11, .int .i64 ((j : Nat) : Int))]) (fun (s : Nat × Nat) w' => match s with | (i, j) => 1 ≤ i ∧ 1 ≤ j ∧ a + i ≤ m ∧ m + j ≤ e ∧ ∃ q, rot q (m - i) m (m + j) = rot p a m e ∧ SS w0 w' b T 2 n pre post xs q) (fun (s : Nat × Nat) => match s with | (i, j) => i + j) ((m - a, e - m)) (Sub.cons rfl (Sub.cons rfl (Sub.cons rfl (Sub.cons rfl (Sub.cons rfl (Sub.cons (congrArg (fun x : Int => some (Value.int .i64 x)) (by omega)) (Sub.cons (congrArg (fun x : Int => some (Value.int .i64 x)) (by omega)) (Sub.nil _)))))))) (⟨by omega, by omega, by omega, by omega, p, by rw [show m - (m - a) = a by omega, show m + (e - m) = e by omega], hs⟩) ?_
  rintro ⟨i, j⟩ w' ⟨hi, hj, hia, hje, qq, hq, hs⟩
  show CW _ _ _ _ _ _ [(0, .slice (some ⟨b, pre.length, none⟩) n cap), (1, .int .i64 ((a : Nat) : Int)), (2, .int .i64 ((m : Nat) : Int)), (3, .int .i64 ((e : Nat) : Int)), (4, cv), (10, .int .i64 ((i : Nat) : Int)), (11, .int .i64 ((j : Nat) : Int))] w'
  refine CW.seq ?_
  refine CW.seq ?_
  refine CW.region ?_
  refine OW.move rfl rfl ?_
  refine OW.move rfl rfl ?_
  refine OW.neq rfl rfl rfl ?_
  refine OW.nil ?_
  refine NX.seq ?_
  refine CW.cond rfl (fun hne => ?_) (fun hne => ?_)
  · refine CW.skip ?_
    refine NX.seq ?_
    refine CW.block ?_
    refine CW.seq ?_
    refine CW.region ?_
    refine OW.move rfl rfl ?_
    refine OW.move rfl rfl ?_
    refine OW.gtr rfl rfl rfl ?_
    refine OW.nil ?_
    refine NX.seq ?_
    refine CW.cond rfl (fun hij => ?_) (fun hij => ?_)
    · refine CW.seq ?_
      refine CW.region ?_
      refine OW.move rfl rfl ?_
      refine OW.move rfl rfl ?_
      refine OW.move rfl rfl ?_
      refine OW.sub' rfl rfl rfl (by omega) ?_
      refine OW.move rfl rfl ?_
      refine OW.move rfl rfl ?_
      refine OW.move rfl rfl ?_
      refine OW.slot (s := 27) rfl (congrArg (Value.int .i64) (show (_ : Int) = ((m - i : Nat) : Int) by omega)) ?_
      refine OW.call rfl rfl cl154 (swapRange_SI hs (m - i) m j (by omega) (by omega) hn) ?_
      rintro _ w2 hs2
      refine OW.nil ?_
      refine NX.seq ?_
      refine CW.region ?_
      refine OW.move rfl rfl ?_
      refine OW.move rfl rfl ?_
      refine OW.sub' rfl rfl rfl (by omega) ?_
      refine OW.assign rfl rfl ?_
      refine OW.nil ?_
      refine NX.blockN ?_
      refine NX.slot (s := 10) rfl (congrArg (Value.int .i64) (show (_ : Int) = ((i - j : Nat) : Int) by omega)) ?_
      exact NX.loop (Lf := (fun (s : Nat × Nat) => match s with | (i, j) => [(0, .slice (some ⟨b, pre.length, none⟩) n cap), (1, .int .i64 ((a : Nat) : Int)), (2, .int .i64 ((m : Nat) : Int)), (3, .int .i64 ((e : Nat) : Int)), (4, cv), (10, .int .i64 ((i : Nat) : Int)), (11, .int .i64 ((j : Nat) : Int))])) (I := (fun (s : Nat × Nat) w' => match s with | (i, j) => 1 ≤ i ∧ 1 ≤ j ∧ a + i ≤ m ∧ m + j ≤ e ∧ ∃ q, rot q (m - i) m (m + j) = rot p a m e ∧ SS w0 w' b T 2 n pre post xs q)) (m := (fun (s : Nat × Nat) => match s with | (i, j) => i + j)) (i := (i, j)) ((i - j, j)) ((Sub.cons rfl (Sub.cons rfl (Sub.cons rfl (Sub.cons rfl (Sub.cons rfl (Sub.cons rfl (Sub.cons rfl (Sub.nil _))))))))) (⟨by omega, hj, by omega, hje, _, by rw [rot_gt qq (show i ≤ m by omega) (show j < i by omega)]; exact hq, hs2⟩) (show i - j + j < i + j from by omega)
    · refine CW.seq ?_
      refine CW.region ?_
      refine OW.move rfl rfl ?_
      refine OW.move rfl rfl ?_
      refine OW.move rfl rfl ?_
      refine OW.sub' rfl rfl rfl (by omega) ?_
      refine OW.move rfl rfl ?_
      refine OW.move rfl rfl ?_
      refine OW.add rfl rfl rfl (by omega) ?_
      refine OW.move rfl rfl ?_
      refine OW.sub' rfl rfl rfl (by omega) ?_
      refine OW.move rfl rfl ?_
      refine OW.move rfl rfl ?_
      refine OW.slot (s := 38) rfl (congrArg (Value.int .i64) (show (_ : Int) = ((m - i : Nat) : Int) by omega)) ?_
      refine OW.slot (s := 43) rfl (congrArg (Value.int .i64) (show (_ : Int) = ((m + j - i : Nat) : Int) by omega)) ?_
      refine OW.call rfl rfl cl154 (swapRange_SI hs (m - i) (m + j - i) i (by omega) (by omega) hn) ?_
      rintro _ w2 hs2
      refine OW.nil ?_
      refine NX.seq ?_
      refine CW.region ?_
      refine OW.move rfl rfl ?_
      refine OW.move rfl rfl ?_
      refine OW.sub' rfl rfl rfl (by omega) ?_
      refine OW.assign rfl rfl ?_
      refine OW.nil ?_
      refine NX.blockN ?_
      refine NX.slot (s := 11) rfl (congrArg (Value.int .i64) (show (_ : Int) = ((j - i : Nat) : Int) by omega)) ?_
      exact NX.loop (Lf := (fun (s : Nat × Nat) => match s with | (i, j) => [(0, .slice (some ⟨b, pre.length, none⟩) n cap), (1, .int .i64 ((a : Nat) : Int)), (2, .int .i64 ((m : Nat) : Int)), (3, .int .i64 ((e : Nat) : Int)), (4, cv), (10, .int .i64 ((i : Nat) : Int)), (11, .int .i64 ((j : Nat) : Int))])) (I := (fun (s : Nat × Nat) w' => match s with | (i, j) => 1 ≤ i ∧ 1 ≤ j ∧ a + i ≤ m ∧ m + j ≤ e ∧ ∃ q, rot q (m - i) m (m + j) = rot p a m e ∧ SS w0 w' b T 2 n pre post xs q)) (m := (fun (s : Nat × Nat) => match s with | (i, j) => i + j)) (i := (i, j)) ((i, j - i)) ((Sub.cons rfl (Sub.cons rfl (Sub.cons rfl (Sub.cons rfl (Sub.cons rfl (Sub.cons rfl (Sub.cons rfl (Sub.nil _))))))))) (⟨hi, by omega, hia, by omega, _, by rw [rot_lt qq (show i ≤ m by omega) (show i < j by omega)]; exact hq, hs2⟩) (show i + (j - i) < i + j from by omega)
  · refine CW.exit ?_
    refine NX.thenExit ?_
    refine NX.thenExit ?_
    refine NX.blockEq ?_
    refine NX.seq ?_
    refine CW.region ?_
    refine OW.move rfl rfl ?_
    refine OW.move rfl rfl ?_
    refine OW.move rfl rfl ?_
    refine OW.sub' rfl rfl rfl (by omega) ?_
    refine OW.move rfl rfl ?_
    refine OW.move rfl rfl ?_
    refine OW.move rfl rfl ?_
    refine OW.slot (s := 53) rfl (congrArg (Value.int .i64) (show (_ : Int) = ((m - i : Nat) : Int) by omega)) ?_
    refine OW.call rfl rfl cl154 (swapRange_SI hs (m - i) m i (by omega) (by omega) hn) ?_
    rintro _ w2 hs2
    refine OW.nil ?_
    exact NX.ret0 (.inr rfl) rfl (by rw [← hq, show j = i by omega, ← rot_eq qq (show i ≤ m by omega)]; exact hs2)

theorem ins_SI {w0 w : World} {b T n cap : Nat} {pre post : List Value} {xs : Nat → List Value} {p : Nat → Nat} {cv : Value} {cmp : Nat → Nat → Int} (hC : Cmpr Try.prog cv w0 b (fun c => .agg c.toArray) n xs cmp) (ho : SOrd (lessOf cmp)) (hn : n ≤ 140737488355328) (hs : SS w0 w b T 2 n pre post xs p) (hp : ∀ k, k < n → p k < n) (a e : Nat) (hae : a ≤ e) (hen : e ≤ n) (htag : ∀ i j, a ≤ i → i < j → j < e → p i < p j) :
    Does Try.prog 146 [.slice (some ⟨b, pre.length, none⟩) n cap, .int .i64 ((a : Nat) : Int), .int .i64 ((e : Nat) : Int), cv] w fun _ w' => ∃ q, Pm a e p q ∧ So (lessOf cmp) q a e ∧ SS w0 w' b T 2 n pre post xs q := by
  obtain ⟨g, first, cp, rfl, hg, hcmp⟩ := hC
  refine Does.enter Try.func146 rfl rfl ?_
  show CW _ _ _ _ 53 [] [(0, .slice (some ⟨b, pre.length, none⟩) n cap), (1, .int .i64 ((a : Nat) : Int)), (2, .int .i64 ((e : Nat) : Int)), (3, .func (.func g) first cp)] w
  refine CW.seq ?_
  refine CW.region ?_
  refine OW.move rfl rfl ?_
  refine OW.add rfl rfl rfl (by omega) ?_
  refine OW.assign rfl rfl ?_
  refine OW.nil ?_
  refine NX.seq ?_
  refine CW.block ?_
  refine CW.loop (α := Nat) (fun i => [(0, .slice (some ⟨b, pre.length, none⟩) n cap), (1, .int .i64 ((a : Nat) : Int)), (2, .int .i64 ((e : Nat) : Int)), (3, .func (.func g) first cp), (8, .int .i64 ((i : Nat) : Int))]) (fun i w' => a + 1 ≤ i ∧ ∃ q, (i ≤ e ∨ q = p) ∧ Pm a i p q ∧ So (lessOf cmp) q a i ∧ SS w0 w' b T 2 n pre post xs q) (fun i => e - i) (a + 1) (Sub.cons rfl (Sub.cons rfl (Sub.cons rfl (Sub.cons rfl (Sub.cons rfl (Sub.nil _)))))) ⟨by omega, p, .inr rfl, Pm.refl _ _ _, So.less2 (by omega), hs⟩ ?_
  rintro i w' ⟨hai, qq, hie, hpm, hso, hs⟩
  refine CW.seq ?_
  refine CW.seq ?_
  refine CW.region ?_
  refine OW.move rfl rfl ?_
  refine OW.move rfl rfl ?_
  refine OW.lss rfl rfl rfl ?_
  refine OW.nil ?_
  refine NX.seq ?_
  refine CW.cond rfl (fun hlt => ?_) (fun hlt => ?_)
  · refine CW.skip ?_
    refine NX.seq ?_
    refine CW.seq ?_
    refine CW.block ?_
    refine CW.seq ?_
    refine CW.region ?_
    refine OW.move rfl rfl ?_
    refine OW.assign rfl rfl ?_
    refine OW.nil ?_
    refine NX.seq ?_
    refine CW.block ?_
    refine CW.loop (α := Nat) (fun j => [(0, .slice (some ⟨b, pre.length, none⟩) n cap), (1, .int .i64 ((a : Nat) : Int)), (2, .int .i64 ((e : Nat) : Int)), (3, .func (.func g) first cp), (8, .int .i64 ((i : Nat) : Int)), (9, .int .i64 ((j : Nat) : Int))]) (fun j u => ∃ r, InsInv (lessOf cmp) qq a i j r ∧ SS w0 u b T 2 n pre post xs r) (fun j => j) i (Sub.cons rfl (Sub.cons rfl (Sub.cons rfl (Sub.cons rfl (Sub.cons rfl (Sub.cons rfl (Sub.nil _))))))) ⟨qq, InsInv.start hso (by omega), hs⟩ ?_
    rintro j u ⟨r, hinv, hs⟩
    have hjlo := hinv.lo
    have hjhi := hinv.hi
    have hb : ∀ k, k < n → r k < n := fun k hk => hinv.pm.all (c := 0) (d := n) (by omega) (T := fun x => x < n) (fun k _ h2 => hpm.all (c := 0) (d := n) (by omega) (T := fun x => x < n) (fun k _ h2 => hp k h2) k (by omega) h2) k (by omega) hk
    by_cases haj : a < j
    · refine CW.seq ?_
      refine CW.seq ?_
      refine CW.drawG [⟨0, 0, false⟩, ⟨0, 0, false⟩, ⟨0, 0, false⟩, ⟨0, 0, false⟩, ⟨0, 0, false⟩, ⟨0, 0, false⟩, ⟨0, 0, false⟩, ⟨0, 0, false⟩, ⟨0, 0, false⟩, ⟨0, 0, false⟩, ⟨0, 0, false⟩, ⟨0, 0, false⟩, ⟨0, 0, false⟩, ⟨0, 0, false⟩, ⟨0, 0, false⟩, ⟨0, 0, false⟩, ⟨0, 0, false⟩] 0 [.int .i64 ((j : Nat) : Int), .int .i64 ((a : Nat) : Int), .bool true, .bool true, .func (.func g) first cp, .slice (some ⟨b, pre.length, none⟩) n cap, .int .i64 ((j : Nat) : Int), .pointer (some ⟨b, pre.length + (j) * 2, none⟩), .agg (xs (r (j))).toArray, .slice (some ⟨b, pre.length, none⟩) n cap, .int .i64 ((j : Nat) : Int), .int .i64 ((j - 1 : Nat) : Int), .pointer (some ⟨b, pre.length + (j - 1) * 2, none⟩), .agg (xs (r (j - 1))).toArray, .int .i64 (cmp (r (j)) (r (j - 1))), .bool (decide (cmp (r (j)) (r (j - 1)) < 0)), .bool (decide (cmp (r j) (r (j - 1)) < 0))] (fun _ zw => Fr0 u zw) MIX rfl rfl (Fr.drew u) ?_ ?_
      · refine drawAll.cons (fun Lt zc w1 h1 h2 hr => ?_) ?_
        · obtain rfl : zc = 0 := Nat.le_antisymm h2 h1
          exact OW.move rfl rfl (OW.nil (NX.givesD rfl hr))
        refine drawAll.cons (fun Lt zc w1 h1 h2 hr => ?_) ?_
        · obtain rfl : zc = 0 := Nat.le_antisymm h2 h1
          exact OW.move rfl rfl (OW.nil (NX.givesD rfl hr))
        refine drawAll.cons (fun Lt zc w1 h1 h2 hr => ?_) ?_
        · obtain rfl : zc = 0 := Nat.le_antisymm h2 h1
          exact OW.gtr rfl rfl rfl (OW.nil (NX.givesD (congrArg Value.bool (decide_eq_true (by omega))) hr))
        refine drawAll.cons (fun Lt zc w1 h1 h2 hr => ?_) ?_
        · obtain rfl : zc = 0 := Nat.le_antisymm h2 h1
          exact OW.move rfl rfl (OW.nil (NX.givesD rfl hr))
        refine drawAll.cons (fun Lt zc w1 h1 h2 hr => ?_) ?_
        · obtain rfl : zc = 0 := Nat.le_antisymm h2 h1
          refine OW.gyes rfl rfl ?_
          exact OW.move rfl rfl (OW.nil (NX.givesD rfl hr))
        refine drawAll.cons (fun Lt zc w1 h1 h2 hr => ?_) ?_
        · obtain rfl : zc = 0 := Nat.le_antisymm h2 h1
          refine OW.gyes rfl rfl ?_
          exact OW.move rfl rfl (OW.nil (NX.givesD rfl hr))
        refine drawAll.cons (fun Lt zc w1 h1 h2 hr => ?_) ?_
        · obtain rfl : zc = 0 := Nat.le_antisymm h2 h1
          refine OW.gyes rfl rfl ?_
          exact OW.move rfl rfl (OW.nil (NX.givesD rfl hr))
        refine drawAll.cons (fun Lt zc w1 h1 h2 hr => ?_) ?_
        · obtain rfl : zc = 0 := Nat.le_antisymm h2 h1
          refine OW.gyes rfl rfl ?_
          exact OW.indexAddr rfl el135 rfl rfl ⟨by omega, by omega⟩ (OW.nil (NX.givesD rfl hr))
        refine drawAll.cons (fun Lt zc w1 h1 h2 hr => ?_) ?_
        · obtain rfl : zc = 0 := Nat.le_antisymm h2 h1
          refine OW.gyes rfl rfl ?_
          exact OW.loadArrA rfl ag137 rfl (hs.arr.frame hr id) (show j < n by omega) (OW.nil (NX.givesD rfl hr))
        refine drawAll.cons (fun Lt zc w1 h1 h2 hr => ?_) ?_
        · obtain rfl : zc = 0 := Nat.le_antisymm h2 h1
          refine OW.gyes rfl rfl ?_
          exact OW.move rfl rfl (OW.nil (NX.givesD rfl hr))
        refine drawAll.cons (fun Lt zc w1 h1 h2 hr => ?_) ?_
        · obtain rfl : zc = 0 := Nat.le_antisymm h2 h1
          refine OW.gyes rfl rfl ?_
          exact OW.move rfl rfl (OW.nil (NX.givesD rfl hr))
        refine drawAll.cons (fun Lt zc w1 h1 h2 hr => ?_) ?_
        · obtain rfl : zc = 0 := Nat.le_antisymm h2 h1
          refine OW.gyes rfl rfl ?_
          refine OW.sub' rfl rfl rfl (by omega) (OW.nil (NX.givesD ?_ hr))
          first | rfl | exact congrArg (Value.int .i64) (by omega)
        refine drawAll.cons (fun Lt zc w1 h1 h2 hr => ?_) ?_
        · obtain rfl : zc = 0 := Nat.le_antisymm h2 h1
          refine OW.gyes rfl rfl ?_
          exact OW.indexAddr rfl el135 rfl rfl ⟨by omega, by omega⟩ (OW.nil (NX.givesD rfl hr))
        refine drawAll.cons (fun Lt zc w1 h1 h2 hr => ?_) ?_
        · obtain rfl : zc = 0 := Nat.le_antisymm h2 h1
          refine OW.gyes rfl rfl ?_
          exact OW.loadArrA rfl ag137 rfl (hs.arr.frame hr id) (show j - 1 < n by omega) (OW.nil (NX.givesD rfl hr))
        refine drawAll.cons (fun Lt zc w1 h1 h2 hr => ?_) ?_
        · obtain rfl : zc = 0 := Nat.le_antisymm h2 h1
          refine OW.gyes rfl rfl ?_
          refine OW.callF rfl rfl rfl hg (hcmp w1 (hs.fr.trans (Fr0.any hr)) (r (j)) (r (j - 1)) (hb _ (by omega)) (hb _ (by omega))) ?_
          rintro _ w2 ⟨rfl, f2⟩
          exact OW.nil (NX.givesD rfl (Fr0.trans hr f2))
        refine drawAll.cons (fun Lt zc w1 h1 h2 hr => ?_) ?_
        · obtain rfl : zc = 0 := Nat.le_antisymm h2 h1
          refine OW.gyes rfl rfl ?_
          exact OW.lss rfl rfl rfl (OW.nil (NX.givesD rfl hr))
        refine drawAll.cons (fun Lt zc w1 h1 h2 hr => ?_) ?_
        · obtain rfl : zc = 0 := Nat.le_antisymm h2 h1
          exact OW.pickT rfl rfl rfl (OW.nil (NX.givesD rfl hr))
        exact drawAll.nil
      intro w1 hr
      refine NX.seq ?_
      have hs1 := SS.draw hs hr
      refine CW.cond rfl (fun hlt => ?_) (fun hlt => ?_)
      · refine CW.skip ?_
        refine NX.seq ?_
        refine CW.seq ?_
        refine CW.block ?_
        have hs := hs1
        clear hs1
        refine CW.drawG [⟨0, 0, false⟩, ⟨0, 0, false⟩, ⟨0, 1, false⟩, ⟨0, 1, false⟩, ⟨0, 1, false⟩, ⟨0, 0, false⟩, ⟨0, 0, false⟩, ⟨0, 0, false⟩, ⟨0, 0, false⟩, ⟨0, 0, false⟩, ⟨0, 0, false⟩, ⟨0, 0, false⟩, ⟨0, 0, false⟩, ⟨0, 0, false⟩, ⟨0, 0, false⟩, ⟨0, 0, true⟩, ⟨1, 1, false⟩, ⟨1, 1, true⟩] 2 [.slice (some ⟨b, pre.length, none⟩) n cap, .int .i64 ((j : Nat) : Int), .slice (some ⟨b, pre.length, none⟩) n cap, .int .i64 ((j : Nat) : Int), .int .i64 ((j - 1 : Nat) : Int), .slice (some ⟨b, pre.length, none⟩) n cap, .int .i64 ((j : Nat) : Int), .int .i64 ((j - 1 : Nat) : Int), .pointer (some ⟨b, pre.length + (j - 1) * 2, none⟩), .agg (xs (r (j - 1))).toArray, .slice (some ⟨b, pre.length, none⟩) n cap, .int .i64 ((j : Nat) : Int), .pointer (some ⟨b, pre.length + (j) * 2, none⟩), .agg (xs (r (j))).toArray, .pointer (some ⟨b, pre.length + (j) * 2, none⟩), .tuple #[], .pointer (some ⟨b, pre.length + (j - 1) * 2, none⟩), .tuple #[]] (fun zc zw => match zc with | 0 => Fr0 w1 zw | 1 => Fr (fun k => k = b) w1 zw ∧ Arr zw b T 2 n pre post (fun zk => if zk = j then xs (r (j - 1)) else xs (r zk)) | _ => Fr (fun k => k = b) w1 zw ∧ Arr zw b T 2 n pre post (fun zk => xs (sw r (j) (j - 1) zk))) MIX rfl rfl (Fr.drew w1) ?_ ?_
        · refine drawAll.cons (fun Lt zc w1 h1 h2 hr => ?_) ?_
          · obtain rfl : zc = 0 := Nat.le_antisymm h2 h1
            exact OW.move rfl rfl (OW.nil (NX.givesD rfl hr))
          refine drawAll.cons (fun Lt zc w1 h1 h2 hr => ?_) ?_
          · obtain rfl : zc = 0 := Nat.le_antisymm h2 h1
            exact OW.move rfl rfl (OW.nil (NX.givesD rfl hr))
          refine drawAll.cons (fun Lt zc w1 h1 h2 hr => ?_) ?_
          · exact OW.move rfl rfl (OW.nil (NX.givesD rfl hr))
          refine drawAll.cons (fun Lt zc w1 h1 h2 hr => ?_) ?_
          · exact OW.move rfl rfl (OW.nil (NX.givesD rfl hr))
          refine drawAll.cons (fun Lt zc w1 h1 h2 hr => ?_) ?_
          · refine OW.sub' rfl rfl rfl (by omega) (OW.nil (NX.givesD ?_ hr))
            first | rfl | exact congrArg (Value.int .i64) (by omega)
          refine drawAll.cons (fun Lt zc w1 h1 h2 hr => ?_) ?_
          · obtain rfl : zc = 0 := Nat.le_antisymm h2 h1
            exact OW.move rfl rfl (OW.nil (NX.givesD rfl hr))
          refine drawAll.cons (fun Lt zc w1 h1 h2 hr => ?_) ?_
          · obtain rfl : zc = 0 := Nat.le_antisymm h2 h1
            exact OW.move rfl rfl (OW.nil (NX.givesD rfl hr))
          refine drawAll.cons (fun Lt zc w1 h1 h2 hr => ?_) ?_
          · obtain rfl : zc = 0 := Nat.le_antisymm h2 h1
            refine OW.sub' rfl rfl rfl (by omega) (OW.nil (NX.givesD ?_ hr))
            first | rfl | exact congrArg (Value.int .i64) (by omega)
          refine drawAll.cons (fun Lt zc w1 h1 h2 hr => ?_) ?_
          · obtain rfl : zc = 0 := Nat.le_antisymm h2 h1
            exact OW.indexAddr rfl el135 rfl rfl ⟨by omega, by omega⟩ (OW.nil (NX.givesD rfl hr))
          refine drawAll.cons (fun Lt zc w1 h1 h2 hr => ?_) ?_
          · obtain rfl : zc = 0 := Nat.le_antisymm h2 h1
            exact OW.loadArrA rfl ag137 rfl (hs.arr.frame hr id) (show j - 1 < n by omega) (OW.nil (NX.givesD rfl hr))
          refine drawAll.cons (fun Lt zc w1 h1 h2 hr => ?_) ?_
          · obtain rfl : zc = 0 := Nat.le_antisymm h2 h1
            exact OW.move rfl rfl (OW.nil (NX.givesD rfl hr))
          refine drawAll.cons (fun Lt zc w1 h1 h2 hr => ?_) ?_
          · obtain rfl : zc = 0 := Nat.le_antisymm h2 h1
            exact OW.move rfl rfl (OW.nil (NX.givesD rfl hr))
          refine drawAll.cons (fun Lt zc w1 h1 h2 hr => ?_) ?_
          · obtain rfl : zc = 0 := Nat.le_antisymm h2 h1
            exact OW.indexAddr rfl el135 rfl rfl ⟨by omega, by omega⟩ (OW.nil (NX.givesD rfl hr))
          refine drawAll.cons (fun Lt zc w1 h1 h2 hr => ?_) ?_
          · obtain rfl : zc = 0 := Nat.le_antisymm h2 h1
            exact OW.loadArrA rfl ag137 rfl (hs.arr.frame hr id) (show j < n by omega) (OW.nil (NX.givesD rfl hr))
          refine drawAll.cons (fun Lt zc w1 h1 h2 hr => ?_) ?_
          · obtain rfl : zc = 0 := Nat.le_antisymm h2 h1
            exact OW.indexAddr rfl el135 rfl rfl ⟨by omega, by omega⟩ (OW.nil (NX.givesD rfl hr))
          refine drawAll.cons (fun Lt zc w1 h1 h2 hr => ?_) ?_
          · obtain rfl : zc = 0 := Nat.le_antisymm h2 h1
            refine OW.storeArrA rfl rfl sz137 (hs.arr.frame hr id) (show j < n by omega) (hs.arr.len (j - 1) (by omega)) (hs.arr.one (j - 1) (by omega)) fun w2 f2 a2 => ?_
            exact OW.nil (NX.givesN ⟨(Fr0.any hr).trans f2, a2⟩)
          refine drawAll.cons (fun Lt zc w1 h1 h2 hr => ?_) ?_
          · obtain rfl : zc = 1 := Nat.le_antisymm h2 h1
            exact OW.indexAddr rfl el135 rfl rfl ⟨by omega, by omega⟩ (OW.nil (NX.givesD rfl hr))
          refine drawAll.cons (fun Lt zc w1 h1 h2 hr => ?_) ?_
          · obtain rfl : zc = 1 := Nat.le_antisymm h2 h1
            refine OW.storeArrA rfl rfl sz137 hr.2 (show j - 1 < n by omega) (hs.arr.len (j) (by omega)) (hs.arr.one (j) (by omega)) fun w2 f2 a2 => ?_
            exact OW.nil (NX.givesN ⟨hr.1.trans f2, a2.eq (sw_eq xs r (show j ≠ j - 1 by omega))⟩)
          exact drawAll.nil
        intro w1 hr
        refine NX.blockN ?_
        refine NX.seq ?_
        have hs1 := SS.step hs hr.1 hr.2
        refine CW.region ?_
        refine OW.move rfl rfl ?_
        refine OW.sub' rfl rfl rfl (by omega) ?_
        refine OW.assign rfl rfl ?_
        refine OW.nil ?_
        refine NX.slot (s := 9) rfl (congrArg (Value.int .i64) (show (_ : Int) = ((j - 1 : Nat) : Int) by omega)) ?_
        exact NX.loop (j - 1) ((Sub.cons rfl (Sub.cons rfl (Sub.cons rfl (Sub.cons rfl (Sub.cons rfl (Sub.cons rfl (Sub.nil _)))))))) (⟨_, hinv.step haj (decide_eq_true hlt), hs1⟩) (by omega)
      · have hso2 := hinv.stop ho (fun x h1 h2 => by
          rw [show qq i = p i from hpm.out (by omega)]
          exact hpm.all (c := a) (d := i) (by omega) (T := fun v => v < p i) (fun k h1 h2 => htag k i h1 h2 (by omega)) x h1 h2) (fun _ => decide_eq_false hlt)
        refine CW.exit ?_
        refine NX.thenExit ?_
        refine NX.thenExit ?_
        refine NX.blockEq ?_
        refine NX.blockN ?_
        refine NX.seq ?_
        refine CW.region ?_
        refine OW.move rfl rfl ?_
        refine OW.add rfl rfl rfl (by omega) ?_
        refine OW.assign rfl rfl ?_
        refine OW.nil ?_
        exact NX.loop (i + 1) ((Sub.cons rfl (Sub.cons rfl (Sub.cons rfl (Sub.cons rfl (Sub.cons rfl (Sub.nil _))))))) (⟨by omega, r, .inl (by omega), (hpm.wide (Nat.le_refl _) (by omega)).trans hinv.pm, hso2, hs1⟩) (by omega)
    · refine CW.seq ?_
      refine CW.seq ?_
      refine CW.drawG [⟨0, 0, false⟩, ⟨0, 0, false⟩, ⟨0, 0, false⟩, ⟨0, 0, false⟩, ⟨0, 0, false⟩, ⟨0, 0, false⟩, ⟨0, 0, false⟩, ⟨0, 0, false⟩, ⟨0, 0, false⟩, ⟨0, 0, false⟩, ⟨0, 0, false⟩, ⟨0, 0, false⟩, ⟨0, 0, false⟩, ⟨0, 0, false⟩, ⟨0, 0, false⟩, ⟨0, 0, false⟩, ⟨0, 0, false⟩] 0 [.int .i64 ((j : Nat) : Int), .int .i64 ((a : Nat) : Int), .bool false, .bool false, undef, undef, undef, undef, undef, undef, undef, undef, undef, undef, undef, undef, .bool false] (fun _ zw => Fr0 u zw) MIX rfl rfl (Fr.drew u) ?_ ?_
      · refine drawAll.cons (fun Lt zc w1 h1 h2 hr => ?_) ?_
        · obtain rfl : zc = 0 := Nat.le_antisymm h2 h1
          exact OW.move rfl rfl (OW.nil (NX.givesD rfl hr))
        refine drawAll.cons (fun Lt zc w1 h1 h2 hr => ?_) ?_
        · obtain rfl : zc = 0 := Nat.le_antisymm h2 h1
          exact OW.move rfl rfl (OW.nil (NX.givesD rfl hr))
        refine drawAll.cons (fun Lt zc w1 h1 h2 hr => ?_) ?_
        · obtain rfl : zc = 0 := Nat.le_antisymm h2 h1
          exact OW.gtr rfl rfl rfl (OW.nil (NX.givesD (congrArg Value.bool (decide_eq_false (by omega))) hr))
        refine drawAll.cons (fun Lt zc w1 h1 h2 hr => ?_) ?_
        · obtain rfl : zc = 0 := Nat.le_antisymm h2 h1
          exact OW.move rfl rfl (OW.nil (NX.givesD rfl hr))
        refine drawAll.cons (fun Lt zc w1 h1 h2 hr => ?_) ?_
        · obtain rfl : zc = 0 := Nat.le_antisymm h2 h1
          exact OW.gnoD rfl rfl rfl rfl (OW.nil (NX.givesD rfl hr))
        refine drawAll.cons (fun Lt zc w1 h1 h2 hr => ?_) ?_
        · obtain rfl : zc = 0 := Nat.le_antisymm h2 h1
          exact OW.gnoD rfl rfl rfl rfl (OW.nil (NX.givesD rfl hr))
        refine drawAll.cons (fun Lt zc w1 h1 h2 hr => ?_) ?_
        · obtain rfl : zc = 0 := Nat.le_antisymm h2 h1
          exact OW.gnoD rfl rfl rfl rfl (OW.nil (NX.givesD rfl hr))
        refine drawAll.cons (fun Lt zc w1 h1 h2 hr => ?_) ?_
        · obtain rfl : zc = 0 := Nat.le_antisymm h2 h1
          exact OW.gnoD rfl rfl rfl rfl (OW.nil (NX.givesD rfl hr))
        refine drawAll.cons (fun Lt zc w1 h1 h2 hr => ?_) ?_
        · obtain rfl : zc = 0 := Nat.le_antisymm h2 h1
          exact OW.gnoD rfl rfl rfl rfl (OW.nil (NX.givesD rfl hr))
        refine drawAll.cons (fun Lt zc w1 h1 h2 hr => ?_) ?_
        · obtain rfl : zc = 0 := Nat.le_antisymm h2 h1
          exact OW.gnoD rfl rfl rfl rfl (OW.nil (NX.givesD rfl hr))
        refine drawAll.cons (fun Lt zc w1 h1 h2 hr => ?_) ?_
        · obtain rfl : zc = 0 := Nat.le_antisymm h2 h1
          exact OW.gnoD rfl rfl rfl rfl (OW.nil (NX.givesD rfl hr))
        refine drawAll.cons (fun Lt zc w1 h1 h2 hr => ?_) ?_
        · obtain rfl : zc = 0 := Nat.le_antisymm h2 h1
          exact OW.gnoD rfl rfl rfl rfl (OW.nil (NX.givesD rfl hr))
        refine drawAll.cons (fun Lt zc w1 h1 h2 hr => ?_) ?_
        · obtain rfl : zc = 0 := Nat.le_antisymm h2 h1
          exact OW.gnoD rfl rfl rfl rfl (OW.nil (NX.givesD rfl hr))
        refine drawAll.cons (fun Lt zc w1 h1 h2 hr => ?_) ?_
        · obtain rfl : zc = 0 := Nat.le_antisymm h2 h1
          exact OW.gnoD rfl rfl rfl rfl (OW.nil (NX.givesD rfl hr))
        refine drawAll.cons (fun Lt zc w1 h1 h2 hr => ?_) ?_
        · obtain rfl : zc = 0 := Nat.le_antisymm h2 h1
          exact OW.gnoD rfl rfl rfl rfl (OW.nil (NX.givesD rfl hr))
        refine drawAll.cons (fun Lt zc w1 h1 h2 hr => ?_) ?_
        · obtain rfl : zc = 0 := Nat.le_antisymm h2 h1
          exact OW.gnoD rfl rfl rfl rfl (OW.nil (NX.givesD rfl hr))
        refine drawAll.cons (fun Lt zc w1 h1 h2 hr => ?_) ?_
        · obtain rfl : zc = 0 := Nat.le_antisymm h2 h1
          exact OW.pickF rfl rfl rfl (OW.nil (NX.givesD rfl hr))
        exact drawAll.nil
      intro w1 hr
      refine NX.seq ?_
      have hs1 := SS.draw hs hr
      refine CW.condF rfl ?_
      have hso2 := hinv.stop ho (fun x h1 h2 => by
        rw [show qq i = p i from hpm.out (by omega)]
        exact hpm.all (c := a) (d := i) (by omega) (T := fun v => v < p i) (fun k h1 h2 => htag k i h1 h2 (by omega)) x h1 h2) (fun h => absurd h haj)
      refine CW.exit ?_
      refine NX.thenExit ?_
      refine NX.thenExit ?_
      refine NX.blockEq ?_
      refine NX.blockN ?_
      refine NX.seq ?_
      refine CW.region ?_
      refine OW.move rfl rfl ?_
      refine OW.add rfl rfl rfl (by omega) ?_
      refine OW.assign rfl rfl ?_
      refine OW.nil ?_
      exact NX.loop (i + 1) ((Sub.cons rfl (Sub.cons rfl (Sub.cons rfl (Sub.cons rfl (Sub.cons rfl (Sub.nil _))))))) (⟨by omega, r, .inl (by omega), (hpm.wide (Nat.le_refl _) (by omega)).trans hinv.pm, hso2, hs1⟩) (by omega)
  · refine CW.exit ?_
    refine NX.thenExit ?_
    refine NX.thenExit ?_
    refine NX.blockEq ?_
    exact NX.ret0 (.inr rfl) rfl (by
          rcases hie with h | h
          · have e1 : i = e := by omega
            subst e1; exact ⟨qq, hpm, hso, hs⟩
          · exact ⟨qq, by rw [h]; exact Pm.refl _ _ _, fun x y h1 h2 h3 => hso x y h1 h2 (by omega), hs⟩)

theorem sym_SI {w0 : World} {b T n cap : Nat} {pre post : List Value} {xs : Nat → List Value} {cv : Value} {cmp : Nat → Nat → Int} (hC : Cmpr Try.prog cv w0 b (fun c => .agg c.toArray) n xs cmp) (ho : SOrd (lessOf cmp)) (hn : n ≤ 140737488355328) : ∀ (z a m e : Nat) (w : World) (p : Nat → Nat), e - a ≤ z → SmPre (lessOf cmp) p a m e → e ≤ n → (∀ k, k < n → p k < n) → SS w0 w b T 2 n pre post xs p →
    Does Try.prog 147 [.slice (some ⟨b, pre.length, none⟩) n cap, .int .i64 ((a : Nat) : Int), .int .i64 ((m : Nat) : Int), .int .i64 ((e : Nat) : Int), cv] w fun _ w' => ∃ q, Pm a e p q ∧ So (lessOf cmp) q a e ∧ SS w0 w' b T 2 n pre post xs q := by
  obtain ⟨g, first, cp, rfl, hg, hcmp⟩ := hC
  intro z
  induction z with
  | zero => intro a m e w p hz hpre; have := hpre.am; have := hpre.mb; omega
  | succ z ih =>
  intro a m e w p hz hpre hen hp hs
  refine Does.enter Try.func147 rfl rfl ?_
  show CW _ _ _ _ 220 [] [(0, .slice (some ⟨b, pre.length, none⟩) n cap), (1, .int .i64 ((a : Nat) : Int)), (2, .int .i64 ((m : Nat) : Int)), (3, .int .i64 ((e : Nat) : Int)), (4, .func (.func g) first cp)] w
  have ham := hpre.am
  have hme := hpre.mb
  refine CW.seq ?_
  refine CW.seq ?_
  refine CW.region ?_
  refine OW.move rfl rfl ?_
  refine OW.move rfl rfl ?_
  refine OW.sub' rfl rfl rfl (by omega) ?_
  refine OW.eql rfl rfl rfl ?_
  refine OW.nil ?_
  refine NX.seq ?_
  refine CW.cond rfl (fun h1 => ?_) (fun h1 => ?_)
  · have hm : m = a + 1 := by omega
    have hpre' : SmPre (lessOf cmp) p a (a + 1) e := by rw [← hm]; exact hpre
    refine CW.seq ?_
    refine CW.region ?_
    refine OW.move rfl rfl ?_
    refine OW.assign rfl rfl ?_
    refine OW.nil ?_
    refine NX.seq ?_
    refine CW.seq ?_
    refine CW.region ?_
    refine OW.move rfl rfl ?_
    refine OW.assign rfl rfl ?_
    refine OW.nil ?_
    refine NX.seq ?_
    refine CW.seq ?_
    refine CW.block ?_
    refine CW.loop (α := Nat × Nat) (fun (s : Nat × Nat) => match s with | (i, j) => [(0, .slice (some ⟨b, pre.length, none⟩) n cap), (1, .int .i64 ((a : Nat) : Int)), (2, .int .i64 ((m : Nat) : Int)), (3, .int .i64 ((e : Nat) : Int)), (4, .func (.func g) first cp), (10, .int .i64 ((i : Nat) : Int)), (11, .int .i64 ((j : Nat) : Int))]) (fun (s : Nat × Nat) w' => match s with | (i, j) => m ≤ i ∧ i ≤ j ∧ j ≤ e ∧ (i = m ∨ lessOf cmp (p (i - 1)) (p a) = true) ∧ (j = e ∨ lessOf cmp (p j) (p a) = false) ∧ SS w0 w' b T 2 n pre post xs p) (fun (s : Nat × Nat) => match s with | (i, j) => j - i) ((m, e)) (Sub.cons rfl (Sub.cons rfl (Sub.cons rfl (Sub.cons rfl (Sub.cons rfl (Sub.cons rfl (Sub.cons rfl (Sub.nil _)))))))) (⟨by omega, by omega, by omega, .inl rfl, .inl rfl, hs⟩) ?_
    rintro ⟨i, j⟩ w' ⟨hi, hij, hj, hl, hu, hs⟩
    show CW _ _ _ _ _ _ [(0, .slice (some ⟨b, pre.length, none⟩) n cap), (1, .int .i64 ((a : Nat) : Int)), (2, .int .i64 ((m : Nat) : Int)), (3, .int .i64 ((e : Nat) : Int)), (4, .func (.func g) first cp), (10, .int .i64 ((i : Nat) : Int)), (11, .int .i64 ((j : Nat) : Int))] w'
    refine CW.seq ?_
    refine CW.seq ?_
    refine CW.region ?_
    refine OW.move rfl rfl ?_
    refine OW.move rfl rfl ?_
    refine OW.lss rfl rfl rfl ?_
    refine OW.nil ?_
    refine NX.seq ?_
    refine CW.cond rfl (fun hij2 => ?_) (fun hij2 => ?_)
    · obtain ⟨h, hh⟩ : ∃ h, h = (i + j) / 2 := ⟨_, rfl⟩
      refine CW.skip ?_
      refine NX.seq ?_
      refine CW.block ?_
      refine CW.seq ?_
      refine CW.region ?_
      refine OW.move rfl rfl ?_
      refine OW.move rfl rfl ?_
      refine OW.add rfl rfl rfl (by omega) ?_
      refine OW.convertI rfl un3 in101 rfl (w_u64 (by omega) (by omega)) ?_
      refine OW.shr rfl rfl rfl (by decide) ?_
      refine OW.slot (s := 38) rfl (half_eq (k := h) (by omega)) ?_
      refine OW.convertI rfl un101 in3 rfl (w_i64 (by omega) (by omega)) ?_
      refine OW.assign rfl rfl ?_
      refine OW.nil ?_
      refine NX.seq ?_
      refine CW.seq ?_
      refine CW.drawG [⟨0, 0, false⟩, ⟨0, 0, false⟩, ⟨0, 0, false⟩, ⟨0, 0, false⟩, ⟨0, 0, false⟩, ⟨0, 0, false⟩, ⟨0, 0, false⟩, ⟨0, 0, false⟩, ⟨0, 0, false⟩, ⟨0, 0, false⟩, ⟨0, 0, false⟩] 0 [.func (.func g) first cp, .slice (some ⟨b, pre.length, none⟩) n cap, .int .i64 ((h : Nat) : Int), .pointer (some ⟨b, pre.length + (h) * 2, none⟩), .agg (xs (p (h))).toArray, .slice (some ⟨b, pre.length, none⟩) n cap, .int .i64 ((a : Nat) : Int), .pointer (some ⟨b, pre.length + (a) * 2, none⟩), .agg (xs (p (a))).toArray, .int .i64 (cmp (p (h)) (p (a))), .bool (decide (cmp (p (h)) (p (a)) < 0))] (fun _ zw => Fr0 w' zw) MIX rfl rfl (Fr.drew w') ?_ ?_
      · refine drawAll.cons (fun Lt zc w1 h1 h2 hr => ?_) ?_
        · obtain rfl : zc = 0 := Nat.le_antisymm h2 h1
          exact OW.move rfl rfl (OW.nil (NX.givesD rfl hr))
        refine drawAll.cons (fun Lt zc w1 h1 h2 hr => ?_) ?_
        · obtain rfl : zc = 0 := Nat.le_antisymm h2 h1
          exact OW.move rfl rfl (OW.nil (NX.givesD rfl hr))
        refine drawAll.cons (fun Lt zc w1 h1 h2 hr => ?_) ?_
        · obtain rfl : zc = 0 := Nat.le_antisymm h2 h1
          exact OW.move rfl rfl (OW.nil (NX.givesD rfl hr))
        refine drawAll.cons (fun Lt zc w1 h1 h2 hr => ?_) ?_
        · obtain rfl : zc = 0 := Nat.le_antisymm h2 h1
          exact OW.indexAddr rfl el135 rfl rfl ⟨by omega, by omega⟩ (OW.nil (NX.givesD rfl hr))
        refine drawAll.cons (fun Lt zc w1 h1 h2 hr => ?_) ?_
        · obtain rfl : zc = 0 := Nat.le_antisymm h2 h1
          exact OW.loadArrA rfl ag137 rfl (hs.arr.frame hr id) (show h < n by omega) (OW.nil (NX.givesD rfl hr))
        refine drawAll.cons (fun Lt zc w1 h1 h2 hr => ?_) ?_
        · obtain rfl : zc = 0 := Nat.le_antisymm h2 h1
          exact OW.move rfl rfl (OW.nil (NX.givesD rfl hr))
        refine drawAll.cons (fun Lt zc w1 h1 h2 hr => ?_) ?_
        · obtain rfl : zc = 0 := Nat.le_antisymm h2 h1
          exact OW.move rfl rfl (OW.nil (NX.givesD rfl hr))
        refine drawAll.cons (fun Lt zc w1 h1 h2 hr => ?_) ?_
        · obtain rfl : zc = 0 := Nat.le_antisymm h2 h1
          exact OW.indexAddr rfl el135 rfl rfl ⟨by omega, by omega⟩ (OW.nil (NX.givesD rfl hr))
        refine drawAll.cons (fun Lt zc w1 h1 h2 hr => ?_) ?_
        · obtain rfl : zc = 0 := Nat.le_antisymm h2 h1
          exact OW.loadArrA rfl ag137 rfl (hs.arr.frame hr id) (show a < n by omega) (OW.nil (NX.givesD rfl hr))
        refine drawAll.cons (fun Lt zc w1 h1 h2 hr => ?_) ?_
        · obtain rfl : zc = 0 := Nat.le_antisymm h2 h1
          refine OW.callF rfl rfl rfl hg (hcmp w1 (hs.fr.trans (Fr0.any hr)) (p (h)) (p (a)) (hp _ (by omega)) (hp _ (by omega))) ?_
          rintro _ w2 ⟨rfl, f2⟩
          exact OW.nil (NX.givesD rfl (Fr0.trans hr f2))
        refine drawAll.cons (fun Lt zc w1 h1 h2 hr => ?_) ?_
        · obtain rfl : zc = 0 := Nat.le_antisymm h2 h1
          exact OW.lss rfl rfl rfl (OW.nil (NX.givesD rfl hr))
        exact drawAll.nil
      intro w1 hr
      refine NX.seq ?_
      have hs1 := SS.draw hs hr
      refine CW.cond rfl (fun hlt => ?_) (fun hlt => ?_)
      · refine CW.region ?_
        refine OW.move rfl rfl ?_
        refine OW.add rfl rfl rfl (by omega) ?_
        refine OW.assign rfl rfl ?_
        refine OW.nil ?_
        refine NX.blockN ?_
        exact NX.loop (Lf := (fun (s : Nat × Nat) => match s with | (i, j) => [(0, .slice (some ⟨b, pre.length, none⟩) n cap), (1, .int .i64 ((a : Nat) : Int)), (2, .int .i64 ((m : Nat) : Int)), (3, .int .i64 ((e : Nat) : Int)), (4, .func (.func g) first cp), (10, .int .i64 ((i : Nat) : Int)), (11, .int .i64 ((j : Nat) : Int))])) (I := (fun (s : Nat × Nat) w' => match s with | (i, j) => m ≤ i ∧ i ≤ j ∧ j ≤ e ∧ (i = m ∨ lessOf cmp (p (i - 1)) (p a) = true) ∧ (j = e ∨ lessOf cmp (p j) (p a) = false) ∧ SS w0 w' b T 2 n pre post xs p)) (m := (fun (s : Nat × Nat) => match s with | (i, j) => j - i)) (i := (i, j)) (h + 1, j) ((Sub.cons rfl (Sub.cons rfl (Sub.cons rfl (Sub.cons rfl (Sub.cons rfl (Sub.cons rfl (Sub.cons rfl (Sub.nil _))))))))) (⟨by omega, by omega, hj, .inr (decide_eq_true hlt), hu, hs1⟩) (show j - (h + 1) < j - i from by omega)
      · refine CW.region ?_
        refine OW.move rfl rfl ?_
        refine OW.assign rfl rfl ?_
        refine OW.nil ?_
        refine NX.blockN ?_
        exact NX.loop (Lf := (fun (s : Nat × Nat) => match s with | (i, j) => [(0, .slice (some ⟨b, pre.length, none⟩) n cap), (1, .int .i64 ((a : Nat) : Int)), (2, .int .i64 ((m : Nat) : Int)), (3, .int .i64 ((e : Nat) : Int)), (4, .func (.func g) first cp), (10, .int .i64 ((i : Nat) : Int)), (11, .int .i64 ((j : Nat) : Int))])) (I := (fun (s : Nat × Nat) w' => match s with | (i, j) => m ≤ i ∧ i ≤ j ∧ j ≤ e ∧ (i = m ∨ lessOf cmp (p (i - 1)) (p a) = true) ∧ (j = e ∨ lessOf cmp (p j) (p a) = false) ∧ SS w0 w' b T 2 n pre post xs p)) (m := (fun (s : Nat × Nat) => match s with | (i, j) => j - i)) (i := (i, j)) (i, h) ((Sub.cons rfl (Sub.cons rfl (Sub.cons rfl (Sub.cons rfl (Sub.cons rfl (Sub.cons rfl (Sub.cons rfl (Sub.nil _))))))))) (⟨hi, by omega, by omega, hl, .inr (decide_eq_false hlt), hs1⟩) (show h - i < j - i from by omega)
    · have hij2 : i = j := by omega
      subst hij2
      refine CW.exit ?_
      refine NX.thenExit ?_
      refine NX.thenExit ?_
      refine NX.blockEq ?_
      refine NX.seq ?_
      refine CW.seq ?_
      refine CW.seq ?_
      refine CW.region ?_
      refine OW.move rfl rfl ?_
      refine OW.assign rfl rfl ?_
      refine OW.nil ?_
      refine NX.seq ?_
      refine CW.block ?_
      refine CW.loop (α := Nat) (fun k => [(0, .slice (some ⟨b, pre.length, none⟩) n cap), (1, .int .i64 ((a : Nat) : Int)), (2, .int .i64 ((m : Nat) : Int)), (3, .int .i64 ((e : Nat) : Int)), (4, .func (.func g) first cp), (10, .int .i64 ((i : Nat) : Int)), (13, .int .i64 ((k : Nat) : Int))]) (fun k u => a ≤ k ∧ k ≤ i - 1 ∧ SS w0 u b T 2 n pre post xs (shl p a k)) (fun k => i - k) a (Sub.cons rfl (Sub.cons rfl (Sub.cons rfl (Sub.cons rfl (Sub.cons rfl (Sub.cons rfl (Sub.cons rfl (Sub.nil _)))))))) ⟨Nat.le_refl _, by omega, by rw [shl_self]; exact hs⟩ ?_
      rintro k u ⟨hak, hki, hs⟩
      refine CW.seq ?_
      refine CW.seq ?_
      refine CW.region ?_
      refine OW.move rfl rfl ?_
      refine OW.move rfl rfl ?_
      refine OW.sub' rfl rfl rfl (by omega) ?_
      refine OW.lss rfl rfl rfl ?_
      refine OW.nil ?_
      refine NX.seq ?_
      refine CW.cond rfl (fun hk => ?_) (fun hk => ?_)
      · refine CW.skip ?_
        refine NX.seq ?_
        refine CW.seq ?_
        refine CW.block ?_
        refine CW.drawG [⟨0, 0, false⟩, ⟨0, 0, false⟩, ⟨0, 1, false⟩, ⟨0, 1, false⟩, ⟨0, 1, false⟩, ⟨0, 0, false⟩, ⟨0, 0, false⟩, ⟨0, 0, false⟩, ⟨0, 0, false⟩, ⟨0, 0, false⟩, ⟨0, 0, false⟩, ⟨0, 0, false⟩, ⟨0, 0, false⟩, ⟨0, 0, false⟩, ⟨0, 0, false⟩, ⟨0, 0, true⟩, ⟨1, 1, false⟩, ⟨1, 1, true⟩] 2 [.slice (some ⟨b, pre.length, none⟩) n cap, .int .i64 ((k : Nat) : Int), .slice (some ⟨b, pre.length, none⟩) n cap, .int .i64 ((k : Nat) : Int), .int .i64 ((k + 1 : Nat) : Int), .slice (some ⟨b, pre.length, none⟩) n cap, .int .i64 ((k : Nat) : Int), .int .i64 ((k + 1 : Nat) : Int), .pointer (some ⟨b, pre.length + (k + 1) * 2, none⟩), .agg (xs ((shl p a k) (k + 1))).toArray, .slice (some ⟨b, pre.length, none⟩) n cap, .int .i64 ((k : Nat) : Int), .pointer (some ⟨b, pre.length + (k) * 2, none⟩), .agg (xs ((shl p a k) (k))).toArray, .pointer (some ⟨b, pre.length + (k) * 2, none⟩), .tuple #[], .pointer (some ⟨b, pre.length + (k + 1) * 2, none⟩), .tuple #[]] (fun zc zw => match zc with | 0 => Fr0 u zw | 1 => Fr (fun k => k = b) u zw ∧ Arr zw b T 2 n pre post (fun zk => if zk = k then xs ((shl p a k) (k + 1)) else xs ((shl p a k) zk)) | _ => Fr (fun k => k = b) u zw ∧ Arr zw b T 2 n pre post (fun zk => xs (sw (shl p a k) (k) (k + 1) zk))) MIX rfl rfl (Fr.drew u) ?_ ?_
        · refine drawAll.cons (fun Lt zc w1 h1 h2 hr => ?_) ?_
          · obtain rfl : zc = 0 := Nat.le_antisymm h2 h1
            exact OW.move rfl rfl (OW.nil (NX.givesD rfl hr))
          refine drawAll.cons (fun Lt zc w1 h1 h2 hr => ?_) ?_
          · obtain rfl : zc = 0 := Nat.le_antisymm h2 h1
            exact OW.move rfl rfl (OW.nil (NX.givesD rfl hr))
          refine drawAll.cons (fun Lt zc w1 h1 h2 hr => ?_) ?_
          · exact OW.move rfl rfl (OW.nil (NX.givesD rfl hr))
          refine drawAll.cons (fun Lt zc w1 h1 h2 hr => ?_) ?_
          · exact OW.move rfl rfl (OW.nil (NX.givesD rfl hr))
          refine drawAll.cons (fun Lt zc w1 h1 h2 hr => ?_) ?_
          · refine OW.add rfl rfl rfl (by omega) (OW.nil (NX.givesD ?_ hr))
            first | rfl | exact congrArg (Value.int .i64) (by omega)
          refine drawAll.cons (fun Lt zc w1 h1 h2 hr => ?_) ?_
          · obtain rfl : zc = 0 := Nat.le_antisymm h2 h1
            exact OW.move rfl rfl (OW.nil (NX.givesD rfl hr))
          refine drawAll.cons (fun Lt zc w1 h1 h2 hr => ?_) ?_
          · obtain rfl : zc = 0 := Nat.le_antisymm h2 h1
            exact OW.move rfl rfl (OW.nil (NX.givesD rfl hr))
          refine drawAll.cons (fun Lt zc w1 h1 h2 hr => ?_) ?_
          · obtain rfl : zc = 0 := Nat.le_antisymm h2 h1
            refine OW.add rfl rfl rfl (by omega) (OW.nil (NX.givesD ?_ hr))
            first | rfl | exact congrArg (Value.int .i64) (by omega)
          refine drawAll.cons (fun Lt zc w1 h1 h2 hr => ?_) ?_
          · obtain rfl : zc = 0 := Nat.le_antisymm h2 h1
            exact OW.indexAddr rfl el135 rfl rfl ⟨by omega, by omega⟩ (OW.nil (NX.givesD rfl hr))
          refine drawAll.cons (fun Lt zc w1 h1 h2 hr => ?_) ?_
          · obtain rfl : zc = 0 := Nat.le_antisymm h2 h1
            exact OW.loadArrA rfl ag137 rfl (hs.arr.frame hr id) (show k + 1 < n by omega) (OW.nil (NX.givesD rfl hr))
          refine drawAll.cons (fun Lt zc w1 h1 h2 hr => ?_) ?_
          · obtain rfl : zc = 0 := Nat.le_antisymm h2 h1
            exact OW.move rfl rfl (OW.nil (NX.givesD rfl hr))
          refine drawAll.cons (fun Lt zc w1 h1 h2 hr => ?_) ?_
          · obtain rfl : zc = 0 := Nat.le_antisymm h2 h1
            exact OW.move rfl rfl (OW.nil (NX.givesD rfl hr))
          refine drawAll.cons (fun Lt zc w1 h1 h2 hr => ?_) ?_
          · obtain rfl : zc = 0 := Nat.le_antisymm h2 h1
            exact OW.indexAddr rfl el135 rfl rfl ⟨by omega, by omega⟩ (OW.nil (NX.givesD rfl hr))
          refine drawAll.cons (fun Lt zc w1 h1 h2 hr => ?_) ?_
          · obtain rfl : zc = 0 := Nat.le_antisymm h2 h1
            exact OW.loadArrA rfl ag137 rfl (hs.arr.frame hr id) (show k < n by omega) (OW.nil (NX.givesD rfl hr))
          refine drawAll.cons (fun Lt zc w1 h1 h2 hr => ?_) ?_
          · obtain rfl : zc = 0 := Nat.le_antisymm h2 h1
            exact OW.indexAddr rfl el135 rfl rfl ⟨by omega, by omega⟩ (OW.nil (NX.givesD rfl hr))
          refine drawAll.cons (fun Lt zc w1 h1 h2 hr => ?_) ?_
          · obtain rfl : zc = 0 := Nat.le_antisymm h2 h1
            refine OW.storeArrA rfl rfl sz137 (hs.arr.frame hr id) (show k < n by omega) (hs.arr.len (k + 1) (by omega)) (hs.arr.one (k + 1) (by omega)) fun w2 f2 a2 => ?_
            exact OW.nil (NX.givesN ⟨(Fr0.any hr).trans f2, a2⟩)
          refine drawAll.cons (fun Lt zc w1 h1 h2 hr => ?_) ?_
          · obtain rfl : zc = 1 := Nat.le_antisymm h2 h1
            exact OW.indexAddr rfl el135 rfl rfl ⟨by omega, by omega⟩ (OW.nil (NX.givesD rfl hr))
          refine drawAll.cons (fun Lt zc w1 h1 h2 hr => ?_) ?_
          · obtain rfl : zc = 1 := Nat.le_antisymm h2 h1
            refine OW.storeArrA rfl rfl sz137 hr.2 (show k + 1 < n by omega) (hs.arr.len (k) (by omega)) (hs.arr.one (k) (by omega)) fun w2 f2 a2 => ?_
            exact OW.nil (NX.givesN ⟨hr.1.trans f2, a2.eq (sw_eq xs (shl p a k) (show k ≠ k + 1 by omega))⟩)
          exact drawAll.nil
        intro w1 hr
        refine NX.blockN ?_
        refine NX.seq ?_
        have hs1 := SS.step hs hr.1 hr.2
        refine CW.region ?_
        refine OW.move rfl rfl ?_
        refine OW.add rfl rfl rfl (by omega) ?_
        refine OW.assign rfl rfl ?_
        refine OW.nil ?_
        exact NX.loop (k + 1) ((Sub.cons rfl (Sub.cons rfl (Sub.cons rfl (Sub.cons rfl (Sub.cons rfl (Sub.cons rfl (Sub.cons rfl (Sub.nil _))))))))) (⟨by omega, by omega, by rw [← shl_next p hak]; exact hs1⟩) (by omega)
      · refine CW.exit ?_
        refine NX.thenExit ?_
        refine NX.thenExit ?_
        refine NX.blockEq ?_
        refine NX.seq ?_
        refine CW.ret ?_
        refine NX.thenRet ?_
        have e1 : k = i - 1 := by omega
        subst e1
        exact NX.ret0 (.inl rfl) rfl (⟨_, Pm.shl p (by omega) (by omega), merge_one_left ho hpre' ⟨by omega, hj⟩ (hl.imp (fun h => by omega) id) hu, hs⟩)
  · refine CW.skip ?_
    refine NX.seq ?_
    refine CW.seq ?_
    refine CW.seq ?_
    refine CW.region ?_
    refine OW.move rfl rfl ?_
    refine OW.move rfl rfl ?_
    refine OW.sub' rfl rfl rfl (by omega) ?_
    refine OW.eql rfl rfl rfl ?_
    refine OW.nil ?_
    refine NX.seq ?_
    refine CW.cond rfl (fun h2 => ?_) (fun h2 => ?_)
    · have hm : e = m + 1 := by omega
      have hpre' : SmPre (lessOf cmp) p a m (m + 1) := by rw [← hm]; exact hpre
      refine CW.seq ?_
      refine CW.region ?_
      refine OW.move rfl rfl ?_
      refine OW.assign rfl rfl ?_
      refine OW.nil ?_
      refine NX.seq ?_
      refine CW.seq ?_
      refine CW.region ?_
      refine OW.move rfl rfl ?_
      refine OW.assign rfl rfl ?_
      refine OW.nil ?_
      refine NX.seq ?_
      refine CW.seq ?_
      refine CW.block ?_
      refine CW.loop (α := Nat × Nat) (fun (s : Nat × Nat) => match s with | (i, j) => [(0, .slice (some ⟨b, pre.length, none⟩) n cap), (1, .int .i64 ((a : Nat) : Int)), (2, .int .i64 ((m : Nat) : Int)), (3, .int .i64 ((e : Nat) : Int)), (4, .func (.func g) first cp), (14, .int .i64 ((i : Nat) : Int)), (15, .int .i64 ((j : Nat) : Int))]) (fun (s : Nat × Nat) w' => match s with | (i, j) => a ≤ i ∧ i ≤ j ∧ j ≤ m ∧ (i = a ∨ lessOf cmp (p m) (p (i - 1)) = false) ∧ (j = m ∨ lessOf cmp (p m) (p j) = true) ∧ SS w0 w' b T 2 n pre post xs p) (fun (s : Nat × Nat) => match s with | (i, j) => j - i) ((a, m)) (Sub.cons rfl (Sub.cons rfl (Sub.cons rfl (Sub.cons rfl (Sub.cons rfl (Sub.cons rfl (Sub.cons rfl (Sub.nil _)))))))) (⟨by omega, by omega, by omega, .inl rfl, .inl rfl, hs⟩) ?_
      rintro ⟨i, j⟩ w' ⟨hi, hij, hj, hl, hu, hs⟩
      show CW _ _ _ _ _ _ [(0, .slice (some ⟨b, pre.length, none⟩) n cap), (1, .int .i64 ((a : Nat) : Int)), (2, .int .i64 ((m : Nat) : Int)), (3, .int .i64 ((e : Nat) : Int)), (4, .func (.func g) first cp), (14, .int .i64 ((i : Nat) : Int)), (15, .int .i64 ((j : Nat) : Int))] w'
      refine CW.seq ?_
      refine CW.seq ?_
      refine CW.region ?_
      refine OW.move rfl rfl ?_
      refine OW.move rfl rfl ?_
      refine OW.lss rfl rfl rfl ?_
      refine OW.nil ?_
      refine NX.seq ?_
      refine CW.cond rfl (fun hij2 => ?_) (fun hij2 => ?_)
      · obtain ⟨h, hh⟩ : ∃ h, h = (i + j) / 2 := ⟨_, rfl⟩
        refine CW.skip ?_
        refine NX.seq ?_
        refine CW.block ?_
        refine CW.seq ?_
        refine CW.region ?_
        refine OW.move rfl rfl ?_
        refine OW.move rfl rfl ?_
        refine OW.add rfl rfl rfl (by omega) ?_
        refine OW.convertI rfl un3 in101 rfl (w_u64 (by omega) (by omega)) ?_
        refine OW.shr rfl rfl rfl (by decide) ?_
        refine OW.slot (s := 90) rfl (half_eq (k := h) (by omega)) ?_
        refine OW.convertI rfl un101 in3 rfl (w_i64 (by omega) (by omega)) ?_
        refine OW.assign rfl rfl ?_
        refine OW.nil ?_
        refine NX.seq ?_
        refine CW.seq ?_
        refine CW.drawG [⟨0, 0, false⟩, ⟨0, 0, false⟩, ⟨0, 0, false⟩, ⟨0, 0, false⟩, ⟨0, 0, false⟩, ⟨0, 0, false⟩, ⟨0, 0, false⟩, ⟨0, 0, false⟩, ⟨0, 0, false⟩, ⟨0, 0, false⟩, ⟨0, 0, false⟩, ⟨0, 0, false⟩] 0 [.func (.func g) first cp, .slice (some ⟨b, pre.length, none⟩) n cap, .int .i64 ((m : Nat) : Int), .pointer (some ⟨b, pre.length + (m) * 2, none⟩), .agg (xs (p (m))).toArray, .slice (some ⟨b, pre.length, none⟩) n cap, .int .i64 ((h : Nat) : Int), .pointer (some ⟨b, pre.length + (h) * 2, none⟩), .agg (xs (p (h))).toArray, .int .i64 (cmp (p (m)) (p (h))), .bool (decide (cmp (p (m)) (p (h)) < 0)), .bool (decide (¬ (cmp (p (m)) (p (h)) < 0)))] (fun _ zw => Fr0 w' zw) MIX rfl rfl (Fr.drew w') ?_ ?_
        · refine drawAll.cons (fun Lt zc w1 h1 h2 hr => ?_) ?_
          · obtain rfl : zc = 0 := Nat.le_antisymm h2 h1
            exact OW.move rfl rfl (OW.nil (NX.givesD rfl hr))
          refine drawAll.cons (fun Lt zc w1 h1 h2 hr => ?_) ?_
          · obtain rfl : zc = 0 := Nat.le_antisymm h2 h1
            exact OW.move rfl rfl (OW.nil (NX.givesD rfl hr))
          refine drawAll.cons (fun Lt zc w1 h1 h2 hr => ?_) ?_
          · obtain rfl : zc = 0 := Nat.le_antisymm h2 h1
            exact OW.move rfl rfl (OW.nil (NX.givesD rfl hr))
          refine drawAll.cons (fun Lt zc w1 h1 h2 hr => ?_) ?_
          · obtain rfl : zc = 0 := Nat.le_antisymm h2 h1
            exact OW.indexAddr rfl el135 rfl rfl ⟨by omega, by omega⟩ (OW.nil (NX.givesD rfl hr))
          refine drawAll.cons (fun Lt zc w1 h1 h2 hr => ?_) ?_
          · obtain rfl : zc = 0 := Nat.le_antisymm h2 h1
            exact OW.loadArrA rfl ag137 rfl (hs.arr.frame hr id) (show m < n by omega) (OW.nil (NX.givesD rfl hr))
          refine drawAll.cons (fun Lt zc w1 h1 h2 hr => ?_) ?_
          · obtain rfl : zc = 0 := Nat.le_antisymm h2 h1
            exact OW.move rfl rfl (OW.nil (NX.givesD rfl hr))
          refine drawAll.cons (fun Lt zc w1 h1 h2 hr => ?_) ?_
          · obtain rfl : zc = 0 := Nat.le_antisymm h2 h1
            exact OW.move rfl rfl (OW.nil (NX.givesD rfl hr))
          refine drawAll.cons (fun Lt zc w1 h1 h2 hr => ?_) ?_
          · obtain rfl : zc = 0 := Nat.le_antisymm h2 h1
            exact OW.indexAddr rfl el135 rfl rfl ⟨by omega, by omega⟩ (OW.nil (NX.givesD rfl hr))
          refine drawAll.cons (fun Lt zc w1 h1 h2 hr => ?_) ?_
          · obtain rfl : zc = 0 := Nat.le_antisymm h2 h1
            exact OW.loadArrA rfl ag137 rfl (hs.arr.frame hr id) (show h < n by omega) (OW.nil (NX.givesD rfl hr))
          refine drawAll.cons (fun Lt zc w1 h1 h2 hr => ?_) ?_
          · obtain rfl : zc = 0 := Nat.le_antisymm h2 h1
            refine OW.callF rfl rfl rfl hg (hcmp w1 (hs.fr.trans (Fr0.any hr)) (p (m)) (p (h)) (hp _ (by omega)) (hp _ (by omega))) ?_
            rintro _ w2 ⟨rfl, f2⟩
            exact OW.nil (NX.givesD rfl (Fr0.trans hr f2))
          refine drawAll.cons (fun Lt zc w1 h1 h2 hr => ?_) ?_
          · obtain rfl : zc = 0 := Nat.le_antisymm h2 h1
            exact OW.lss rfl rfl rfl (OW.nil (NX.givesD rfl hr))
          refine drawAll.cons (fun Lt zc w1 h1 h2 hr => ?_) ?_
          · obtain rfl : zc = 0 := Nat.le_antisymm h2 h1
            exact OW.notD rfl rfl (OW.nil (NX.givesD rfl hr))
          exact drawAll.nil
        intro w1 hr
        refine NX.seq ?_
        have hs1 := SS.draw hs hr
        refine CW.cond rfl (fun hlt => ?_) (fun hlt => ?_)
        · refine CW.region ?_
          refine OW.move rfl rfl ?_
          refine OW.add rfl rfl rfl (by omega) ?_
          refine OW.assign rfl rfl ?_
          refine OW.nil ?_
          refine NX.blockN ?_
          exact NX.loop (Lf := (fun (s : Nat × Nat) => match s with | (i, j) => [(0, .slice (some ⟨b, pre.length, none⟩) n cap), (1, .int .i64 ((a : Nat) : Int)), (2, .int .i64 ((m : Nat) : Int)), (3, .int .i64 ((e : Nat) : Int)), (4, .func (.func g) first cp), (14, .int .i64 ((i : Nat) : Int)), (15, .int .i64 ((j : Nat) : Int))])) (I := (fun (s : Nat × Nat) w' => match s with | (i, j) => a ≤ i ∧ i ≤ j ∧ j ≤ m ∧ (i = a ∨ lessOf cmp (p m) (p (i - 1)) = false) ∧ (j = m ∨ lessOf cmp (p m) (p j) = true) ∧ SS w0 w' b T 2 n pre post xs p)) (m := (fun (s : Nat × Nat) => match s with | (i, j) => j - i)) (i := (i, j)) (h + 1, j) ((Sub.cons rfl (Sub.cons rfl (Sub.cons rfl (Sub.cons rfl (Sub.cons rfl (Sub.cons rfl (Sub.cons rfl (Sub.nil _))))))))) (⟨by omega, by omega, hj, .inr (decide_eq_false hlt), hu, hs1⟩) (show j - (h + 1) < j - i from by omega)
        · refine CW.region ?_
          refine OW.move rfl rfl ?_
          refine OW.assign rfl rfl ?_
          refine OW.nil ?_
          refine NX.blockN ?_
          exact NX.loop (Lf := (fun (s : Nat × Nat) => match s with | (i, j) => [(0, .slice (some ⟨b, pre.length, none⟩) n cap), (1, .int .i64 ((a : Nat) : Int)), (2, .int .i64 ((m : Nat) : Int)), (3, .int .i64 ((e : Nat) : Int)), (4, .func (.func g) first cp), (14, .int .i64 ((i : Nat) : Int)), (15, .int .i64 ((j : Nat) : Int))])) (I := (fun (s : Nat × Nat) w' => match s with | (i, j) => a ≤ i ∧ i ≤ j ∧ j ≤ m ∧ (i = a ∨ lessOf cmp (p m) (p (i - 1)) = false) ∧ (j = m ∨ lessOf cmp (p m) (p j) = true) ∧ SS w0 w' b T 2 n pre post xs p)) (m := (fun (s : Nat × Nat) => match s with | (i, j) => j - i)) (i := (i, j)) (i, h) ((Sub.cons rfl (Sub.cons rfl (Sub.cons rfl (Sub.cons rfl (Sub.cons rfl (Sub.cons rfl (Sub.cons rfl (Sub.nil _))))))))) (⟨hi, by omega, by omega, hl, .inr (decide_eq_true (Decidable.not_not.1 hlt)), hs1⟩) (show h - i < j - i from by omega)
      · have hij2 : i = j := by omega
        subst hij2
        refine CW.exit ?_
        refine NX.thenExit ?_
        refine NX.thenExit ?_
        refine NX.blockEq ?_
        refine NX.seq ?_
        refine CW.seq ?_
        refine CW.seq ?_
        refine CW.region ?_
        refine OW.move rfl rfl ?_
        refine OW.assign rfl rfl ?_
        refine OW.nil ?_
        refine NX.seq ?_
        refine CW.block ?_
        refine CW.loop (α := Nat) (fun k => [(0, .slice (some ⟨b, pre.length, none⟩) n cap), (1, .int .i64 ((a : Nat) : Int)), (2, .int .i64 ((m : Nat) : Int)), (3, .int .i64 ((e : Nat) : Int)), (4, .func (.func g) first cp), (14, .int .i64 ((i : Nat) : Int)), (17, .int .i64 ((k : Nat) : Int))]) (fun k u => i ≤ k ∧ k ≤ m ∧ SS w0 u b T 2 n pre post xs (shr p m k)) (fun k => k) m (Sub.cons rfl (Sub.cons rfl (Sub.cons rfl (Sub.cons rfl (Sub.cons rfl (Sub.cons rfl (Sub.cons rfl (Sub.nil _)))))))) ⟨hj, Nat.le_refl _, by rw [shr_self]; exact hs⟩ ?_
        rintro k u ⟨hik, hkm, hs⟩
        refine CW.seq ?_
        refine CW.seq ?_
        refine CW.region ?_
        refine OW.move rfl rfl ?_
        refine OW.move rfl rfl ?_
        refine OW.gtr rfl rfl rfl ?_
        refine OW.nil ?_
        refine NX.seq ?_
        refine CW.cond rfl (fun hk => ?_) (fun hk => ?_)
        · refine CW.skip ?_
          refine NX.seq ?_
          refine CW.seq ?_
          refine CW.block ?_
          refine CW.drawG [⟨0, 0, false⟩, ⟨0, 0, false⟩, ⟨0, 1, false⟩, ⟨0, 1, false⟩, ⟨0, 1, false⟩, ⟨0, 0, false⟩, ⟨0, 0, false⟩, ⟨0, 0, false⟩, ⟨0, 0, false⟩, ⟨0, 0, false⟩, ⟨0, 0, false⟩, ⟨0, 0, false⟩, ⟨0, 0, false⟩, ⟨0, 0, false⟩, ⟨0, 0, false⟩, ⟨0, 0, true⟩, ⟨1, 1, false⟩, ⟨1, 1, true⟩] 2 [.slice (some ⟨b, pre.length, none⟩) n cap, .int .i64 ((k : Nat) : Int), .slice (some ⟨b, pre.length, none⟩) n cap, .int .i64 ((k : Nat) : Int), .int .i64 ((k - 1 : Nat) : Int), .slice (some ⟨b, pre.length, none⟩) n cap, .int .i64 ((k : Nat) : Int), .int .i64 ((k - 1 : Nat) : Int), .pointer (some ⟨b, pre.length + (k - 1) * 2, none⟩), .agg (xs ((shr p m k) (k - 1))).toArray, .slice (some ⟨b, pre.length, none⟩) n cap, .int .i64 ((k : Nat) : Int), .pointer (some ⟨b, pre.length + (k) * 2, none⟩), .agg (xs ((shr p m k) (k))).toArray, .pointer (some ⟨b, pre.length + (k) * 2, none⟩), .tuple #[], .pointer (some ⟨b, pre.length + (k - 1) * 2, none⟩), .tuple #[]] (fun zc zw => match zc with | 0 => Fr0 u zw | 1 => Fr (fun k => k = b) u zw ∧ Arr zw b T 2 n pre post (fun zk => if zk = k then xs ((shr p m k) (k - 1)) else xs ((shr p m k) zk)) | _ => Fr (fun k => k = b) u zw ∧ Arr zw b T 2 n pre post (fun zk => xs (sw (shr p m k) (k) (k - 1) zk))) MIX rfl rfl (Fr.drew u) ?_ ?_
          · refine drawAll.cons (fun Lt zc w1 h1 h2 hr => ?_) ?_
            · obtain rfl : zc = 0 := Nat.le_antisymm h2 h1
              exact OW.move rfl rfl (OW.nil (NX.givesD rfl hr))
            refine drawAll.cons (fun Lt zc w1 h1 h2 hr => ?_) ?_
            · obtain rfl : zc = 0 := Nat.le_antisymm h2 h1
              exact OW.move rfl rfl (OW.nil (NX.givesD rfl hr))
            refine drawAll.cons (fun Lt zc w1 h1 h2 hr => ?_) ?_
            · exact OW.move rfl rfl (OW.nil (NX.givesD rfl hr))
            refine drawAll.cons (fun Lt zc w1 h1 h2 hr => ?_) ?_
            · exact OW.move rfl rfl (OW.nil (NX.givesD rfl hr))
            refine drawAll.cons (fun Lt zc w1 h1 h2 hr => ?_) ?_
            · refine OW.sub' rfl rfl rfl (by omega) (OW.nil (NX.givesD ?_ hr))
              first | rfl | exact congrArg (Value.int .i64) (by omega)
            refine drawAll.cons (fun Lt zc w1 h1 h2 hr => ?_) ?_
            · obtain rfl : zc = 0 := Nat.le_antisymm h2 h1
              exact OW.move rfl rfl (OW.nil (NX.givesD rfl hr))
            refine drawAll.cons (fun Lt zc w1 h1 h2 hr => ?_) ?_
            · obtain rfl : zc = 0 := Nat.le_antisymm h2 h1
              exact OW.move rfl rfl (OW.nil (NX.givesD rfl hr))
            refine drawAll.cons (fun Lt zc w1 h1 h2 hr => ?_) ?_
            · obtain rfl : zc = 0 := Nat.le_antisymm h2 h1
              refine OW.sub' rfl rfl rfl (by omega) (OW.nil (NX.givesD ?_ hr))
              first | rfl | exact congrArg (Value.int .i64) (by omega)
            refine drawAll.cons (fun Lt zc w1 h1 h2 hr => ?_) ?_
            · obtain rfl : zc = 0 := Nat.le_antisymm h2 h1
              exact OW.indexAddr rfl el135 rfl rfl ⟨by omega, by omega⟩ (OW.nil (NX.givesD rfl hr))
            refine drawAll.cons (fun Lt zc w1 h1 h2 hr => ?_) ?_
            · obtain rfl : zc = 0 := Nat.le_antisymm h2 h1
              exact OW.loadArrA rfl ag137 rfl (hs.arr.frame hr id) (show k - 1 < n by omega) (OW.nil (NX.givesD rfl hr))
            refine drawAll.cons (fun Lt zc w1 h1 h2 hr => ?_) ?_
            · obtain rfl : zc = 0 := Nat.le_antisymm h2 h1
              exact OW.move rfl rfl (OW.nil (NX.givesD rfl hr))
            refine drawAll.cons (fun Lt zc w1 h1 h2 hr => ?_) ?_
            · obtain rfl : zc = 0 := Nat.le_antisymm h2 h1
              exact OW.move rfl rfl (OW.nil (NX.givesD rfl hr))
            refine drawAll.cons (fun Lt zc w1 h1 h2 hr => ?_) ?_
            · obtain rfl : zc = 0 := Nat.le_antisymm h2 h1
              exact OW.indexAddr rfl el135 rfl rfl ⟨by omega, by omega⟩ (OW.nil (NX.givesD rfl hr))
            refine drawAll.cons (fun Lt zc w1 h1 h2 hr => ?_) ?_
            · obtain rfl : zc = 0 := Nat.le_antisymm h2 h1
              exact OW.loadArrA rfl ag137 rfl (hs.arr.frame hr id) (show k < n by omega) (OW.nil (NX.givesD rfl hr))
            refine drawAll.cons (fun Lt zc w1 h1 h2 hr => ?_) ?_
            · obtain rfl : zc = 0 := Nat.le_antisymm h2 h1
              exact OW.indexAddr rfl el135 rfl rfl ⟨by omega, by omega⟩ (OW.nil (NX.givesD rfl hr))
            refine drawAll.cons (fun Lt zc w1 h1 h2 hr => ?_) ?_
            · obtain rfl : zc = 0 := Nat.le_antisymm h2 h1
              refine OW.storeArrA rfl rfl sz137 (hs.arr.frame hr id) (show k < n by omega) (hs.arr.len (k - 1) (by omega)) (hs.arr.one (k - 1) (by omega)) fun w2 f2 a2 => ?_
              exact OW.nil (NX.givesN ⟨(Fr0.any hr).trans f2, a2⟩)
            refine drawAll.cons (fun Lt zc w1 h1 h2 hr => ?_) ?_
            · obtain rfl : zc = 1 := Nat.le_antisymm h2 h1
              exact OW.indexAddr rfl el135 rfl rfl ⟨by omega, by omega⟩ (OW.nil (NX.givesD rfl hr))
            refine drawAll.cons (fun Lt zc w1 h1 h2 hr => ?_) ?_
            · obtain rfl : zc = 1 := Nat.le_antisymm h2 h1
              refine OW.storeArrA rfl rfl sz137 hr.2 (show k - 1 < n by omega) (hs.arr.len (k) (by omega)) (hs.arr.one (k) (by omega)) fun w2 f2 a2 => ?_
              exact OW.nil (NX.givesN ⟨hr.1.trans f2, a2.eq (sw_eq xs (shr p m k) (show k ≠ k - 1 by omega))⟩)
            exact drawAll.nil
          intro w1 hr
          refine NX.blockN ?_
          refine NX.seq ?_
          have hs1 := SS.step hs hr.1 hr.2
          refine CW.region ?_
          refine OW.move rfl rfl ?_
          refine OW.sub' rfl rfl rfl (by omega) ?_
          refine OW.assign rfl rfl ?_
          refine OW.nil ?_
          refine NX.slot (s := 17) rfl (congrArg (Value.int .i64) (show (_ : Int) = ((k - 1 : Nat) : Int) by omega)) ?_
          exact NX.loop (k - 1) ((Sub.cons rfl (Sub.cons rfl (Sub.cons rfl (Sub.cons rfl (Sub.cons rfl (Sub.cons rfl (Sub.cons rfl (Sub.nil _))))))))) (⟨by omega, by omega, by rw [← shr_next p hkm (by omega)]; exact hs1⟩) (by omega)
        · refine CW.exit ?_
          refine NX.thenExit ?_
          refine NX.thenExit ?_
          refine NX.blockEq ?_
          refine NX.seq ?_
          refine CW.ret ?_
          refine NX.thenRet ?_
          have e1 : k = i := by omega
          subst e1
          exact NX.ret0 (.inl rfl) rfl (⟨_, Pm.shr p (by omega) (by omega) (by omega), by rw [hm]; exact merge_one_right ho hpre' ⟨by omega, by omega⟩ hl hu, hs⟩)
    · obtain ⟨d, hd⟩ : ∃ d, d = (a + e) / 2 := ⟨_, rfl⟩
      refine CW.skip ?_
      refine NX.seq ?_
      refine CW.seq ?_
      refine CW.region ?_
      refine OW.move rfl rfl ?_
      refine OW.move rfl rfl ?_
      refine OW.add rfl rfl rfl (by omega) ?_
      refine OW.convertI rfl un3 in101 rfl (w_u64 (by omega) (by omega)) ?_
      refine OW.shr rfl rfl rfl (by decide) ?_
      refine OW.slot (s := 133) rfl (half_eq (k := d) (by omega)) ?_
      refine OW.convertI rfl un101 in3 rfl (w_i64 (by omega) (by omega)) ?_
      refine OW.assign rfl rfl ?_
      refine OW.nil ?_
      refine NX.seq ?_
      refine CW.seq ?_
      refine CW.region ?_
      refine OW.move rfl rfl ?_
      refine OW.move rfl rfl ?_
      refine OW.add rfl rfl rfl (by omega) ?_
      refine OW.assign rfl rfl ?_
      refine OW.nil ?_
      refine NX.seq ?_
      refine CW.seq ?_
      refine CW.region ?_
      refine OW.assign rfl rfl ?_
      refine OW.assign rfl rfl ?_
      refine OW.nil ?_
      refine NX.seq ?_
      refine CW.mid (α := Nat × Nat) (fun (s : Nat × Nat) => [(0, .slice (some ⟨b, pre.length, none⟩) n cap), (1, .int .i64 ((a : Nat) : Int)), (2, .int .i64 ((m : Nat) : Int)), (3, .int .i64 ((e : Nat) : Int)), (4, .func (.func g) first cp), (18, .int .i64 ((d : Nat) : Int)), (19, .int .i64 ((d + m : Nat) : Int)), (20, .int .i64 ((s.1 : Nat) : Int)), (21, .int .i64 ((s.2 : Nat) : Int))]) (fun (s : Nat × Nat) w' => a ≤ s.1 ∧ (d < m ∧ s.1 = d + m - e ∧ s.2 = d ∨ m ≤ d ∧ s.1 = a ∧ s.2 = m) ∧ SS w0 w' b T 2 n pre post xs p) ?_ ?_
      · refine CW.seq ?_
        refine CW.region ?_
        refine OW.move rfl rfl ?_
        refine OW.move rfl rfl ?_
        refine OW.gtr rfl rfl rfl ?_
        refine OW.nil ?_
        refine NX.seq ?_
        refine CW.cond rfl (fun hmd => ?_) (fun hmd => ?_)
        · refine CW.seq ?_
          refine CW.region ?_
          refine OW.move rfl rfl ?_
          refine OW.move rfl rfl ?_
          refine OW.sub' rfl rfl rfl (by omega) ?_
          refine OW.assign rfl rfl ?_
          refine OW.nil ?_
          refine NX.seq ?_
          refine CW.region ?_
          refine OW.move rfl rfl ?_
          refine OW.assign rfl rfl ?_
          refine OW.nil ?_
          refine NX.slot (s := 20) rfl (congrArg (Value.int .i64) (show (_ : Int) = ((d + m - e : Nat) : Int) by omega)) ?_
          exact NX.mid ((d + m - e, d)) ((Sub.cons rfl (Sub.cons rfl (Sub.cons rfl (Sub.cons rfl (Sub.cons rfl (Sub.cons rfl (Sub.cons rfl (Sub.cons rfl (Sub.cons rfl (Sub.nil _))))))))))) (⟨by show a ≤ d + m - e; omega, .inl ⟨by omega, rfl, rfl⟩, hs⟩)
        · refine CW.seq ?_
          refine CW.region ?_
          refine OW.move rfl rfl ?_
          refine OW.assign rfl rfl ?_
          refine OW.nil ?_
          refine NX.seq ?_
          refine CW.region ?_
          refine OW.move rfl rfl ?_
          refine OW.assign rfl rfl ?_
          refine OW.nil ?_
          exact NX.mid ((a, m)) ((Sub.cons rfl (Sub.cons rfl (Sub.cons rfl (Sub.cons rfl (Sub.cons rfl (Sub.cons rfl (Sub.cons rfl (Sub.cons rfl (Sub.cons rfl (Sub.nil _))))))))))) (⟨by show a ≤ a; omega, .inr ⟨by omega, rfl, rfl⟩, hs⟩)
      · rintro ⟨s0, r0⟩ w' ⟨hs0, hcase, hs⟩
        dsimp only at hs0 hcase
        show CW _ _ _ _ _ _ [(0, .slice (some ⟨b, pre.length, none⟩) n cap), (1, .int .i64 ((a : Nat) : Int)), (2, .int .i64 ((m : Nat) : Int)), (3, .int .i64 ((e : Nat) : Int)), (4, .func (.func g) first cp), (18, .int .i64 ((d : Nat) : Int)), (19, .int .i64 ((d + m : Nat) : Int)), (20, .int .i64 ((s0 : Nat) : Int)), (21, .int .i64 ((r0 : Nat) : Int))] w'
        refine CW.seq ?_
        refine CW.region ?_
        refine OW.move rfl rfl ?_
        refine OW.sub' rfl rfl rfl (by omega) ?_
        refine OW.assign rfl rfl ?_
        refine OW.nil ?_
        refine NX.seq ?_
        refine CW.seq ?_
        refine CW.block ?_
        refine CW.slot (s := 22) rfl (congrArg (Value.int .i64) (show (_ : Int) = ((d + m - 1 : Nat) : Int) by omega)) ?_
        refine CW.loop (α := Nat × Nat) (fun (s : Nat × Nat) => match s with | (i, j) => [(0, .slice (some ⟨b, pre.length, none⟩) n cap), (1, .int .i64 ((a : Nat) : Int)), (2, .int .i64 ((m : Nat) : Int)), (3, .int .i64 ((e : Nat) : Int)), (4, .func (.func g) first cp), (18, .int .i64 ((d : Nat) : Int)), (19, .int .i64 ((d + m : Nat) : Int)), (20, .int .i64 ((i : Nat) : Int)), (21, .int .i64 ((j : Nat) : Int)), (22, .int .i64 ((d + m - 1 : Nat) : Int))]) (fun (s : Nat × Nat) u => match s with | (i, j) => s0 ≤ i ∧ i ≤ j ∧ j ≤ r0 ∧ (i = s0 ∨ lessOf cmp (p (d + m - 1 - (i - 1))) (p (i - 1)) = false) ∧ (j = r0 ∨ lessOf cmp (p (d + m - 1 - j)) (p j) = true) ∧ SS w0 u b T 2 n pre post xs p) (fun (s : Nat × Nat) => match s with | (i, j) => j - i) ((s0, r0)) (Sub.cons rfl (Sub.cons rfl (Sub.cons rfl (Sub.cons rfl (Sub.cons rfl (Sub.cons rfl (Sub.cons rfl (Sub.cons rfl (Sub.cons rfl (Sub.cons rfl (Sub.nil _))))))))))) (⟨by omega, by omega, by omega, .inl rfl, .inl rfl, hs⟩) ?_
        rintro ⟨i, j⟩ u ⟨hi, hij, hj, hl, hu, hs⟩
        show CW _ _ _ _ _ _ [(0, .slice (some ⟨b, pre.length, none⟩) n cap), (1, .int .i64 ((a : Nat) : Int)), (2, .int .i64 ((m : Nat) : Int)), (3, .int .i64 ((e : Nat) : Int)), (4, .func (.func g) first cp), (18, .int .i64 ((d : Nat) : Int)), (19, .int .i64 ((d + m : Nat) : Int)), (20, .int .i64 ((i : Nat) : Int)), (21, .int .i64 ((j : Nat) : Int)), (22, .int .i64 ((d + m - 1 : Nat) : Int))] u
        refine CW.seq ?_
        refine CW.seq ?_
        refine CW.region ?_
        refine OW.move rfl rfl ?_
        refine OW.move rfl rfl ?_
        refine OW.lss rfl rfl rfl ?_
        refine OW.nil ?_
        refine NX.seq ?_
        refine CW.cond rfl (fun hij2 => ?_) (fun hij2 => ?_)
        · obtain ⟨h, hh⟩ : ∃ h, h = (i + j) / 2 := ⟨_, rfl⟩
          refine CW.skip ?_
          refine NX.seq ?_
          refine CW.block ?_
          refine CW.seq ?_
          refine CW.region ?_
          refine OW.move rfl rfl ?_
          refine OW.move rfl rfl ?_
          refine OW.add rfl rfl rfl (by omega) ?_
          refine OW.convertI rfl un3 in101 rfl (w_u64 (by omega) (by omega)) ?_
          refine OW.shr rfl rfl rfl (by decide) ?_
          refine OW.slot (s := 156) rfl (half_eq (k := h) (by omega)) ?_
          refine OW.convertI rfl un101 in3 rfl (w_i64 (by omega) (by omega)) ?_
          refine OW.assign rfl rfl ?_
          refine OW.nil ?_
          refine NX.seq ?_
          refine CW.seq ?_
          refine CW.drawG [⟨0, 0, false⟩, ⟨0, 0, false⟩, ⟨0, 0, false⟩, ⟨0, 0, false⟩, ⟨0, 0, false⟩, ⟨0, 0, false⟩, ⟨0, 0, false⟩, ⟨0, 0, false⟩, ⟨0, 0, false⟩, ⟨0, 0, false⟩, ⟨0, 0, false⟩, ⟨0, 0, false⟩, ⟨0, 0, false⟩, ⟨0, 0, false⟩] 0 [.func (.func g) first cp, .slice (some ⟨b, pre.length, none⟩) n cap, .int .i64 ((d + m - 1 : Nat) : Int), .int .i64 ((h : Nat) : Int), .int .i64 ((d + m - 1 - h : Nat) : Int), .pointer (some ⟨b, pre.length + (d + m - 1 - h) * 2, none⟩), .agg (xs (p (d + m - 1 - h))).toArray, .slice (some ⟨b, pre.length, none⟩) n cap, .int .i64 ((h : Nat) : Int), .pointer (some ⟨b, pre.length + (h) * 2, none⟩), .agg (xs (p (h))).toArray, .int .i64 (cmp (p (d + m - 1 - h)) (p (h))), .bool (decide (cmp (p (d + m - 1 - h)) (p (h)) < 0)), .bool (decide (¬ (cmp (p (d + m - 1 - h)) (p (h)) < 0)))] (fun _ zw => Fr0 u zw) MIX rfl rfl (Fr.drew u) ?_ ?_
          · refine drawAll.cons (fun Lt zc w1 h1 h2 hr => ?_) ?_
            · obtain rfl : zc = 0 := Nat.le_antisymm h2 h1
              exact OW.move rfl rfl (OW.nil (NX.givesD rfl hr))
            refine drawAll.cons (fun Lt zc w1 h1 h2 hr => ?_) ?_
            · obtain rfl : zc = 0 := Nat.le_antisymm h2 h1
              exact OW.move rfl rfl (OW.nil (NX.givesD rfl hr))
            refine drawAll.cons (fun Lt zc w1 h1 h2 hr => ?_) ?_
            · obtain rfl : zc = 0 := Nat.le_antisymm h2 h1
              exact OW.move rfl rfl (OW.nil (NX.givesD rfl hr))
            refine drawAll.cons (fun Lt zc w1 h1 h2 hr => ?_) ?_
            · obtain rfl : zc = 0 := Nat.le_antisymm h2 h1
              exact OW.move rfl rfl (OW.nil (NX.givesD rfl hr))
            refine drawAll.cons (fun Lt zc w1 h1 h2 hr => ?_) ?_
            · obtain rfl : zc = 0 := Nat.le_antisymm h2 h1
              refine OW.sub' rfl rfl rfl (by omega) (OW.nil (NX.givesD ?_ hr))
              first | rfl | exact congrArg (Value.int .i64) (by omega)
            refine drawAll.cons (fun Lt zc w1 h1 h2 hr => ?_) ?_
            · obtain rfl : zc = 0 := Nat.le_antisymm h2 h1
              exact OW.indexAddr rfl el135 rfl rfl ⟨by omega, by omega⟩ (OW.nil (NX.givesD rfl hr))
            refine drawAll.cons (fun Lt zc w1 h1 h2 hr => ?_) ?_
            · obtain rfl : zc = 0 := Nat.le_antisymm h2 h1
              exact OW.loadArrA rfl ag137 rfl (hs.arr.frame hr id) (show d + m - 1 - h < n by omega) (OW.nil (NX.givesD rfl hr))
            refine drawAll.cons (fun Lt zc w1 h1 h2 hr => ?_) ?_
            · obtain rfl : zc = 0 := Nat.le_antisymm h2 h1
              exact OW.move rfl rfl (OW.nil (NX.givesD rfl hr))
            refine drawAll.cons (fun Lt zc w1 h1 h2 hr => ?_) ?_
            · obtain rfl : zc = 0 := Nat.le_antisymm h2 h1
              exact OW.move rfl rfl (OW.nil (NX.givesD rfl hr))
            refine drawAll.cons (fun Lt zc w1 h1 h2 hr => ?_) ?_
            · obtain rfl : zc = 0 := Nat.le_antisymm h2 h1
              exact OW.indexAddr rfl el135 rfl rfl ⟨by omega, by omega⟩ (OW.nil (NX.givesD rfl hr))
            refine drawAll.cons (fun Lt zc w1 h1 h2 hr => ?_) ?_
            · obtain rfl : zc = 0 := Nat.le_antisymm h2 h1
              exact OW.loadArrA rfl ag137 rfl (hs.arr.frame hr id) (show h < n by omega) (OW.nil (NX.givesD rfl hr))
            refine drawAll.cons (fun Lt zc w1 h1 h2 hr => ?_) ?_
            · obtain rfl : zc = 0 := Nat.le_antisymm h2 h1
              refine OW.callF rfl rfl rfl hg (hcmp w1 (hs.fr.trans (Fr0.any hr)) (p (d + m - 1 - h)) (p (h)) (hp _ (by omega)) (hp _ (by omega))) ?_
              rintro _ w2 ⟨rfl, f2⟩
              exact OW.nil (NX.givesD rfl (Fr0.trans hr f2))
            refine drawAll.cons (fun Lt zc w1 h1 h2 hr => ?_) ?_
            · obtain rfl : zc = 0 := Nat.le_antisymm h2 h1
              exact OW.lss rfl rfl rfl (OW.nil (NX.givesD rfl hr))
            refine drawAll.cons (fun Lt zc w1 h1 h2 hr => ?_) ?_
            · obtain rfl : zc = 0 := Nat.le_antisymm h2 h1
              exact OW.notD rfl rfl (OW.nil (NX.givesD rfl hr))
            exact drawAll.nil
          intro w1 hr
          refine NX.seq ?_
          have hs1 := SS.draw hs hr
          refine CW.cond rfl (fun hlt => ?_) (fun hlt => ?_)
          · refine CW.region ?_
            refine OW.move rfl rfl ?_
            refine OW.add rfl rfl rfl (by omega) ?_
            refine OW.assign rfl rfl ?_
            refine OW.nil ?_
            refine NX.blockN ?_
            exact NX.loop (Lf := (fun (s : Nat × Nat) => match s with | (i, j) => [(0, .slice (some ⟨b, pre.length, none⟩) n cap), (1, .int .i64 ((a : Nat) : Int)), (2, .int .i64 ((m : Nat) : Int)), (3, .int .i64 ((e : Nat) : Int)), (4, .func (.func g) first cp), (18, .int .i64 ((d : Nat) : Int)), (19, .int .i64 ((d + m : Nat) : Int)), (20, .int .i64 ((i : Nat) : Int)), (21, .int .i64 ((j : Nat) : Int)), (22, .int .i64 ((d + m - 1 : Nat) : Int))])) (I := (fun (s : Nat × Nat) u => match s with | (i, j) => s0 ≤ i ∧ i ≤ j ∧ j ≤ r0 ∧ (i = s0 ∨ lessOf cmp (p (d + m - 1 - (i - 1))) (p (i - 1)) = false) ∧ (j = r0 ∨ lessOf cmp (p (d + m - 1 - j)) (p j) = true) ∧ SS w0 u b T 2 n pre post xs p)) (m := (fun (s : Nat × Nat) => match s with | (i, j) => j - i)) (i := (i, j)) (h + 1, j) ((Sub.cons rfl (Sub.cons rfl (Sub.cons rfl (Sub.cons rfl (Sub.cons rfl (Sub.cons rfl (Sub.cons rfl (Sub.cons rfl (Sub.cons rfl (Sub.cons rfl (Sub.nil _)))))))))))) (⟨by omega, by omega, hj, .inr (decide_eq_false hlt), hu, hs1⟩) (show j - (h + 1) < j - i from by omega)
          · refine CW.region ?_
            refine OW.move rfl rfl ?_
            refine OW.assign rfl rfl ?_
            refine OW.nil ?_
            refine NX.blockN ?_
            exact NX.loop (Lf := (fun (s : Nat × Nat) => match s with | (i, j) => [(0, .slice (some ⟨b, pre.length, none⟩) n cap), (1, .int .i64 ((a : Nat) : Int)), (2, .int .i64 ((m : Nat) : Int)), (3, .int .i64 ((e : Nat) : Int)), (4, .func (.func g) first cp), (18, .int .i64 ((d : Nat) : Int)), (19, .int .i64 ((d + m : Nat) : Int)), (20, .int .i64 ((i : Nat) : Int)), (21, .int .i64 ((j : Nat) : Int)), (22, .int .i64 ((d + m - 1 : Nat) : Int))])) (I := (fun (s : Nat × Nat) u => match s with | (i, j) => s0 ≤ i ∧ i ≤ j ∧ j ≤ r0 ∧ (i = s0 ∨ lessOf cmp (p (d + m - 1 - (i - 1))) (p (i - 1)) = false) ∧ (j = r0 ∨ lessOf cmp (p (d + m - 1 - j)) (p j) = true) ∧ SS w0 u b T 2 n pre post xs p)) (m := (fun (s : Nat × Nat) => match s with | (i, j) => j - i)) (i := (i, j)) (i, h) ((Sub.cons rfl (Sub.cons rfl (Sub.cons rfl (Sub.cons rfl (Sub.cons rfl (Sub.cons rfl (Sub.cons rfl (Sub.cons rfl (Sub.cons rfl (Sub.cons rfl (Sub.nil _)))))))))))) (⟨hi, by omega, by omega, hl, .inr (decide_eq_true (Decidable.not_not.1 hlt)), hs1⟩) (show h - i < j - i from by omega)
        · have hij2 : i = j := by omega
          subst hij2
          obtain ⟨E, hE⟩ : ∃ E, E = d + m - i := ⟨_, rfl⟩
          have hcut : SmCut (lessOf cmp) p a m e i E d := by
            refine ⟨by omega, by omega, by omega, by omega, by omega, by omega, by omega, ?_, ?_⟩
            · by_cases c : i = s0
              · omega
              · have e1 : d + m - 1 - (i - 1) = E := by omega
                rw [e1] at hl
                exact .inr (.inr (hl.resolve_left c))
            · by_cases c : i = r0
              · omega
              · have e1 : d + m - 1 - i = E - 1 := by omega
                rw [e1] at hu
                exact .inr (.inr (hu.resolve_left c))
          obtain ⟨g1, g2, g3, g4, g5, g6, g7⟩ := hcut.parts ho hpre
          have hc1 := hcut.s0
          have hc2 := hcut.s1
          have hc3 := hcut.s2
          have hc4 := hcut.e1
          have hc5 := hcut.e0
          have hc6 := hcut.bd
          have hc7 := hcut.sum
          clear hl hu hcut hcase
          refine CW.exit ?_
          refine NX.thenExit ?_
          refine NX.thenExit ?_
          refine NX.blockEq ?_
          refine NX.seq ?_
          refine CW.seq ?_
          refine CW.region ?_
          refine OW.move rfl rfl ?_
          refine OW.move rfl rfl ?_
          refine OW.sub' rfl rfl rfl (by omega) ?_
          refine OW.assign rfl rfl ?_
          refine OW.nil ?_
          refine NX.seq ?_
          refine CW.slot (s := 24) rfl (congrArg (Value.int .i64) (show (_ : Int) = ((E : Nat) : Int) by omega)) ?_
          refine CW.mid (α := Unit) (fun _ => [(0, .slice (some ⟨b, pre.length, none⟩) n cap), (1, .int .i64 ((a : Nat) : Int)), (2, .int .i64 ((m : Nat) : Int)), (3, .int .i64 ((e : Nat) : Int)), (4, .func (.func g) first cp), (18, .int .i64 ((d : Nat) : Int)), (20, .int .i64 ((i : Nat) : Int)), (24, .int .i64 ((E : Nat) : Int))]) (fun _ w' => SS w0 w' b T 2 n pre post xs (rot p i m E)) ?_ ?_
          · refine CW.seq ?_
            refine CW.region ?_
            refine OW.move rfl rfl ?_
            refine OW.move rfl rfl ?_
            refine OW.lss rfl rfl rfl ?_
            refine OW.move rfl rfl ?_
            refine OW.ways (s := 181) rfl (fun hb1 => ?_) (fun hb1 => ?_)
            · refine OW.gyes rfl rfl ?_
              refine OW.move rfl rfl ?_
              refine OW.gyes rfl rfl ?_
              refine OW.move rfl rfl ?_
              refine OW.gyes rfl rfl ?_
              refine OW.lss rfl rfl rfl ?_
              refine OW.pickT rfl rfl rfl ?_
              refine OW.nil ?_
              refine NX.seq ?_
              refine CW.cond rfl (fun hb2 => ?_) (fun hb2 => ?_)
              · refine CW.region ?_
                refine OW.move rfl rfl ?_
                refine OW.move rfl rfl ?_
                refine OW.move rfl rfl ?_
                refine OW.move rfl rfl ?_
                refine OW.move rfl rfl ?_
                refine OW.call rfl rfl cl150 (rotate_SI hs i m E (by omega) (by omega) (by omega) hn) ?_
                rintro _ w2 hs2
                refine OW.nil ?_
                exact NX.mid (()) ((Sub.cons rfl (Sub.cons rfl (Sub.cons rfl (Sub.cons rfl (Sub.cons rfl (Sub.cons rfl (Sub.cons rfl (Sub.cons rfl (Sub.nil _)))))))))) (hs2)
              · refine CW.skip ?_
                exact NX.mid (()) ((Sub.cons rfl (Sub.cons rfl (Sub.cons rfl (Sub.cons rfl (Sub.cons rfl (Sub.cons rfl (Sub.cons rfl (Sub.cons rfl (Sub.nil _)))))))))) (by rw [rot_none p hc2 hc4 (by omega)]; exact hs)
            · refine OW.gnoD rfl rfl rfl rfl ?_
              refine OW.gnoD rfl rfl rfl rfl ?_
              refine OW.gnoD rfl rfl rfl rfl ?_
              refine OW.pickF rfl rfl rfl ?_
              refine OW.nil ?_
              refine NX.seq ?_
              refine CW.condF rfl ?_
              refine CW.skip ?_
              exact NX.mid (()) ((Sub.cons rfl (Sub.cons rfl (Sub.cons rfl (Sub.cons rfl (Sub.cons rfl (Sub.cons rfl (Sub.cons rfl (Sub.cons rfl (Sub.nil _)))))))))) (by rw [rot_none p hc2 hc4 (by omega)]; exact hs)
          · rintro _ w2 hs2
            obtain ⟨P1, hP1⟩ : ∃ P1, P1 = rot p i m E := ⟨_, rfl⟩
            have hpm1 : Pm a e p P1 := by rw [hP1]; exact (Pm.rot p hc2 hc4).wide (by omega) (by omega)
            rw [← hP1] at g1 g2 g3 g4 g5 g6 g7 hs2
            have hp1 : ∀ k, k < n → P1 k < n := fun k hk => hpm1.all (c := 0) (d := n) (by omega) (T := fun x => x < n) (fun k _ h2 => hp k h2) k (by omega) hk
            refine CW.mid (α := Unit) (fun _ => [(0, .slice (some ⟨b, pre.length, none⟩) n cap), (1, .int .i64 ((a : Nat) : Int)), (2, .int .i64 ((m : Nat) : Int)), (3, .int .i64 ((e : Nat) : Int)), (4, .func (.func g) first cp), (18, .int .i64 ((d : Nat) : Int)), (20, .int .i64 ((i : Nat) : Int)), (24, .int .i64 ((E : Nat) : Int))]) (fun _ w' => ∃ q, Pm a d P1 q ∧ So (lessOf cmp) q a d ∧ SS w0 w' b T 2 n pre post xs q) ?_ ?_
            · refine CW.seq ?_
              refine CW.region ?_
              refine OW.move rfl rfl ?_
              refine OW.move rfl rfl ?_
              refine OW.lss rfl rfl rfl ?_
              refine OW.move rfl rfl ?_
              refine OW.ways (s := 195) rfl (fun hb1 => ?_) (fun hb1 => ?_)
              · refine OW.gyes rfl rfl ?_
                refine OW.move rfl rfl ?_
                refine OW.gyes rfl rfl ?_
                refine OW.move rfl rfl ?_
                refine OW.gyes rfl rfl ?_
                refine OW.lss rfl rfl rfl ?_
                refine OW.pickT rfl rfl rfl ?_
                refine OW.nil ?_
                refine NX.seq ?_
                refine CW.cond rfl (fun hb2 => ?_) (fun hb2 => ?_)
                · refine CW.region ?_
                  refine OW.move rfl rfl ?_
                  refine OW.move rfl rfl ?_
                  refine OW.move rfl rfl ?_
                  refine OW.move rfl rfl ?_
                  refine OW.move rfl rfl ?_
                  refine OW.call rfl rfl cl147 (ih a i d w2 P1 (by omega) ⟨by omega, by omega, g2, g3, g4⟩ (by omega) hp1 hs2) ?_
                  rintro _ w3 ⟨q1, hq1, hso1, hs3⟩
                  refine OW.nil ?_
                  exact NX.mid (()) ((Sub.cons rfl (Sub.cons rfl (Sub.cons rfl (Sub.cons rfl (Sub.cons rfl (Sub.cons rfl (Sub.cons rfl (Sub.cons rfl (Sub.nil _)))))))))) (⟨q1, hq1, hso1, hs3⟩)
                · refine CW.skip ?_
                  have e1 : i = d := by omega
                  subst e1
                  exact NX.mid (()) ((Sub.cons rfl (Sub.cons rfl (Sub.cons rfl (Sub.cons rfl (Sub.cons rfl (Sub.cons rfl (Sub.cons rfl (Sub.cons rfl (Sub.nil _)))))))))) (⟨P1, Pm.refl _ _ _, g2, hs2⟩)
              · refine OW.gnoD rfl rfl rfl rfl ?_
                refine OW.gnoD rfl rfl rfl rfl ?_
                refine OW.gnoD rfl rfl rfl rfl ?_
                refine OW.pickF rfl rfl rfl ?_
                refine OW.nil ?_
                refine NX.seq ?_
                refine CW.condF rfl ?_
                refine CW.skip ?_
                have e1 : i = a := by omega
                subst e1
                exact NX.mid (()) ((Sub.cons rfl (Sub.cons rfl (Sub.cons rfl (Sub.cons rfl (Sub.cons rfl (Sub.cons rfl (Sub.cons rfl (Sub.cons rfl (Sub.nil _)))))))))) (⟨P1, Pm.refl _ _ _, g3, hs2⟩)
            · rintro _ w3 ⟨q1, hq1, hso1, hs3⟩
              have g1' := g1.pm hq1 (.inl ⟨by omega, by omega⟩)
              have g5' := g5.out hq1 (.inr (by omega))
              have g6' := g6.out hq1 (.inr (by omega))
              have g7' := g7.out hq1 (.inr (by omega))
              have hp2 : ∀ k, k < n → q1 k < n := fun k hk => hq1.all (c := 0) (d := n) (by omega) (T := fun x => x < n) (fun k _ h2 => hp1 k h2) k (by omega) hk
              have hend : ∀ q2, Pm d e q1 q2 → So (lessOf cmp) q2 d e → Pm a e p q2 ∧ So (lessOf cmp) q2 a e := fun q2 h1 h2 => ⟨(hpm1.trans (hq1.wide (by omega) (by omega))).trans (h1.wide (by omega) (by omega)), So.join (hso1.out h1 (.inl (by omega))) h2 (g1'.pm h1 (.inr ⟨by omega, by omega⟩))⟩
              refine CW.seq ?_
              refine CW.region ?_
              refine OW.move rfl rfl ?_
              refine OW.move rfl rfl ?_
              refine OW.lss rfl rfl rfl ?_
              refine OW.move rfl rfl ?_
              refine OW.ways (s := 209) rfl (fun hb1 => ?_) (fun hb1 => ?_)
              · refine OW.gyes rfl rfl ?_
                refine OW.move rfl rfl ?_
                refine OW.gyes rfl rfl ?_
                refine OW.move rfl rfl ?_
                refine OW.gyes rfl rfl ?_
                refine OW.lss rfl rfl rfl ?_
                refine OW.pickT rfl rfl rfl ?_
                refine OW.nil ?_
                refine NX.seq ?_
                refine CW.cond rfl (fun hb2 => ?_) (fun hb2 => ?_)
                · refine CW.region ?_
                  refine OW.move rfl rfl ?_
                  refine OW.move rfl rfl ?_
                  refine OW.move rfl rfl ?_
                  refine OW.move rfl rfl ?_
                  refine OW.move rfl rfl ?_
                  refine OW.call rfl rfl cl147 (ih d E e w3 q1 (by omega) ⟨by omega, by omega, g5', g6', g7'⟩ hen hp2 hs3) ?_
                  rintro _ w4 ⟨q2, hq2, hso2, hs4⟩
                  refine OW.nil ?_
                  exact NX.ret0 (.inr rfl) rfl (⟨q2, (hend q2 hq2 hso2).1, (hend q2 hq2 hso2).2, hs4⟩)
                · refine CW.skip ?_
                  have e1 : E = e := by omega
                  subst e1
                  have h0 := hend q1 (Pm.refl _ _ _) g5'
                  exact NX.ret0 (.inr rfl) rfl (⟨q1, h0.1, h0.2, hs3⟩)
              · refine OW.gnoD rfl rfl rfl rfl ?_
                refine OW.gnoD rfl rfl rfl rfl ?_
                refine OW.gnoD rfl rfl rfl rfl ?_
                refine OW.pickF rfl rfl rfl ?_
                refine OW.nil ?_
                refine NX.seq ?_
                refine CW.condF rfl ?_
                refine CW.skip ?_
                have e1 : E = d := by omega
                subst e1
                have h0 := hend q1 (Pm.refl _ _ _) g6'
                exact NX.ret0 (.inr rfl) rfl (⟨q1, h0.1, h0.2, hs3⟩)

theorem stable_SI {w0 w : World} {b T n cap : Nat} {pre post : List Value} {xs : Nat → List Value} {cv : Value} {cmp : Nat → Nat → Int} (hC : Cmpr Try.prog cv w0 b (fun c => .agg c.toArray) n xs cmp) (ho : SOrd (lessOf cmp)) (hn : n ≤ 140737488355328) (hs : SS w0 w b T 2 n pre post xs id) :
    Does Try.prog 142 [.slice (some ⟨b, pre.length, none⟩) n cap, .int .i64 ((n : Nat) : Int), cv] w fun _ w' => ∃ q, Pm 0 n id q ∧ So (lessOf cmp) q 0 n ∧ SS w0 w' b T 2 n pre post xs q := by
  obtain ⟨g, first, cp, rfl, hg, hcmp⟩ := hC
  refine Does.enter Try.func142 rfl rfl ?_
  show CW _ _ _ _ 63 [] [(0, .slice (some ⟨b, pre.length, none⟩) n cap), (1, .int .i64 ((n : Nat) : Int)), (2, .func (.func g) first cp)] w
  have hC' : Cmpr Try.prog (.func (.func g) first cp) w0 b (fun c => .agg c.toArray) n xs cmp := ⟨g, first, cp, rfl, hg, hcmp⟩
  refine CW.seq ?_
  refine CW.region ?_
  refine OW.assign rfl rfl ?_
  refine OW.nil ?_
  refine NX.seq ?_
  refine CW.seq ?_
  refine CW.region ?_
  refine OW.move rfl rfl ?_
  refine OW.assign rfl rfl ?_
  refine OW.assign rfl rfl ?_
  refine OW.nil ?_
  refine NX.seq ?_
  refine CW.seq ?_
  refine CW.block ?_
  refine CW.loop (α := Nat) (fun a => [(0, .slice (some ⟨b, pre.length, none⟩) n cap), (1, .int .i64 ((n : Nat) : Int)), (2, .func (.func g) first cp), (6, .int .i64 ((20 : Nat) : Int)), (7, .int .i64 ((a : Nat) : Int)), (8, .int .i64 ((a + 20 : Nat) : Int))]) (fun a w' => ∃ q, Pm 0 n id q ∧ (∀ k, a ≤ k → q k = k) ∧ Left (lessOf cmp) q 20 a n ∧ a ≤ n ∧ SS w0 w' b T 2 n pre post xs q) (fun a => n - a) 0 (Sub.cons rfl (Sub.cons rfl (Sub.cons rfl (Sub.cons rfl (Sub.cons rfl (Sub.cons rfl (Sub.nil _))))))) ⟨id, Pm.refl _ _ _, fun _ _ => rfl, Left.zero, by omega, hs⟩ ?_
  rintro a w' ⟨q, hpm, hid, hleft, han, hs⟩
  have hb : ∀ k, k < n → q k < n := fun k hk => hpm.all (c := 0) (d := n) (by omega) (T := fun x => x < n) (fun k _ h2 => h2) k (by omega) hk
  refine CW.seq ?_
  refine CW.seq ?_
  refine CW.region ?_
  refine OW.move rfl rfl ?_
  refine OW.move rfl rfl ?_
  refine OW.leq rfl rfl rfl ?_
  refine OW.nil ?_
  refine NX.seq ?_
  refine CW.cond rfl (fun hbn => ?_) (fun hbn => ?_)
  · refine CW.skip ?_
    refine NX.seq ?_
    refine CW.block ?_
    refine CW.seq ?_
    refine CW.region ?_
    refine OW.move rfl rfl ?_
    refine OW.move rfl rfl ?_
    refine OW.move rfl rfl ?_
    refine OW.move rfl rfl ?_
    refine OW.call rfl rfl cl146 (ins_SI hC' ho hn hs hb a (a + 20) (by omega) (by omega) (fun i j h1 h2 h3 => by rw [hid i h1, hid j (by omega)]; exact h2)) ?_
    rintro _ w2 ⟨q1, hq1, hso1, hs1⟩
    refine OW.nil ?_
    refine NX.seq ?_
    refine CW.seq ?_
    refine CW.region ?_
    refine OW.move rfl rfl ?_
    refine OW.assign rfl rfl ?_
    refine OW.nil ?_
    refine NX.seq ?_
    refine CW.region ?_
    refine OW.move rfl rfl ?_
    refine OW.move rfl rfl ?_
    refine OW.add rfl rfl rfl (by omega) ?_
    refine OW.assign rfl rfl ?_
    refine OW.nil ?_
    refine NX.blockN ?_
    exact NX.loop (a + 20) ((Sub.cons rfl (Sub.cons rfl (Sub.cons rfl (Sub.cons rfl (Sub.cons rfl (Sub.cons rfl (Sub.nil _)))))))) (⟨q1, hpm.trans (hq1.wide (by omega) (by omega)), fun k hk => by rw [hq1.out (by omega)]; exact hid k (by omega), hleft.next (by omega) hq1 (.inl ⟨rfl, by omega⟩) hso1 (OwnR.pm (fun k h1 h2 => by rw [hid k h1]; exact ⟨h1, h2⟩) hq1), by omega, hs1⟩) (by omega)
  · refine CW.exit ?_
    refine NX.thenExit ?_
    refine NX.thenExit ?_
    refine NX.blockEq ?_
    refine NX.seq ?_
    refine CW.seq ?_
    refine CW.region ?_
    refine OW.move rfl rfl ?_
    refine OW.move rfl rfl ?_
    refine OW.move rfl rfl ?_
    refine OW.move rfl rfl ?_
    refine OW.call rfl rfl cl146 (ins_SI hC' ho hn hs hb a (n) (by omega) (by omega) (fun i j h1 h2 h3 => by rw [hid i h1, hid j (by omega)]; exact h2)) ?_
    rintro _ w2 ⟨q1, hq1, hso1, hs1⟩
    have hruns : Runs (lessOf cmp) q1 20 0 n := by
      by_cases c : a < n
      · exact (hleft.next c hq1 (.inr ⟨rfl, by omega⟩) hso1 (OwnR.pm (fun k h1 h2 => by rw [hid k h1]; exact ⟨h1, h2⟩) hq1)).end (by omega)
      · exact (show Left (lessOf cmp) q1 20 a n from fun q' e hr => hleft q' (fun k hk => by rw [e k hk, hq1.out (by omega)]) hr).end (by omega)
    have hpm1 : Pm 0 n id q1 := hpm.trans (hq1.wide (by omega) (by omega))
    clear hb hs hso1 hq1 hleft hid hpm
    refine OW.nil ?_
    refine NX.seq ?_
    refine CW.block ?_
    refine CW.loop (α := Nat) (fun bs => [(0, .slice (some ⟨b, pre.length, none⟩) n cap), (1, .int .i64 ((n : Nat) : Int)), (2, .func (.func g) first cp), (6, .int .i64 ((bs : Nat) : Int))]) (fun bs w' => 1 ≤ bs ∧ ∃ q, Pm 0 n id q ∧ Runs (lessOf cmp) q bs 0 n ∧ SS w0 w' b T 2 n pre post xs q) (fun bs => n - bs) 20 (Sub.cons rfl (Sub.cons rfl (Sub.cons rfl (Sub.cons rfl (Sub.nil _))))) ⟨by omega, q1, hpm1, hruns, hs1⟩ ?_
    rintro bs w3 ⟨hbs, q3, hpm3, hruns3, hs3⟩
    refine CW.seq ?_
    refine CW.seq ?_
    refine CW.region ?_
    refine OW.move rfl rfl ?_
    refine OW.move rfl rfl ?_
    refine OW.lss rfl rfl rfl ?_
    refine OW.nil ?_
    refine NX.seq ?_
    refine CW.cond rfl (fun hbn => ?_) (fun hbn => ?_)
    · refine CW.skip ?_
      refine NX.seq ?_
      refine CW.block ?_
      refine CW.seq ?_
      refine CW.region ?_
      refine OW.move rfl rfl ?_
      refine OW.mul rfl rfl rfl (by omega) ?_
      refine OW.assign rfl rfl ?_
      refine OW.assign rfl rfl ?_
      refine OW.nil ?_
      refine NX.seq ?_
      refine CW.seq ?_
      refine CW.block ?_
      refine CW.slot (s := 8) rfl (congrArg (Value.int .i64) (show (_ : Int) = ((0 + 2 * bs : Nat) : Int) by omega)) ?_
      refine CW.loop (α := Nat) (fun a => [(0, .slice (some ⟨b, pre.length, none⟩) n cap), (1, .int .i64 ((n : Nat) : Int)), (2, .func (.func g) first cp), (6, .int .i64 ((bs : Nat) : Int)), (7, .int .i64 ((a : Nat) : Int)), (8, .int .i64 ((a + 2 * bs : Nat) : Int))]) (fun a w' => ∃ q, Pm 0 n id q ∧ Left (lessOf cmp) q (2 * bs) a n ∧ Runs (lessOf cmp) q bs a n ∧ a ≤ n ∧ SS w0 w' b T 2 n pre post xs q) (fun a => n - a) 0 (Sub.cons rfl (Sub.cons rfl (Sub.cons rfl (Sub.cons rfl (Sub.cons rfl (Sub.cons rfl (Sub.nil _))))))) ⟨q3, hpm3, Left.zero, hruns3, by omega, hs3⟩ ?_
      rintro a w4 ⟨q, hpm, hleft, hruns4, han, hs⟩
      have hb : ∀ k, k < n → q k < n := fun k hk => hpm.all (c := 0) (d := n) (by omega) (T := fun x => x < n) (fun k _ h2 => h2) k (by omega) hk
      refine CW.seq ?_
      refine CW.seq ?_
      refine CW.region ?_
      refine OW.move rfl rfl ?_
      refine OW.move rfl rfl ?_
      refine OW.leq rfl rfl rfl ?_
      refine OW.nil ?_
      refine NX.seq ?_
      refine CW.cond rfl (fun hba => ?_) (fun hba => ?_)
      · obtain ⟨z1, hz1, hsa, hoa, hr1⟩ := hruns4.inv (by omega)
        have e1 : z1 = a + bs := by omega
        subst e1
        obtain ⟨z2, hz2, hsb, hob, hr2⟩ := hr1.inv (by omega)
        have e2 : z2 = a + 2 * bs := by omega
        subst e2
        refine CW.skip ?_
        refine NX.seq ?_
        refine CW.block ?_
        refine CW.seq ?_
        refine CW.region ?_
        refine OW.move rfl rfl ?_
        refine OW.move rfl rfl ?_
        refine OW.move rfl rfl ?_
        refine OW.move rfl rfl ?_
        refine OW.add rfl rfl rfl (by omega) ?_
        refine OW.move rfl rfl ?_
        refine OW.move rfl rfl ?_
        refine OW.slot (s := 40) rfl (congrArg (Value.int .i64) (show (_ : Int) = ((a + bs : Nat) : Int) by omega)) ?_
        refine OW.call rfl rfl cl147 (sym_SI hC' ho hn (2 * bs) a (a + bs) (a + 2 * bs) _ q (by omega) ⟨by omega, by omega, hsa, hsb, hoa.ahead hob⟩ (by omega) hb hs) ?_
        rintro _ w5 ⟨q2, hq2, hso2, hs5⟩
        refine OW.nil ?_
        refine NX.seq ?_
        refine CW.seq ?_
        refine CW.region ?_
        refine OW.move rfl rfl ?_
        refine OW.assign rfl rfl ?_
        refine OW.nil ?_
        refine NX.seq ?_
        refine CW.region ?_
        refine OW.move rfl rfl ?_
        refine OW.move rfl rfl ?_
        refine OW.mul rfl rfl rfl (by omega) ?_
        refine OW.add rfl rfl rfl (by omega) ?_
        refine OW.assign rfl rfl ?_
        refine OW.nil ?_
        refine NX.blockN ?_
        refine NX.slot (s := 8) rfl (congrArg (Value.int .i64) (show (_ : Int) = ((a + 2 * bs + 2 * bs : Nat) : Int) by omega)) ?_
        exact NX.loop (a + 2 * bs) ((Sub.cons rfl (Sub.cons rfl (Sub.cons rfl (Sub.cons rfl (Sub.cons rfl (Sub.cons rfl (Sub.nil _)))))))) (⟨q2, hpm.trans (hq2.wide (by omega) (by omega)), hleft.next (by omega) hq2 (.inl ⟨rfl, by omega⟩) hso2 ((hoa.join hob (by omega) (by omega)).pm hq2), by rw [show a + 2 * bs = a + bs + bs by omega]; exact hr2.congr (fun k h1 h2 => hq2.out (by omega)), by omega, hs5⟩) (by omega)
      · refine CW.exit ?_
        refine NX.thenExit ?_
        refine NX.thenExit ?_
        refine NX.blockEq ?_
        refine NX.seq ?_
        refine CW.seq ?_
        refine CW.seq ?_
        refine CW.region ?_
        refine OW.move rfl rfl ?_
        refine OW.move rfl rfl ?_
        refine OW.add rfl rfl rfl (by omega) ?_
        refine OW.assign rfl rfl ?_
        refine OW.nil ?_
        refine NX.seq ?_
        refine CW.seq ?_
        refine CW.region ?_
        refine OW.move rfl rfl ?_
        refine OW.move rfl rfl ?_
        refine OW.lss rfl rfl rfl ?_
        refine OW.nil ?_
        refine NX.seq ?_
        refine CW.cond rfl (fun hmn => ?_) (fun hmn => ?_)
        · obtain ⟨z1, hz1, hsa, hoa, hr1⟩ := hruns4.inv (by omega)
          have e1 : z1 = a + bs := by omega
          subst e1
          obtain ⟨z2, hz2, hsb, hob, hr2⟩ := hr1.inv (by omega)
          have e2 : z2 = n := by omega
          rw [e2] at hsb hob
          refine CW.region ?_
          refine OW.move rfl rfl ?_
          refine OW.move rfl rfl ?_
          refine OW.move rfl rfl ?_
          refine OW.move rfl rfl ?_
          refine OW.move rfl rfl ?_
          refine OW.slot (s := 57) rfl (congrArg (Value.int .i64) (show (_ : Int) = ((a + bs : Nat) : Int) by omega)) ?_
          refine OW.call rfl rfl cl147 (sym_SI hC' ho hn n a (a + bs) n _ q (by omega) ⟨by omega, by omega, hsa, hsb, hoa.ahead hob⟩ (by omega) hb hs) ?_
          rintro _ w5 ⟨q2, hq2, hso2, hs5⟩
          refine OW.nil ?_
          refine NX.seq ?_
          refine CW.region ?_
          refine OW.move rfl rfl ?_
          refine OW.mul rfl rfl rfl (by omega) ?_
          refine OW.assign rfl rfl ?_
          refine OW.nil ?_
          refine NX.blockN ?_
          refine NX.slot (s := 6) rfl (congrArg (Value.int .i64) (show (_ : Int) = ((2 * bs : Nat) : Int) by omega)) ?_
          exact NX.loop (2 * bs) ((Sub.cons rfl (Sub.cons rfl (Sub.cons rfl (Sub.cons rfl (Sub.nil _)))))) (⟨by omega, q2, hpm.trans (hq2.wide (by omega) (by omega)), (hleft.next (by omega) hq2 (.inr ⟨rfl, by omega⟩) hso2 ((hoa.join hob (by omega) (by omega)).pm hq2)).end (by omega), hs5⟩) (by omega)
        · have hfull : Runs (lessOf cmp) q (2 * bs) 0 n := by
            by_cases c : a < n
            · obtain ⟨z1, hz1, hsa, hoa, hr1⟩ := hruns4.inv c
              have e1 : z1 = n := by omega
              rw [e1] at hsa hoa
              exact (hleft.next c (Pm.refl _ _ _) (.inr ⟨rfl, by omega⟩) hsa hoa).end (by omega)
            · exact hleft.end (by omega)
          refine CW.skip ?_
          refine NX.seq ?_
          refine CW.region ?_
          refine OW.move rfl rfl ?_
          refine OW.mul rfl rfl rfl (by omega) ?_
          refine OW.assign rfl rfl ?_
          refine OW.nil ?_
          refine NX.blockN ?_
          refine NX.slot (s := 6) rfl (congrArg (Value.int .i64) (show (_ : Int) = ((2 * bs : Nat) : Int) by omega)) ?_
          exact NX.loop (2 * bs) ((Sub.cons rfl (Sub.cons rfl (Sub.cons rfl (Sub.cons rfl (Sub.nil _)))))) (⟨by omega, q, hpm, hfull, hs⟩) (by omega)
    · refine CW.exit ?_
      refine NX.thenExit ?_
      refine NX.thenExit ?_
      refine NX.blockEq ?_
      exact NX.ret0 (.inr rfl) rfl (⟨q3, hpm3, hruns3.zero (by omega), hs3⟩)

theorem sort_SI {w : World} {b T n cap : Nat} {pre post : List Value} {xs : Nat → List Value} {cv : Value} {cmp : Nat → Nat → Int} (hC : Cmpr Try.prog cv w b (fun c => .agg c.toArray) n xs cmp) (ho : SOrd (lessOf cmp)) (hn : n ≤ 140737488355328) (hA : Arr w b T 2 n pre post xs) :
    Does Try.prog 123 [.slice (some ⟨b, pre.length, none⟩) n cap, cv] w fun _ w' => ∃ q, Pm 0 n id q ∧ So (lessOf cmp) q 0 n ∧ Arr w' b T 2 n pre post (fun k => xs (q k)) ∧ Fr (fun k => k = b) w w' := by
  refine Does.enter Try.func123 rfl rfl ?_
  show CW _ _ _ _ 9 [] [(0, .slice (some ⟨b, pre.length, none⟩) n cap), (1, cv)] w
  refine CW.region ?_
  refine OW.move rfl rfl ?_
  refine OW.move rfl rfl ?_
  refine OW.len rfl el135 rfl ?_
  refine OW.move rfl rfl ?_
  refine OW.call rfl rfl cl142 (stable_SI hC ho hn ⟨Fr.refl _ _, hA⟩) ?_
  rintro _ w2 ⟨q, h1, h2, h3⟩
  refine OW.nil ?_
  exact NX.ret0 (.inr rfl) rfl (⟨q, h1, h2, h3.arr, h3.fr⟩)

theorem ins0_SI {w : World} {pa : Option Addr} {cap : Nat} {cv : Value} : Does Try.prog 146 [.slice pa 0 cap, .int .i64 0, .int .i64 0, cv] w fun _ w' => w' = w := by
  refine Does.enter Try.func146 rfl rfl ?_
  show CW _ _ _ _ 53 [] [(0, .slice pa 0 cap), (1, .int .i64 0), (2, .int .i64 0), (3, cv)] w
  refine CW.seq ?_
  refine CW.region ?_
  refine OW.move rfl rfl ?_
  refine OW.add rfl rfl rfl (by omega) ?_
  refine OW.assign rfl rfl ?_
  refine OW.nil ?_
  refine NX.seq ?_
  refine CW.block ?_
  refine CW.loop (α := Nat) (fun (_ : Nat) => [(0, .slice pa 0 cap), (1, .int .i64 0), (2, .int .i64 0), (3, cv), (8, .int .i64 1)]) (fun _ u => u = w) (fun _ => 0) 0 (Sub.cons rfl (Sub.cons rfl (Sub.cons rfl (Sub.cons rfl (Sub.cons rfl (Sub.nil _)))))) rfl ?_
  rintro _ u rfl
  refine CW.seq ?_
  refine CW.seq ?_
  refine CW.region ?_
  refine OW.move rfl rfl ?_
  refine OW.move rfl rfl ?_
  refine OW.lss rfl rfl rfl ?_
  refine OW.nil ?_
  refine NX.seq ?_
  refine CW.cond rfl (fun h => ?_) (fun h => ?_)
  · omega
  · refine CW.exit ?_
    refine NX.thenExit ?_
    refine NX.thenExit ?_
    refine NX.blockEq ?_
    exact NX.ret0 (.inr rfl) rfl (rfl)

theorem stable0_SI {w : World} {pa : Option Addr} {cap : Nat} {cv : Value} : Does Try.prog 142 [.slice pa 0 cap, .int .i64 0, cv] w fun _ w' => w' = w := by
  refine Does.enter Try.func142 rfl rfl ?_
  show CW _ _ _ _ 63 [] [(0, .slice pa 0 cap), (1, .int .i64 0), (2, cv)] w
  refine CW.seq ?_
  refine CW.region ?_
  refine OW.assign rfl rfl ?_
  refine OW.nil ?_
  refine NX.seq ?_
  refine CW.seq ?_
  refine CW.region ?_
  refine OW.move rfl rfl ?_
  refine OW.assign rfl rfl ?_
  refine OW.assign rfl rfl ?_
  refine OW.nil ?_
  refine NX.seq ?_
  refine CW.seq ?_
  refine CW.block ?_
  refine CW.loop (α := Nat) (fun (_ : Nat) => [(0, .slice pa 0 cap), (1, .int .i64 0), (2, cv), (6, .int .i64 20), (7, .int .i64 0), (8, .int .i64 20)]) (fun _ u => u = w) (fun _ => 0) 0 (Sub.cons rfl (Sub.cons rfl (Sub.cons rfl (Sub.cons rfl (Sub.cons rfl (Sub.cons rfl (Sub.nil _))))))) rfl ?_
  rintro _ u rfl
  refine CW.seq ?_
  refine CW.seq ?_
  refine CW.region ?_
  refine OW.move rfl rfl ?_
  refine OW.move rfl rfl ?_
  refine OW.leq rfl rfl rfl ?_
  refine OW.nil ?_
  refine NX.seq ?_
  refine CW.cond rfl (fun h => ?_) (fun h => ?_)
  · omega
  · refine CW.exit ?_
    refine NX.thenExit ?_
    refine NX.thenExit ?_
    refine NX.blockEq ?_
    refine NX.seq ?_
    refine CW.seq ?_
    refine CW.region ?_
    refine OW.move rfl rfl ?_
    refine OW.move rfl rfl ?_
    refine OW.move rfl rfl ?_
    refine OW.move rfl rfl ?_
    refine OW.call rfl rfl cl146 (ins0_SI) ?_
    rintro _ w2 rfl
    refine OW.nil ?_
    refine NX.seq ?_
    refine CW.block ?_
    refine CW.loop (α := Nat) (fun (_ : Nat) => [(0, .slice pa 0 cap), (1, .int .i64 0), (2, cv), (6, .int .i64 20)]) (fun _ u => u = w2) (fun _ => 0) 0 (Sub.cons rfl (Sub.cons rfl (Sub.cons rfl (Sub.cons rfl (Sub.nil _))))) rfl ?_
    rintro _ u rfl
    refine CW.seq ?_
    refine CW.seq ?_
    refine CW.region ?_
    refine OW.move rfl rfl ?_
    refine OW.move rfl rfl ?_
    refine OW.lss rfl rfl rfl ?_
    refine OW.nil ?_
    refine NX.seq ?_
    refine CW.cond rfl (fun h => ?_) (fun h => ?_)
    · omega
    · refine CW.exit ?_
      refine NX.thenExit ?_
      refine NX.thenExit ?_
      refine NX.blockEq ?_
      exact NX.ret0 (.inr rfl) rfl (rfl)

theorem sort0_SI {w : World} {pa : Option Addr} {cap : Nat} {cv : Value} : Does Try.prog 123 [.slice pa 0 cap, cv] w fun _ w' => w' = w := by
  refine Does.enter Try.func123 rfl rfl ?_
  show CW _ _ _ _ 9 [] [(0, .slice pa 0 cap), (1, cv)] w
  refine CW.region ?_
  refine OW.move rfl rfl ?_
  refine OW.move rfl rfl ?_
  refine OW.len rfl el135 rfl ?_
  refine OW.move rfl rfl ?_
  refine OW.call rfl rfl cl142 (stable0_SI) ?_
  rintro _ w2 rfl
  refine OW.nil ?_
  exact NX.ret0 (.inr rfl) rfl (rfl)

end Go.Eng.SI
