/-
  Functions of the packages diff, actions, cmp, slices, stepped through.
  No condition.
-/
import Derived.Test.YtmdhbgkmkmmmpaaDat2
import Derived.Test.YtmdhbgkmkmmmpaaProg
import Derived.KernelRfl
namespace Go.Eng.Dg
open Go Go.Eng Go.Proofs
theorem MIX : Try.prog.follows .mixedOrders = true := by kernel_rfl

theorem ag33 : aggSz Try.prog 33 = some 22 := by kernel_rfl
theorem ag82 : aggSz Try.prog 82 = some 23 := by kernel_rfl
theorem ag89 : aggSz Try.prog 89 = some 3 := by kernel_rfl
theorem cl124 : callable Try.prog 124 = true := by kernel_rfl
theorem cl83 : callable Try.prog 83 = true := by kernel_rfl
theorem cl84 : callable Try.prog 84 = true := by kernel_rfl
theorem cl85 : callable Try.prog 85 = true := by kernel_rfl
theorem ct3 : cellTy Try.prog 3 = true := by kernel_rfl
theorem ct75 : cellTy Try.prog 75 = true := by kernel_rfl
theorem eg89 : Try.prog.eqGuardType Try.prog.depth 89 = false := by kernel_rfl
theorem el34 : elemIs Try.prog 34 = some (75, 1) := by kernel_rfl
theorem el75 : elemIs Try.prog 75 = some (89, 3) := by kernel_rfl
theorem fo36_0 : fieldOff Try.prog 36 0 = some 0 := by kernel_rfl
theorem fo36_1 : fieldOff Try.prog 36 1 = some 1 := by kernel_rfl
theorem pl82 : placesIs Try.prog 82 = some [(0, 1), (1, 22)] := by kernel_rfl
theorem sz82 : sizeIs Try.prog 82 = some 23 := by kernel_rfl
theorem zr82 : zeroIs Try.prog 82 = some (.agg #[.int .i64 0, .int .u64 0, .int .u64 0, .int .u64 0, .int .u64 0, .int .u64 0, .int .u64 0, .int .u64 0, .int .u64 0, .int .u64 0, .int .u64 0, .int .u64 0, .int .u64 0, .int .u64 0, .int .u64 0, .int .u64 0, .int .u64 0, .int .u64 0, .int .u64 0, .int .u64 0, .int .u64 0, .int .u64 0, .int .u64 0]) := by kernel_rfl
theorem fl89 : Flat Try.prog 89 [.i8, .i8, .u64] := ⟨by kernel_rfl, by kernel_rfl, by kernel_rfl, by kernel_rfl⟩

theorem isNaN_does (a : Int) (w : World) : Does Try.prog 124 [.int .i64 a] w fun v w' => v = .bool false ∧ w' = w := by
  refine Does.enter Try.func124 rfl rfl ?_
  show CW _ _ _ _ 6 [] [(0, .int .i64 a)] w
  refine CW.seq ?_
  refine CW.region ?_
  refine OW.assign rfl rfl ?_
  refine OW.nil ?_
  refine NX.seq ?_
  refine CW.seq ?_
  refine CW.region ?_
  refine OW.move rfl rfl ?_
  refine OW.move rfl rfl ?_
  refine OW.neq rfl rfl rfl ?_
  refine OW.assign rfl rfl ?_
  refine OW.nil ?_
  refine NX.seq ?_
  refine CW.ret ?_
  exact NX.ret1 rfl rfl (⟨by simp, rfl⟩)

def cmpI (a b : Int) : Int := if a < b then -1 else if a > b then 1 else 0

theorem compare_does (a b : Int) (w : World) : Does Try.prog 69 [.int .i64 a, .int .i64 b] w fun v w' => v = .int .i64 (cmpI a b) ∧ w' = w := by
  refine Does.enter Try.func69 rfl rfl ?_
  show CW _ _ _ _ 20 [] [(0, .int .i64 a), (1, .int .i64 b)] w
  refine CW.seq ?_
  refine CW.region ?_
  refine OW.assign rfl rfl ?_
  refine OW.nil ?_
  refine NX.seq ?_
  refine CW.seq ?_
  refine CW.region ?_
  refine OW.move rfl rfl ?_
  refine OW.call rfl rfl cl124 (isNaN_does a w) ?_
  rintro v w1 ⟨rfl, rfl⟩
  refine OW.assign rfl rfl ?_
  refine OW.nil ?_
  refine NX.seq ?_
  refine CW.seq ?_
  refine CW.region ?_
  refine OW.move rfl rfl ?_
  refine OW.call rfl rfl cl124 (isNaN_does b w1) ?_
  rintro v w2 ⟨rfl, rfl⟩
  refine OW.assign rfl rfl ?_
  refine OW.nil ?_
  refine NX.seq ?_
  refine CW.seq ?_
  refine CW.seq ?_
  refine CW.region ?_
  refine OW.move rfl rfl ?_
  refine OW.nil ?_
  refine NX.seq ?_
  refine CW.condF rfl ?_
  refine CW.skip ?_
  refine NX.seq ?_
  refine CW.seq ?_
  refine CW.seq ?_
  refine CW.region ?_
  refine OW.move rfl rfl ?_
  refine OW.nil ?_
  refine NX.seq ?_
  refine CW.condF rfl ?_
  refine CW.skip ?_
  refine NX.seq ?_
  refine CW.seq ?_
  refine CW.seq ?_
  refine CW.region ?_
  refine OW.move rfl rfl ?_
  refine OW.move rfl rfl ?_
  refine OW.lss rfl rfl rfl ?_
  refine OW.nil ?_
  refine NX.seq ?_
  refine CW.cond rfl (fun h1 => ?_) (fun h1 => ?_)
  · refine CW.seq ?_
    refine CW.region ?_
    refine OW.assign rfl rfl ?_
    refine OW.nil ?_
    refine NX.seq ?_
    refine CW.ret ?_
    refine NX.thenRet ?_
    exact NX.ret1 rfl rfl (⟨by rw [cmpI, if_pos h1], rfl⟩)
  · refine CW.skip ?_
    refine NX.seq ?_
    refine CW.seq ?_
    refine CW.seq ?_
    refine CW.region ?_
    refine OW.move rfl rfl ?_
    refine OW.move rfl rfl ?_
    refine OW.gtr rfl rfl rfl ?_
    refine OW.nil ?_
    refine NX.seq ?_
    refine CW.cond rfl (fun h2 => ?_) (fun h2 => ?_)
    · refine CW.seq ?_
      refine CW.region ?_
      refine OW.assign rfl rfl ?_
      refine OW.nil ?_
      refine NX.seq ?_
      refine CW.ret ?_
      refine NX.thenRet ?_
      exact NX.ret1 rfl rfl (⟨by rw [cmpI, if_neg h1, if_pos h2], rfl⟩)
    · refine CW.skip ?_
      refine NX.seq ?_
      refine CW.seq ?_
      refine CW.region ?_
      refine OW.assign rfl rfl ?_
      refine OW.nil ?_
      refine NX.seq ?_
      refine CW.ret ?_
      exact NX.ret1 rfl rfl (⟨by rw [cmpI, if_neg h1, if_neg h2], rfl⟩)

theorem ruleCells_mat {rk : Int} {m : Mat} {cv : Value} {ck : Nat} (j : Nat) (v : Value) (e : m.cells[j]? = some v) : (ruleCells rk m cv ck)[1 + j]? = some v := by
  simp only [ruleCells]
  rw [Nat.add_comm, List.getElem?_cons_succ]
  have hj : j < m.cells.length := by
    rcases Nat.lt_or_ge j m.cells.length with c | c
    · exact c
    · rw [List.getElem?_eq_none c] at e; cases e
  rw [List.getElem?_append_left hj]; exact e

theorem at_does (rk : Int) (m : Mat) (cv : Value) (ck : Nat) (w : World) : Does Try.prog 80 [.agg (ruleCells rk m cv ck).toArray] w fun v w' => v = plV ⟨rk, m⟩ ∧ Fr0 w w' := by
  refine Does.enter Try.func80 rfl rfl ?_
  show CW _ _ _ _ 8 [] [(0, .agg (ruleCells rk m cv ck).toArray)] w
  refine CW.seq ?_
  refine CW.region ?_
  refine OW.boxA rfl rfl ?_
  intro b1 w1 n1
  refine OW.alloc rfl zr82 ?_
  intro b2 w2 n2
  have h1 : Bk w2 b1 36 (ruleCells rk m cv ck) := n1.bk.frame n2.fr id
  refine OW.nil ?_
  refine NX.seq ?_
  refine CW.seq ?_
  refine CW.region ?_
  refine OW.fieldAddr rfl fo36_0 rfl ?_
  refine OW.load1 rfl ct3 rfl (h1.cell (o := 0) rfl) ?_
  refine OW.fieldAddr rfl fo36_1 rfl ?_
  refine OW.loadA rfl ag33 rfl (h1.segAt 1 m.cells (fun j v e => ruleCells_mat j v e)) (rfl) ?_
  refine OW.build (z := ints (Pl.lits ⟨0, ⟨fun _ => 0, fun _ => 0⟩⟩)) rfl pl82 zr82 rfl rfl ?_
  refine OW.store rfl rfl sz82 (n2.bk (cs := ints (Pl.lits ⟨0, ⟨fun _ => 0, fun _ => 0⟩⟩))) (Nat.le_refl _) (fun x hx => Pl.one ⟨rk, m⟩ x hx) ?_
  intro w3 f3 z3 b3
  refine OW.nil ?_
  refine NX.seq ?_
  refine CW.ret ?_
  exact NX.retA rfl rfl ag82 (Bk.seg (cs := Pl.cells ⟨rk, m⟩) b3) (rfl) (⟨rfl, n1.fr.trans (n2.fr.trans' f3 (fun k h c => by have := n2.fresh; omega)) |>.trans (Fr.refl _ _)⟩)

theorem equal_does {X Y : Nat → Prop} {xs ys : List Actn} {va vb : Value} (w : World) (hx : SlR 3 actR X w va xs) (hy : SlR 3 actR Y w vb ys) : Does Try.prog 85 [va, vb] w fun v w' => v = .bool (decide (xs = ys)) ∧ Fr0 w w' := by
  obtain ⟨pa, ca, hva, hla⟩ := hx.shape
  subst hva
  obtain ⟨pb, cb, hvb, hlb⟩ := hy.shape
  subst hvb
  refine Does.enter Try.func85 rfl rfl ?_
  show CW _ _ _ _ 26 [] [(0, .slice pa xs.length ca), (1, .slice pb ys.length cb)] w
  refine CW.seq ?_
  refine CW.region ?_
  refine OW.assign rfl rfl ?_
  refine OW.nil ?_
  refine NX.seq ?_
  refine CW.seq ?_
  refine CW.seq ?_
  refine CW.region ?_
  refine OW.move rfl rfl ?_
  refine OW.len rfl el75 rfl ?_
  refine OW.move rfl rfl ?_
  refine OW.len rfl el75 rfl ?_
  refine OW.neq rfl rfl rfl ?_
  refine OW.nil ?_
  refine NX.seq ?_
  refine CW.cond rfl (fun hl => ?_) (fun hl => ?_)
  · refine CW.seq ?_
    refine CW.region ?_
    refine OW.assign rfl rfl ?_
    refine OW.nil ?_
    refine NX.seq ?_
    refine CW.ret ?_
    refine NX.thenRet ?_
    exact NX.ret1 rfl rfl (⟨by rw [decide_eq_false]; intro e; subst e; exact hl rfl, Fr.refl _ _⟩)
  · refine CW.skip ?_
    refine NX.seq ?_
    refine CW.seq ?_
    refine CW.seq ?_
    refine CW.region ?_
    refine OW.move rfl rfl ?_
    refine OW.len rfl el75 rfl ?_
    refine OW.move rfl rfl ?_
    refine OW.nil ?_
    refine NX.seq ?_
    refine CW.block ?_
    refine CW.loop (α := Nat) (fun i => [(0, .slice pa xs.length ca), (1, .slice pb ys.length cb), (11, .slice pa xs.length ca), (12, .int .i64 ((xs.length : Nat) : Int)), (13, .int .i64 ((i : Nat) : Int))]) (fun i w' => i ≤ xs.length ∧ xs.take i = ys.take i ∧ Fr0 w w') (fun i => xs.length - i) 0 (Sub.cons rfl (Sub.cons rfl (Sub.cons rfl (Sub.cons rfl (Sub.cons rfl (Sub.nil _)))))) ⟨by omega, rfl, Fr.refl _ _⟩ ?_
    rintro i w' ⟨hi, hE, f⟩
    have hlen : xs.length = ys.length := by omega
    refine CW.seq ?_
    refine CW.region ?_
    refine OW.lss rfl rfl rfl ?_
    refine OW.nil ?_
    refine NX.seq ?_
    refine CW.seq ?_
    refine CW.cond rfl (fun hi2 => ?_) (fun hi2 => ?_)
    · have hi1 : i < xs.length := by omega
      have hi2 : i < ys.length := by omega
      obtain ⟨b1, o1, hp1, hr1⟩ := SlR.at' (hx.frame actR_ok f (fun _ _ h => h)) hi1
      subst hp1
      obtain ⟨c1, s1, e1, wf1⟩ := hr1 i xs[i] (List.getElem?_eq_getElem hi1)
      subst e1
      obtain ⟨b2, o2, hp2, hr2⟩ := SlR.at' (hy.frame actR_ok f (fun _ _ h => h)) hi2
      subst hp2
      obtain ⟨c2, s2, e2, wf2⟩ := hr2 i ys[i] (List.getElem?_eq_getElem hi2)
      subst e2
      refine CW.skip ?_
      refine NX.seq ?_
      refine CW.seq ?_
      refine CW.block ?_
      refine CW.seq ?_
      refine CW.region ?_
      refine OW.move rfl rfl ?_
      refine OW.assign rfl rfl ?_
      refine OW.nil ?_
      refine NX.seq ?_
      refine CW.seq ?_
      refine CW.drawG [⟨0, 0, false⟩, ⟨0, 0, false⟩, ⟨0, 0, false⟩, ⟨0, 0, false⟩, ⟨0, 0, false⟩, ⟨0, 0, false⟩, ⟨0, 0, false⟩, ⟨0, 0, false⟩, ⟨0, 0, false⟩] 0 [.slice (some ⟨b1, o1, none⟩) xs.length ca, .int .i64 ((i : Nat) : Int), .pointer (some ⟨b1, o1 + i * 3, none⟩), .agg (xs[i].cells).toArray, .slice (some ⟨b2, o2, none⟩) ys.length cb, .int .i64 ((i : Nat) : Int), .pointer (some ⟨b2, o2 + i * 3, none⟩), .agg (ys[i].cells).toArray, .bool (decide (xs[i] ≠ ys[i]))] (fun _ zw => Fr0 w' zw) MIX rfl rfl (Fr.drew w') ?_ ?_
      · refine drawAll.cons (fun Lt zc w1 h1 h2 hr => ?_) ?_
        · obtain rfl : zc = 0 := Nat.le_antisymm h2 h1
          exact OW.move rfl rfl (OW.nil (NX.givesD rfl hr))
        refine drawAll.cons (fun Lt zc w1 h1 h2 hr => ?_) ?_
        · obtain rfl : zc = 0 := Nat.le_antisymm h2 h1
          exact OW.move rfl rfl (OW.nil (NX.givesD rfl hr))
        refine drawAll.cons (fun Lt zc w1 h1 h2 hr => ?_) ?_
        · obtain rfl : zc = 0 := Nat.le_antisymm h2 h1
          exact OW.indexAddr rfl el75 rfl rfl ⟨by omega, by omega⟩ (OW.nil (NX.givesD rfl hr))
        refine drawAll.cons (fun Lt zc w1 h1 h2 hr => ?_) ?_
        · obtain rfl : zc = 0 := Nat.le_antisymm h2 h1
          exact OW.loadA rfl ag89 rfl (s1.frame hr id) rfl (OW.nil (NX.givesD rfl hr))
        refine drawAll.cons (fun Lt zc w1 h1 h2 hr => ?_) ?_
        · obtain rfl : zc = 0 := Nat.le_antisymm h2 h1
          exact OW.move rfl rfl (OW.nil (NX.givesD rfl hr))
        refine drawAll.cons (fun Lt zc w1 h1 h2 hr => ?_) ?_
        · obtain rfl : zc = 0 := Nat.le_antisymm h2 h1
          exact OW.move rfl rfl (OW.nil (NX.givesD rfl hr))
        refine drawAll.cons (fun Lt zc w1 h1 h2 hr => ?_) ?_
        · obtain rfl : zc = 0 := Nat.le_antisymm h2 h1
          exact OW.indexAddr rfl el75 rfl rfl ⟨by omega, by omega⟩ (OW.nil (NX.givesD rfl hr))
        refine drawAll.cons (fun Lt zc w1 h1 h2 hr => ?_) ?_
        · obtain rfl : zc = 0 := Nat.le_antisymm h2 h1
          exact OW.loadA rfl ag89 rfl (s2.frame hr id) rfl (OW.nil (NX.givesD rfl hr))
        refine drawAll.cons (fun Lt zc w1 h1 h2 hr => ?_) ?_
        · obtain rfl : zc = 0 := Nat.le_antisymm h2 h1
          exact OW.neqA (l := xs[i].lits) (r := ys[i].lits) rfl fl89 eg89 rfl rfl rfl rfl (Actn.lits_wf wf1) (Actn.lits_wf wf2) (OW.nil (NX.givesD (congrArg Value.bool (Actn.lits_ne _ _)) hr))
        exact drawAll.nil
      intro w1 hr
      refine NX.seq ?_
      refine CW.cond rfl (fun hd => ?_) (fun hd => ?_)
      · refine CW.seq ?_
        refine CW.region ?_
        refine OW.assign rfl rfl ?_
        refine OW.nil ?_
        refine NX.seq ?_
        refine CW.ret ?_
        refine NX.blockRet ?_
        refine NX.thenRet ?_
        refine NX.thenRet ?_
        refine NX.blockRet ?_
        refine NX.thenRet ?_
        exact NX.ret1 rfl rfl (⟨by rw [decide_eq_false]; intro e; exact hd (by simp only [e]), f.trans hr⟩)
      · refine CW.skip ?_
        refine NX.blockN ?_
        refine NX.seq ?_
        refine CW.region ?_
        refine OW.add rfl rfl rfl (by omega) ?_
        refine OW.move rfl rfl ?_
        refine OW.nil ?_
        exact NX.loop (i + 1) ((Sub.cons rfl (Sub.cons rfl (Sub.cons rfl (Sub.cons rfl (Sub.cons rfl (Sub.nil _))))))) (⟨by omega, by rw [List.take_succ_eq_append_getElem hi1, List.take_succ_eq_append_getElem hi2, hE, Decidable.not_not.1 hd], f.trans hr⟩) (by omega)
    · refine CW.exit ?_
      refine NX.thenExit ?_
      refine NX.thenExit ?_
      refine NX.blockEq ?_
      refine NX.seq ?_
      refine CW.seq ?_
      refine CW.region ?_
      refine OW.assign rfl rfl ?_
      refine OW.nil ?_
      refine NX.seq ?_
      refine CW.ret ?_
      exact NX.ret1 rfl rfl (⟨by rw [decide_eq_true]; rw [← List.take_length (l := xs), ← List.take_length (l := ys), ← hlen, show xs.length = i by omega]; exact hE, f⟩)

theorem same1_does {X Y : Nat → Prop} {xs ys : List Actn} {va vb : Value} (w : World) (hx : SlR 3 actR X w va xs) (hy : SlR 3 actR Y w vb ys) : Does Try.prog 84 [va, vb] w fun v w' => v = .bool (decide (xs = ys)) ∧ Fr0 w w' := by
  refine Does.enter Try.func84 rfl rfl ?_
  show CW _ _ _ _ 8 [] [(0, va), (1, vb)] w
  refine CW.seq ?_
  refine CW.region ?_
  refine OW.assign rfl rfl ?_
  refine OW.nil ?_
  refine NX.seq ?_
  refine CW.seq ?_
  refine CW.region ?_
  refine OW.move rfl rfl ?_
  refine OW.move rfl rfl ?_
  refine OW.call rfl rfl cl85 (equal_does w hx hy) ?_
  rintro v w1 ⟨rfl, f1⟩
  refine OW.assign rfl rfl ?_
  refine OW.nil ?_
  refine NX.seq ?_
  refine CW.ret ?_
  exact NX.ret1 rfl rfl (⟨rfl, f1⟩)

theorem equalFunc_does {X Y : Nat → Prop} {xs ys : List (List Actn)} {va vb : Value} (w : World) (hx : SlR 1 cpsR X w va xs) (hy : SlR 1 cpsR Y w vb ys) : Does Try.prog 83 [va, vb, .func (.func 84) #[] #[]] w fun v w' => v = .bool (decide (xs = ys)) ∧ Fr0 w w' := by
  obtain ⟨pa, ca, hva, hla⟩ := hx.shape
  subst hva
  obtain ⟨pb, cb, hvb, hlb⟩ := hy.shape
  subst hvb
  refine Does.enter Try.func83 rfl rfl ?_
  show CW _ _ _ _ 32 [] [(0, .slice pa xs.length ca), (1, .slice pb ys.length cb), (2, .func (.func 84) #[] #[])] w
  refine CW.seq ?_
  refine CW.region ?_
  refine OW.assign rfl rfl ?_
  refine OW.nil ?_
  refine NX.seq ?_
  refine CW.seq ?_
  refine CW.seq ?_
  refine CW.region ?_
  refine OW.move rfl rfl ?_
  refine OW.len rfl el34 rfl ?_
  refine OW.move rfl rfl ?_
  refine OW.len rfl el34 rfl ?_
  refine OW.neq rfl rfl rfl ?_
  refine OW.nil ?_
  refine NX.seq ?_
  refine CW.cond rfl (fun hl => ?_) (fun hl => ?_)
  · refine CW.seq ?_
    refine CW.region ?_
    refine OW.assign rfl rfl ?_
    refine OW.nil ?_
    refine NX.seq ?_
    refine CW.ret ?_
    refine NX.thenRet ?_
    exact NX.ret1 rfl rfl (⟨by rw [decide_eq_false]; intro e; subst e; exact hl rfl, Fr.refl _ _⟩)
  · refine CW.skip ?_
    refine NX.seq ?_
    refine CW.seq ?_
    refine CW.seq ?_
    refine CW.region ?_
    refine OW.move rfl rfl ?_
    refine OW.len rfl el34 rfl ?_
    refine OW.move rfl rfl ?_
    refine OW.nil ?_
    refine NX.seq ?_
    refine CW.block ?_
    refine CW.loop (α := Nat) (fun i => [(0, .slice pa xs.length ca), (1, .slice pb ys.length cb), (2, .func (.func 84) #[] #[]), (15, .slice pa xs.length ca), (16, .int .i64 ((xs.length : Nat) : Int)), (17, .int .i64 ((i : Nat) : Int))]) (fun i w' => i ≤ xs.length ∧ xs.take i = ys.take i ∧ Fr0 w w') (fun i => xs.length - i) 0 (Sub.cons rfl (Sub.cons rfl (Sub.cons rfl (Sub.cons rfl (Sub.cons rfl (Sub.cons rfl (Sub.nil _))))))) ⟨by omega, rfl, Fr.refl _ _⟩ ?_
    rintro i w' ⟨hi, hE, f⟩
    have hlen : xs.length = ys.length := by omega
    refine CW.seq ?_
    refine CW.region ?_
    refine OW.lss rfl rfl rfl ?_
    refine OW.nil ?_
    refine NX.seq ?_
    refine CW.seq ?_
    refine CW.cond rfl (fun hi2 => ?_) (fun hi2 => ?_)
    · have hi1 : i < xs.length := by omega
      have hi2 : i < ys.length := by omega
      obtain ⟨b1, o1, hp1, hr1⟩ := SlR.at' (hx.frame cpsR_ok f (fun _ _ h => h)) hi1
      subst hp1
      obtain ⟨c1, s1, u1, e1, t1⟩ := hr1 i xs[i] (List.getElem?_eq_getElem hi1)
      subst e1
      obtain ⟨b2, o2, hp2, hr2⟩ := SlR.at' (hy.frame cpsR_ok f (fun _ _ h => h)) hi2
      subst hp2
      obtain ⟨c2, s2, u2, e2, t2⟩ := hr2 i ys[i] (List.getElem?_eq_getElem hi2)
      subst e2
      refine CW.skip ?_
      refine NX.seq ?_
      refine CW.seq ?_
      refine CW.block ?_
      refine CW.seq ?_
      refine CW.region ?_
      refine OW.move rfl rfl ?_
      refine OW.indexAddr rfl el34 rfl rfl (⟨by omega, by omega⟩) ?_
      refine OW.load1 rfl ct75 rfl (s1.head) ?_
      refine OW.assign rfl rfl ?_
      refine OW.assign rfl rfl ?_
      refine OW.nil ?_
      refine NX.seq ?_
      refine CW.seq ?_
      refine CW.region ?_
      refine OW.move rfl rfl ?_
      refine OW.move rfl rfl ?_
      refine OW.indexAddr rfl el34 rfl rfl (⟨by omega, by omega⟩) ?_
      refine OW.load1 rfl ct75 rfl (s2.head) ?_
      refine OW.assign rfl rfl ?_
      refine OW.nil ?_
      refine NX.seq ?_
      refine CW.seq ?_
      refine CW.region ?_
      refine OW.move rfl rfl ?_
      refine OW.move rfl rfl ?_
      refine OW.move rfl rfl ?_
      refine OW.callF rfl rfl rfl cl84 (same1_does w' t1 t2) ?_
      rintro _ w2 ⟨rfl, f2⟩
      refine OW.notD rfl rfl ?_
      refine OW.nil ?_
      refine NX.seq ?_
      refine CW.cond rfl (fun hd => ?_) (fun hd => ?_)
      · refine CW.seq ?_
        refine CW.region ?_
        refine OW.assign rfl rfl ?_
        refine OW.nil ?_
        refine NX.seq ?_
        refine CW.ret ?_
        refine NX.blockRet ?_
        refine NX.thenRet ?_
        refine NX.thenRet ?_
        refine NX.blockRet ?_
        refine NX.thenRet ?_
        exact NX.ret1 rfl rfl (⟨by rw [decide_eq_false]; intro e; exact hd (by simp only [e]), f.trans f2⟩)
      · refine CW.skip ?_
        refine NX.blockN ?_
        refine NX.seq ?_
        refine CW.region ?_
        refine OW.add rfl rfl rfl (by omega) ?_
        refine OW.move rfl rfl ?_
        refine OW.nil ?_
        exact NX.loop (i + 1) ((Sub.cons rfl (Sub.cons rfl (Sub.cons rfl (Sub.cons rfl (Sub.cons rfl (Sub.cons rfl (Sub.nil _)))))))) (⟨by omega, by rw [List.take_succ_eq_append_getElem hi1, List.take_succ_eq_append_getElem hi2, hE, Decidable.not_not.1 hd], f.trans f2⟩) (by omega)
    · refine CW.exit ?_
      refine NX.thenExit ?_
      refine NX.thenExit ?_
      refine NX.blockEq ?_
      refine NX.seq ?_
      refine CW.seq ?_
      refine CW.region ?_
      refine OW.assign rfl rfl ?_
      refine OW.nil ?_
      refine NX.seq ?_
      refine CW.ret ?_
      exact NX.ret1 rfl rfl (⟨by rw [decide_eq_true]; rw [← List.take_length (l := xs), ← List.take_length (l := ys), ← hlen, show xs.length = i by omega]; exact hE, f⟩)

theorem same_does {X Y : Nat → Prop} {xs ys : List (List Actn)} {va vb : Value} (w : World) (hx : SlR 1 cpsR X w va xs) (hy : SlR 1 cpsR Y w vb ys) : Does Try.prog 41 [va, vb] w fun v w' => v = .bool (decide (xs = ys)) ∧ Fr0 w w' := by
  refine Does.enter Try.func41 rfl rfl ?_
  show CW _ _ _ _ 8 [] [(0, va), (1, vb)] w
  refine CW.seq ?_
  refine CW.region ?_
  refine OW.assign rfl rfl ?_
  refine OW.nil ?_
  refine NX.seq ?_
  refine CW.seq ?_
  refine CW.region ?_
  refine OW.move rfl rfl ?_
  refine OW.move rfl rfl ?_
  refine OW.call rfl rfl cl83 (equalFunc_does w hx hy) ?_
  rintro v w1 ⟨rfl, f1⟩
  refine OW.assign rfl rfl ?_
  refine OW.nil ?_
  refine NX.seq ?_
  refine CW.ret ?_
  exact NX.ret1 rfl rfl (⟨rfl, f1⟩)

end Go.Eng.Dg
