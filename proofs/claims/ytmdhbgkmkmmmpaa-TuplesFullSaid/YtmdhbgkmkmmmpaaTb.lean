/-
  Small functions of package tuples, stepped through.
  No condition.
-/
import Derived.Test.YtmdhbgkmkmmmpaaTa
import Derived.Test.YtmdhbgkmkmmmpaaTup
import Derived.Test.YtmdhbgkmkmmmpaaLst
import Derived.Test.YtmdhbgkmkmmmpaaSrI
import Derived.Test.YtmdhbgkmkmmmpaaSrP
import Derived.Test.YtmdhbgkmkmmmpaaProg
import Derived.KernelRfl
namespace Go.Eng.Tb
open Go Go.Eng Go.Proofs
theorem MIX : Try.prog.follows .mixedOrders = true := by kernel_rfl

theorem ag137 : aggSz Try.prog 137 = some 2 := by kernel_rfl
theorem ag31 : aggSz Try.prog 31 = some 11 := by kernel_rfl
theorem ar31 : arrIs Try.prog 31 = some (11, 29, 1) := by kernel_rfl
theorem cl68 : callable Try.prog 68 = true := by kernel_rfl
theorem cl69 : callable Try.prog 69 = true := by kernel_rfl
theorem ct130 : cellTy Try.prog 130 = true := by kernel_rfl
theorem ct29 : cellTy Try.prog 29 = true := by kernel_rfl
theorem ct3 : cellTy Try.prog 3 = true := by kernel_rfl
theorem eg31 : Try.prog.eqGuardType Try.prog.depth 31 = false := by kernel_rfl
theorem el125 : elemIs Try.prog 125 = some (130, 1) := by kernel_rfl
theorem el135 : elemIs Try.prog 135 = some (137, 2) := by kernel_rfl
theorem el195 : elemIs Try.prog 195 = some (3, 1) := by kernel_rfl
theorem fo133_0 : fieldOff Try.prog 133 0 = some 0 := by kernel_rfl
theorem fo133_2 : fieldOff Try.prog 133 2 = some 12 := by kernel_rfl
theorem fo137_0 : fieldOff Try.prog 137 0 = some 0 := by kernel_rfl
theorem fo137_1 : fieldOff Try.prog 137 1 = some 1 := by kernel_rfl
theorem fo33_1 : fieldOff Try.prog 33 1 = some 11 := by kernel_rfl
theorem fo36_1 : fieldOff Try.prog 36 1 = some 1 := by kernel_rfl
theorem sz29 : sizeIs Try.prog 29 = some 1 := by kernel_rfl
theorem sz31 : sizeIs Try.prog 31 = some 11 := by kernel_rfl
theorem zr3 : zeroIs Try.prog 3 = some (.int .i64 0) := by kernel_rfl
theorem zr31 : zeroIs Try.prog 31 = some (.agg #[.int .u64 0, .int .u64 0, .int .u64 0, .int .u64 0, .int .u64 0, .int .u64 0, .int .u64 0, .int .u64 0, .int .u64 0, .int .u64 0, .int .u64 0]) := by kernel_rfl

theorem hdrFlat : Flat Try.prog 31 (List.replicate 11 .u64) := ⟨by kernel_rfl, by kernel_rfl, by kernel_rfl, by kernel_rfl⟩

def Hset (h : Hdr) (i x : Nat) : Hdr := fun f => if f.1 = i then x else h f
theorem upd_hdr (h : Hdr) {i : Nat} (x : Nat) (hi : i < 11) : upd h.cells i [.int .u64 (x : Nat)] = (Hset h i x).cells := by
  have : i = 0 ∨ i = 1 ∨ i = 2 ∨ i = 3 ∨ i = 4 ∨ i = 5 ∨ i = 6 ∨ i = 7 ∨ i = 8 ∨ i = 9 ∨ i = 10 := by omega
  rcases this with rfl | rfl | rfl | rfl | rfl | rfl | rfl | rfl | rfl | rfl | rfl <;> rfl
def mixH (h k : Hdr) (i : Nat) : Hdr := fun f => if f.1 < i then h f &&& k f else h f
theorem mixH_at (h k : Hdr) {i : Nat} : (mixH h k i).at i = h.at i := by unfold Hdr.at mixH; split <;> simp
theorem mixH_next (h k : Hdr) {i : Nat} (hi : i < 11) : Hset (mixH h k i) i (h.at i &&& k.at i) = mixH h k (i + 1) := by
  funext f
  unfold Hset mixH Hdr.at
  by_cases c : f.1 = i
  · subst c; simp [f.2]
  · rw [if_neg c]
    by_cases d : f.1 < i
    · rw [if_pos d, if_pos (by omega)]
    · rw [if_neg d, if_neg (by omega)]
theorem mixH_0 (h k : Hdr) : mixH h k 0 = h := by funext f; simp [mixH]
theorem mixH_11 (h k : Hdr) : mixH h k 11 = under h k := by funext f; simp [mixH, under, f.2]

theorem under_does {h m : Hdr} (hh : h.wf) (hm : m.wf) (w : World) : Does Try.prog 71 [.agg (h.cells).toArray, .agg (m.cells).toArray] w fun v w' => v = .agg ((under h m).cells).toArray ∧ Fr0 w w' := by
  refine Does.enter Try.func71 rfl rfl ?_
  show CW _ _ _ _ 19 [] [(0, .agg (h.cells).toArray), (1, .agg (m.cells).toArray)] w
  refine CW.seq ?_
  refine CW.region ?_
  refine OW.boxA rfl rfl ?_
  intro b1 w1 n1
  refine OW.boxA rfl rfl ?_
  intro b2 w2 n2
  refine OW.alloc rfl zr31 ?_
  intro b4 w4 n4
  have r0 : Run w w4 [] [pts b4 31 (Hdr.cells fun _ => 0), pts b2 31 m.cells, pts b1 31 h.cells] := (((Run.start Holds.nil).newPts n1).newPts n2).newPts (cs := Hdr.cells fun _ => 0) n4
  refine OW.nil ?_
  refine NX.seq ?_
  refine CW.seq ?_
  refine CW.seq ?_
  refine CW.region ?_
  refine OW.move rfl rfl ?_
  refine OW.nil ?_
  refine NX.seq ?_
  refine CW.block ?_
  refine CW.loop (α := Nat) (fun i => [(2, .pointer (some ⟨b1, 0, none⟩)), (3, .pointer (some ⟨b2, 0, none⟩)), (4, .pointer (some ⟨b4, 0, none⟩)), (6, .int .i64 ((i : Nat) : Int))]) (fun i U => i ≤ 11 ∧ Run w U [] [pts b4 31 (Hdr.cells fun _ => 0), pts b2 31 m.cells, pts b1 31 (mixH h m i).cells]) (fun i => 11 - i) 0 (Sub.cons rfl (Sub.cons rfl (Sub.cons rfl (Sub.cons rfl (Sub.nil _))))) ⟨by omega, by rw [mixH_0]; exact r0⟩ ?_
  rintro i U ⟨hi, r⟩
  refine CW.seq ?_
  refine CW.region ?_
  refine OW.lss rfl rfl rfl ?_
  refine OW.nil ?_
  refine NX.seq ?_
  refine CW.seq ?_
  refine CW.cond rfl (fun hlt => ?_) (fun hlt => ?_)
  · have hil : i < 11 := by omega
    refine CW.skip ?_
    refine NX.seq ?_
    refine CW.seq ?_
    refine CW.block ?_
    refine CW.seq ?_
    refine CW.region ?_
    refine OW.move rfl rfl ?_
    refine OW.assign rfl rfl ?_
    refine OW.nil ?_
    refine NX.seq ?_
    refine CW.drawY [(0, false), (1, false), (2, false), (3, false), (4, false), (5, false)] [6, 7, 8] (fun z => Fr0 U z) MIX (by kernel_rfl) (fun _ h => h) ?_
    intro z1 hz1
    refine XW.val rfl rfl (fun zw hz => OW.move rfl rfl (OW.nil NX.calm)) ?_
    refine XW.val rfl rfl (fun zw hz => OW.indexAddrArr rfl ar31 rfl rfl (⟨by omega, by omega⟩) (OW.nil NX.calm)) ?_
    refine XW.val rfl rfl (fun zw hz => OW.load1 rfl ct29 rfl ((((r.get 2 rfl : Bk _ _ _ _)).frame hz id).cell (Hdr.getO _ (by simp) hil)) (OW.nil NX.calm)) ?_
    refine XW.val rfl rfl (fun zw hz => OW.move rfl rfl (OW.nil NX.calm)) ?_
    refine XW.val rfl rfl (fun zw hz => OW.indexAddrArr rfl ar31 rfl rfl (⟨by omega, by omega⟩) (OW.nil NX.calm)) ?_
    refine XW.val rfl rfl (fun zw hz => OW.load1 rfl ct29 rfl ((((r.get 1 rfl : Bk _ _ _ _)).frame hz id).cell (m.getO (by simp) hil)) (OW.nil NX.calm)) ?_
    refine XW.tail ?_
    refine OW.and64 rfl rfl rfl ⟨by omega, by have := Hdr.at_lt hh i; rw [mixH_at]; omega⟩ ⟨by omega, by have := Hdr.at_lt hm i; omega⟩ ?_
    refine OW.indexAddrArr rfl ar31 rfl rfl (⟨by omega, by omega⟩) ?_
    have r1 := r.fr0 hz1
    refine OW.store rfl rfl sz29 (r1.get 2 rfl : Bk _ _ _ _) (by show 0 + ((i : Nat) : Int).toNat * 1 + 1 ≤ 11; omega) (fun x hx => by simp [Value.cells] at hx; subst hx; rfl) ?_
    intro w5 f5 hs5 hb5
    have e5 : upd (mixH h m i).cells (0 + ((i : Nat) : Int).toNat * 1) (Value.int .u64 (band ((mixH h m i).at i : Nat) (m.at i : Nat))).cells.toList = (mixH h m (i + 1)).cells := by
      rw [show 0 + ((i : Nat) : Int).toNat * 1 = i by simp, mixH_at]
      rw [← mixH_next h m hil]
      exact upd_hdr _ _ hil
    rw [e5] at hb5
    have r2 := r1.put 2 rfl (Moves.pts f5 hb5)
    refine OW.nil ?_
    refine NX.blockN ?_
    refine NX.seq ?_
    refine CW.region ?_
    refine OW.add rfl rfl rfl (by omega) ?_
    refine OW.move rfl rfl ?_
    refine OW.nil ?_
    exact NX.loop (i + 1) ((Sub.cons rfl (Sub.cons rfl (Sub.cons rfl (Sub.cons rfl (Sub.nil _)))))) (⟨by omega, r2⟩) (by omega)
  · have hi11 : i = 11 := by omega
    subst hi11
    rw [mixH_11] at r
    refine CW.exit ?_
    refine NX.thenExit ?_
    refine NX.thenExit ?_
    refine NX.blockEq ?_
    refine NX.seq ?_
    refine CW.seq ?_
    refine CW.region ?_
    refine OW.loadA rfl ag31 rfl ((r.get 2 rfl : Bk _ _ _ _).seg) (rfl) ?_
    refine OW.store rfl rfl sz31 (r.get 0 rfl) (Nat.le_refl _) (fun x hx => cells_one _ x hx) ?_
    intro w5 f5 hs5 hb5
    have r2 := r.put 0 rfl (Moves.pts (cs' := (under h m).cells) f5 hb5)
    refine OW.nil ?_
    refine NX.seq ?_
    refine CW.ret ?_
    exact NX.retA rfl rfl ag31 ((r2.get 0 rfl : Bk _ _ _ _).seg) (rfl) (⟨rfl, r2.fr.mono fun k _ c => by simp [star, fps] at c⟩)

theorem or_does {b : Nat} {x y : Int} (w : World) (hs : Seg w b 0 [.int .i64 x, .int .i64 y]) : Does Try.prog 68 [.slice (some ⟨b, 0, none⟩) 2 2] w fun v w' => v = .int .i64 (if x ≠ 0 then x else y) ∧ w' = w := by
  refine Does.enter Try.func68 rfl rfl ?_
  show CW _ _ _ _ 18 [] [(0, .slice (some ⟨b, 0, none⟩) 2 2)] w
  refine CW.seq ?_
  refine CW.region ?_
  refine OW.assign rfl rfl ?_
  refine OW.nil ?_
  refine NX.seq ?_
  refine CW.seq ?_
  refine CW.region ?_
  refine OW.assign rfl rfl ?_
  refine OW.nil ?_
  refine NX.seq ?_
  refine CW.seq ?_
  refine CW.seq ?_
  refine CW.region ?_
  refine OW.move rfl rfl ?_
  refine OW.len rfl el195 rfl ?_
  refine OW.move rfl rfl ?_
  refine OW.nil ?_
  refine NX.seq ?_
  refine CW.block ?_
  refine CW.loop (α := Nat) (fun i => [(3, .int .i64 0), (6, .slice (some ⟨b, 0, none⟩) 2 2), (7, .int .i64 2), (8, .int .i64 ((i : Nat) : Int))]) (fun i U => i ≤ 2 ∧ (0 < i → x = 0) ∧ (1 < i → y = 0) ∧ U = w) (fun i => 2 - i) 0 (Sub.cons rfl (Sub.cons rfl (Sub.cons rfl (Sub.cons rfl (Sub.nil _))))) ⟨by omega, by omega, by omega, rfl⟩ ?_
  rintro i U ⟨hi, h1, h2, rfl⟩
  refine CW.seq ?_
  refine CW.region ?_
  refine OW.lss rfl rfl rfl ?_
  refine OW.nil ?_
  refine NX.seq ?_
  refine CW.seq ?_
  refine CW.cond rfl (fun hlt => ?_) (fun hlt => ?_)
  · have hc : i = 0 ∨ i = 1 := by omega
    rcases hc with rfl | rfl
    · refine CW.skip ?_
      refine NX.seq ?_
      refine CW.seq ?_
      refine CW.block ?_
      refine CW.seq ?_
      refine CW.region ?_
      refine OW.indexAddr rfl el195 rfl rfl (⟨by decide, by decide⟩) ?_
      refine OW.load1 rfl ct3 rfl (hs.one 0 rfl) ?_
      refine OW.assign rfl rfl ?_
      refine OW.nil ?_
      refine NX.seq ?_
      refine CW.seq ?_
      refine CW.region ?_
      refine OW.move rfl rfl ?_
      refine OW.move rfl rfl ?_
      refine OW.neq rfl rfl rfl ?_
      refine OW.nil ?_
      refine NX.seq ?_
      refine CW.cond rfl (fun hd => ?_) (fun hd => ?_)
      · refine CW.seq ?_
        refine CW.region ?_
        refine OW.move rfl rfl ?_
        refine OW.assign rfl rfl ?_
        refine OW.nil ?_
        refine NX.seq ?_
        refine CW.ret ?_
        refine NX.blockRet ?_
        refine NX.thenRet ?_
        refine NX.thenRet ?_
        refine NX.blockRet ?_
        refine NX.thenRet ?_
        exact NX.ret1 rfl rfl (⟨by rw [if_pos hd], rfl⟩)
      · refine CW.skip ?_
        refine NX.blockN ?_
        refine NX.seq ?_
        refine CW.region ?_
        refine OW.add rfl rfl rfl (by omega) ?_
        refine OW.move rfl rfl ?_
        refine OW.nil ?_
        exact NX.loop (1) ((Sub.cons rfl (Sub.cons rfl (Sub.cons rfl (Sub.cons rfl (Sub.nil _)))))) (⟨by omega, by omega, by omega, rfl⟩) (by omega)
    · refine CW.skip ?_
      refine NX.seq ?_
      refine CW.seq ?_
      refine CW.block ?_
      refine CW.seq ?_
      refine CW.region ?_
      refine OW.indexAddr rfl el195 rfl rfl (⟨by decide, by decide⟩) ?_
      refine OW.load1 rfl ct3 rfl (hs.one 1 rfl) ?_
      refine OW.assign rfl rfl ?_
      refine OW.nil ?_
      refine NX.seq ?_
      refine CW.seq ?_
      refine CW.region ?_
      refine OW.move rfl rfl ?_
      refine OW.move rfl rfl ?_
      refine OW.neq rfl rfl rfl ?_
      refine OW.nil ?_
      refine NX.seq ?_
      refine CW.cond rfl (fun hd => ?_) (fun hd => ?_)
      · refine CW.seq ?_
        refine CW.region ?_
        refine OW.move rfl rfl ?_
        refine OW.assign rfl rfl ?_
        refine OW.nil ?_
        refine NX.seq ?_
        refine CW.ret ?_
        refine NX.blockRet ?_
        refine NX.thenRet ?_
        refine NX.thenRet ?_
        refine NX.blockRet ?_
        refine NX.thenRet ?_
        exact NX.ret1 rfl rfl (⟨by rw [if_neg (by have := h1 (by omega); omega)], rfl⟩)
      · refine CW.skip ?_
        refine NX.blockN ?_
        refine NX.seq ?_
        refine CW.region ?_
        refine OW.add rfl rfl rfl (by omega) ?_
        refine OW.move rfl rfl ?_
        refine OW.nil ?_
        exact NX.loop (2) ((Sub.cons rfl (Sub.cons rfl (Sub.cons rfl (Sub.cons rfl (Sub.nil _)))))) (⟨by omega, by omega, by omega, rfl⟩) (by omega)
  · refine CW.exit ?_
    refine NX.thenExit ?_
    refine NX.thenExit ?_
    refine NX.blockEq ?_
    refine NX.seq ?_
    refine CW.seq ?_
    refine CW.region ?_
    refine OW.move rfl rfl ?_
    refine OW.assign rfl rfl ?_
    refine OW.nil ?_
    refine NX.seq ?_
    refine CW.ret ?_
    exact NX.ret1 rfl rfl (⟨by have := h1 (by omega); have := h2 (by omega); subst x; subst y; rfl, rfl⟩)

theorem inCmp_does (x y : In) (w : World) : Does Try.prog 67 [.agg #[.int .i64 x.id, .int .i64 x.rank], .agg #[.int .i64 y.id, .int .i64 y.rank]] w fun v w' => v = .int .i64 (inCmp x y) ∧ Fr0 w w' := by
  refine Does.enter Try.func67 rfl rfl ?_
  show CW _ _ _ _ 17 [] [(0, .agg #[.int .i64 x.id, .int .i64 x.rank]), (1, .agg #[.int .i64 y.id, .int .i64 y.rank])] w
  refine CW.seq ?_
  refine CW.region ?_
  refine OW.boxA (vs := [.int .i64 x.id, .int .i64 x.rank]) rfl rfl ?_
  intro b1 w1 n1
  refine OW.boxA (vs := [.int .i64 y.id, .int .i64 y.rank]) rfl rfl ?_
  intro b2 w2 n2
  have e1 : Bk w2 b1 137 [.int .i64 x.id, .int .i64 x.rank] := n1.bk.frame n2.fr id
  have e2 : Bk w2 b2 137 [.int .i64 y.id, .int .i64 y.rank] := n2.bk
  have f2 : Fr0 w w2 := n1.fr.trans n2.fr
  refine OW.assign rfl rfl ?_
  refine OW.nil ?_
  refine NX.seq ?_
  refine CW.seq ?_
  refine CW.drawY [(0, false), (1, false), (2, false), (3, false), (5, false), (6, false), (7, false), (8, false), (4, true)] [9, 10, 11, 12] (fun z => Fr0 w2 z) MIX (by kernel_rfl) (fun _ h => h) ?_
  intro z1 hz1
  refine XW.val rfl rfl (fun zw hz => OW.fieldAddr rfl fo137_1 rfl (OW.nil NX.calm)) ?_
  refine XW.val rfl rfl (fun zw hz => OW.load1 rfl ct3 rfl ((e2.frame hz id).cell (o := 1) rfl) (OW.nil NX.calm)) ?_
  refine XW.val rfl rfl (fun zw hz => OW.fieldAddr rfl fo137_1 rfl (OW.nil NX.calm)) ?_
  refine XW.val rfl rfl (fun zw hz => OW.load1 rfl ct3 rfl ((e1.frame hz id).cell (o := 1) rfl) (OW.nil NX.calm)) ?_
  refine XW.val rfl rfl (fun zw hz => OW.fieldAddr rfl fo137_0 rfl (OW.nil NX.calm)) ?_
  refine XW.val rfl rfl (fun zw hz => OW.load1 rfl ct3 rfl ((e1.frame hz id).cell (o := 0) rfl) (OW.nil NX.calm)) ?_
  refine XW.val rfl rfl (fun zw hz => OW.fieldAddr rfl fo137_0 rfl (OW.nil NX.calm)) ?_
  refine XW.val rfl rfl (fun zw hz => OW.load1 rfl ct3 rfl ((e2.frame hz id).cell (o := 0) rfl) (OW.nil NX.calm)) ?_
  refine XW.does ?_
  refine OW.call rfl rfl cl69 (Dg.compare_does _ _ _) ?_
  rintro _ w3 ⟨rfl, rfl⟩
  refine OW.nil (NX.does (hz1) ?_)
  refine XW.tail ?_
  refine OW.call rfl rfl cl69 (Dg.compare_does _ _ _) ?_
  rintro _ w4 ⟨rfl, rfl⟩
  refine OW.buildSlice (len := 2) rfl el195 zr3 rfl rfl rfl rfl rfl ?_
  intro b5 w5 n5
  refine OW.call rfl rfl cl68 (or_does _ (Seg.ofNew n5)) ?_
  rintro _ w6 ⟨rfl, rfl⟩
  refine OW.assign rfl rfl ?_
  refine OW.nil ?_
  refine NX.seq ?_
  refine CW.ret ?_
  exact NX.ret1 rfl rfl (⟨rfl, (f2.trans hz1).trans n5.fr⟩)

theorem rowCmp_does {x y : RowSt} (w : World) (hx : Bk w x.ptr 133 (rowCells x)) (hy : Bk w y.ptr 133 (rowCells y)) : Does Try.prog 126 [.pointer (some ⟨x.ptr, 0, none⟩), .pointer (some ⟨y.ptr, 0, none⟩)] w fun v w' => v = .int .i64 (Dg.cmpI y.greatest x.greatest) ∧ Fr0 w w' := by
  refine Does.enter Try.func126 rfl rfl ?_
  show CW _ _ _ _ 14 [] [(0, .pointer (some ⟨x.ptr, 0, none⟩)), (1, .pointer (some ⟨y.ptr, 0, none⟩))] w
  refine CW.seq ?_
  refine CW.region ?_
  refine OW.assign rfl rfl ?_
  refine OW.nil ?_
  refine NX.seq ?_
  refine CW.seq ?_
  refine CW.drawY [(0, false), (1, false), (2, false), (3, false), (4, false), (5, false), (6, false), (7, false)] [8, 9] (fun z => Fr0 w z) MIX (by kernel_rfl) (fun _ h => h) ?_
  intro z1 hz1
  refine XW.val rfl rfl (fun zw hz => OW.move rfl rfl (OW.nil NX.calm)) ?_
  refine XW.val rfl rfl (fun zw hz => OW.nilCheck rfl rfl (OW.nil NX.calm)) ?_
  refine XW.val rfl rfl (fun zw hz => OW.fieldAddr rfl fo133_2 rfl (OW.nil NX.calm)) ?_
  refine XW.val rfl rfl (fun zw hz => OW.load1 rfl ct3 rfl ((hy.frame hz id).cell (o := 12) rfl) (OW.nil NX.calm)) ?_
  refine XW.val rfl rfl (fun zw hz => OW.move rfl rfl (OW.nil NX.calm)) ?_
  refine XW.val rfl rfl (fun zw hz => OW.nilCheck rfl rfl (OW.nil NX.calm)) ?_
  refine XW.val rfl rfl (fun zw hz => OW.fieldAddr rfl fo133_2 rfl (OW.nil NX.calm)) ?_
  refine XW.val rfl rfl (fun zw hz => OW.load1 rfl ct3 rfl ((hx.frame hz id).cell (o := 12) rfl) (OW.nil NX.calm)) ?_
  refine XW.tail ?_
  refine OW.call rfl rfl cl69 (Dg.compare_does _ _ _) ?_
  rintro _ w3 ⟨rfl, rfl⟩
  refine OW.assign rfl rfl ?_
  refine OW.nil ?_
  refine NX.seq ?_
  refine CW.ret ?_
  exact NX.ret1 rfl rfl (⟨rfl, hz1⟩)

theorem row_mask {r : RowSt} (j : Nat) (v : Value) (h : r.mask.cells[j]? = some v) : (rowCells r)[0 + j]? = some v := by
  unfold rowCells
  rw [Nat.zero_add, List.getElem?_append_left]
  · exact h
  · rcases Nat.lt_or_ge j r.mask.cells.length with c | c
    · exact c
    · rw [List.getElem?_eq_none c] at h; cases h
theorem hdr_in_rule {rank : Int} {m : Mat} {cv : Value} {ck : Nat} (j : Nat) (v : Value) (h : m.mask.cells[j]? = some v) : (ruleCells rank m cv ck)[12 + j]? = some v := by
  have h2 := Ta.mask_in (m := m) j v h
  rw [show 12 + j = 1 + (11 + j) by omega]
  exact Dg.ruleCells_mat _ v h2
theorem val_in_rule {rank : Int} {m : Mat} {cv : Value} {ck : Nat} (j : Nat) (v : Value) (h : m.val.cells[j]? = some v) : (ruleCells rank m cv ck)[1 + j]? = some v := by
  have h2 := Ta.val_in (m := m) j v h
  rw [Nat.zero_add] at h2
  exact Dg.ruleCells_mat _ v h2
theorem maskDec {a b : Hdr} : decide (a.lits = b.lits) = decide (a = b) := decide_eq_decide.2 ⟨Hdr.lits_inj, fun e => by rw [e]⟩

theorem isRow_does {x : RowSt} {br : Nat} {rank : Int} {m : Mat} {cv : Value} {ck : Nat} (w : World) (hx : Bk w x.ptr 133 (rowCells x)) (hxw : x.mask.wf) (hmw : m.mask.wf) (hr : Bk w br 36 (ruleCells rank m cv ck)) : Does Try.prog 65 [.pointer (some ⟨x.ptr, 0, none⟩), .pointer (some ⟨br, 0, none⟩)] w fun v w' => v = .bool (decide (x.mask = m.mask)) ∧ Fr0 w w' := by
  refine Does.enter Try.func65 rfl rfl ?_
  show CW _ _ _ _ 12 [] [(0, .pointer (some ⟨x.ptr, 0, none⟩)), (1, .pointer (some ⟨br, 0, none⟩))] w
  refine CW.seq ?_
  refine CW.region ?_
  refine OW.assign rfl rfl ?_
  refine OW.nil ?_
  refine NX.seq ?_
  refine CW.seq ?_
  refine CW.drawY [(0, false), (1, false), (2, false), (3, false), (4, false), (5, false), (6, false)] [7, 8] (fun z => Fr0 w z) MIX (by kernel_rfl) (fun _ h => h) ?_
  intro z1 hz1
  refine XW.val rfl rfl (fun zw hz => OW.move rfl rfl (OW.nil NX.calm)) ?_
  refine XW.val rfl rfl (fun zw hz => OW.nilCheck rfl rfl (OW.nil NX.calm)) ?_
  refine XW.val rfl rfl (fun zw hz => OW.fieldAddr rfl fo133_0 rfl (OW.nil NX.calm)) ?_
  refine XW.val rfl rfl (fun zw hz => OW.loadA rfl ag31 rfl ((hx.frame hz id).segAt 0 x.mask.cells (fun j v e => row_mask j v e)) (rfl) (OW.nil NX.calm)) ?_
  refine XW.val rfl rfl (fun zw hz => OW.fieldAddr rfl fo36_1 rfl (OW.nil NX.calm)) ?_
  refine XW.val rfl rfl (fun zw hz => OW.fieldAddr rfl fo33_1 rfl (OW.nil NX.calm)) ?_
  refine XW.val rfl rfl (fun zw hz => OW.loadA rfl ag31 rfl ((hr.frame hz id).segAt 12 m.mask.cells (fun j v e => hdr_in_rule j v e)) (rfl) (OW.nil NX.calm)) ?_
  refine XW.tail ?_
  refine OW.eqlA (l := x.mask.lits) (r := m.mask.lits) rfl hdrFlat eg31 rfl rfl rfl rfl (Hdr.lits_wf hxw) (Hdr.lits_wf hmw) ?_
  refine OW.assign rfl rfl ?_
  refine OW.nil ?_
  refine NX.seq ?_
  refine CW.ret ?_
  exact NX.ret1 rfl rfl (⟨congrArg Value.bool maskDec, hz1⟩)

theorem isRowD_does {x : RowSt} {br : Nat} {rank : Int} {m : Mat} {cv : Value} {ck : Nat} (w : World) (hx : Bk w x.ptr 133 (rowCells x)) (hxw : x.mask.wf) (hmw : m.mask.wf) (hr : Bk w br 36 (ruleCells rank m cv ck)) : Does Try.prog 73 [.pointer (some ⟨x.ptr, 0, none⟩), .pointer (some ⟨br, 0, none⟩)] w fun v w' => v = .bool (decide (x.mask = m.mask)) ∧ Fr0 w w' := by
  refine Does.enter Try.func73 rfl rfl ?_
  show CW _ _ _ _ 12 [] [(0, .pointer (some ⟨x.ptr, 0, none⟩)), (1, .pointer (some ⟨br, 0, none⟩))] w
  refine CW.seq ?_
  refine CW.region ?_
  refine OW.assign rfl rfl ?_
  refine OW.nil ?_
  refine NX.seq ?_
  refine CW.seq ?_
  refine CW.drawY [(0, false), (1, false), (2, false), (3, false), (4, false), (5, false), (6, false)] [7, 8] (fun z => Fr0 w z) MIX (by kernel_rfl) (fun _ h => h) ?_
  intro z1 hz1
  refine XW.val rfl rfl (fun zw hz => OW.move rfl rfl (OW.nil NX.calm)) ?_
  refine XW.val rfl rfl (fun zw hz => OW.nilCheck rfl rfl (OW.nil NX.calm)) ?_
  refine XW.val rfl rfl (fun zw hz => OW.fieldAddr rfl fo133_0 rfl (OW.nil NX.calm)) ?_
  refine XW.val rfl rfl (fun zw hz => OW.loadA rfl ag31 rfl ((hx.frame hz id).segAt 0 x.mask.cells (fun j v e => row_mask j v e)) (rfl) (OW.nil NX.calm)) ?_
  refine XW.val rfl rfl (fun zw hz => OW.fieldAddr rfl fo36_1 rfl (OW.nil NX.calm)) ?_
  refine XW.val rfl rfl (fun zw hz => OW.fieldAddr rfl fo33_1 rfl (OW.nil NX.calm)) ?_
  refine XW.val rfl rfl (fun zw hz => OW.loadA rfl ag31 rfl ((hr.frame hz id).segAt 12 m.mask.cells (fun j v e => hdr_in_rule j v e)) (rfl) (OW.nil NX.calm)) ?_
  refine XW.tail ?_
  refine OW.eqlA (l := x.mask.lits) (r := m.mask.lits) rfl hdrFlat eg31 rfl rfl rfl rfl (Hdr.lits_wf hxw) (Hdr.lits_wf hmw) ?_
  refine OW.assign rfl rfl ?_
  refine OW.nil ?_
  refine NX.seq ?_
  refine CW.ret ?_
  exact NX.ret1 rfl rfl (⟨congrArg Value.bool maskDec, hz1⟩)

def idxI {α : Type} (p : α → Bool) (l : List α) : Int := match l.findIdx? p with | some i => (i : Nat) | none => -1
theorem findIdx_some {α : Type} {p : α → Bool} {l : List α} {i : Nat} (hi : i < l.length) (h : p l[i] = true) (hn : ∀ j (hj : j < l.length), j < i → p l[j] = false) : idxI p l = (i : Nat) := by
  unfold idxI
  have : l.findIdx? p = some i := by
    rw [List.findIdx?_eq_some_iff_getElem]
    exact ⟨hi, h, fun j hj => by have := hn j (by omega) hj; simp [this]⟩
  rw [this]
theorem findIdx_none {α : Type} {p : α → Bool} {l : List α} (hn : ∀ j (hj : j < l.length), p l[j] = false) : idxI p l = -1 := by
  unfold idxI
  have : l.findIdx? p = none := by
    rw [List.findIdx?_eq_none_iff]
    intro x hx
    obtain ⟨j, hj, rfl⟩ := List.getElem_of_mem hx
    exact hn j hj
  rw [this]

theorem idxRows_does {α : Type} {R : Rep α} (hR : R.Ok 1) {v : Value} {xs : List α} {g : Nat} {first cap : Array Value} {pr : α → Bool} {w : World} (ho : OwnSl 130 1 R (fun _ => False) w v xs) (hc : callable Try.prog g = true)
    (hn : xs.length ≤ 140737488355328) (hd : ∀ x c w1, x ∈ xs → Fr0 w w1 → R (fun _ => False) w1 [c] x → Does Try.prog g (first.toList ++ [c] ++ cap.toList) w1 fun r w' => r = .bool (pr x) ∧ Fr0 w1 w') : Does Try.prog 64 [v, .func (.func g) first cap] w fun r w' => r = .int .i64 (idxI pr xs) ∧ Fr0 w w' := by
  obtain ⟨pa, ca, rfl, hcap⟩ := ho.shape
  have hrd := ho.rd
  refine Does.enter Try.func64 rfl rfl ?_
  show CW _ _ _ _ 19 [] [(0, .slice pa xs.length ca), (1, .func (.func g) first cap)] w
  refine CW.seq ?_
  refine CW.region ?_
  refine OW.assign rfl rfl ?_
  refine OW.nil ?_
  refine NX.seq ?_
  refine CW.seq ?_
  refine CW.seq ?_
  refine CW.region ?_
  refine OW.move rfl rfl ?_
  refine OW.len rfl el125 rfl ?_
  refine OW.move rfl rfl ?_
  refine OW.nil ?_
  refine NX.seq ?_
  refine CW.block ?_
  refine CW.loop (α := Nat) (fun i => [(0, .slice pa xs.length ca), (1, .func (.func g) first cap), (7, .int .i64 ((xs.length : Nat) : Int)), (8, .int .i64 ((i : Nat) : Int))]) (fun i U => i ≤ xs.length ∧ (∀ j (hj : j < xs.length), j < i → pr xs[j] = false) ∧ Fr0 w U) (fun i => xs.length - i) 0 (Sub.cons rfl (Sub.cons rfl (Sub.cons rfl (Sub.cons rfl (Sub.nil _))))) ⟨by omega, (fun j _ h => absurd h (Nat.not_lt_zero _)), Fr.refl _ _⟩ ?_
  rintro i U ⟨hi, hall, f⟩
  refine CW.seq ?_
  refine CW.region ?_
  refine OW.lss rfl rfl rfl ?_
  refine OW.nil ?_
  refine NX.seq ?_
  refine CW.seq ?_
  refine CW.cond rfl (fun hlt => ?_) (fun hlt => ?_)
  · have hil : i < xs.length := by omega
    obtain ⟨b, o, hpa, hr⟩ := hrd.at' hil
    subst hpa
    obtain ⟨x, hx1, hx2⟩ := getL hil
    obtain ⟨c, sg, hx⟩ := hr i x hx2
    have hcl := hR.len hx
    refine CW.skip ?_
    refine NX.seq ?_
    refine CW.seq ?_
    refine CW.block ?_
    refine CW.seq ?_
    refine CW.region ?_
    refine OW.move rfl rfl ?_
    refine OW.assign rfl rfl ?_
    refine OW.nil ?_
    refine NX.seq ?_
    refine CW.seq ?_
    refine CW.region ?_
    refine OW.move rfl rfl ?_
    refine OW.move rfl rfl ?_
    refine OW.move rfl rfl ?_
    refine OW.indexAddr rfl el125 rfl rfl (⟨by omega, by omega⟩) ?_
    obtain ⟨cv, rfl⟩ : ∃ cv, c = [cv] := by
      match c, hcl with
      | [cv], _ => exact ⟨cv, rfl⟩
    refine OW.load1 rfl ct130 rfl ((sg.frame f id).one 0 rfl) ?_
    refine OW.callF rfl rfl rfl hc (hd x _ U (List.mem_of_getElem? hx2) f (hR.frame hx f (fun _ c => c.elim))) ?_
    rintro _ w3 ⟨rfl, f3⟩
    refine OW.nil ?_
    refine NX.seq ?_
    refine CW.condB rfl (fun hp => ?_) (fun hp => ?_)
    · refine CW.seq ?_
      refine CW.region ?_
      refine OW.move rfl rfl ?_
      refine OW.assign rfl rfl ?_
      refine OW.nil ?_
      refine NX.seq ?_
      refine CW.ret ?_
      refine NX.blockRet ?_
      refine NX.thenRet ?_
      refine NX.thenRet ?_
      refine NX.blockRet ?_
      refine NX.thenRet ?_
      exact NX.ret1 rfl rfl (⟨congrArg (Value.int .i64) (findIdx_some hil (by rw [← hx1]; exact hp) hall).symm, f.trans f3⟩)
    · refine CW.skip ?_
      refine NX.blockN ?_
      refine NX.seq ?_
      refine CW.region ?_
      refine OW.add rfl rfl rfl (by omega) ?_
      refine OW.move rfl rfl ?_
      refine OW.nil ?_
      exact NX.loop (i + 1) ((Sub.cons rfl (Sub.cons rfl (Sub.cons rfl (Sub.cons rfl (Sub.nil _)))))) (⟨by omega, (fun j hj hji => by
          rcases Nat.lt_or_ge j i with c | c
          · exact hall j hj c
          · obtain rfl : j = i := by omega
            rw [← hx1]; exact hp), f.trans f3⟩) (by omega)
  · refine CW.exit ?_
    refine NX.thenExit ?_
    refine NX.thenExit ?_
    refine NX.blockEq ?_
    refine NX.seq ?_
    refine CW.seq ?_
    refine CW.region ?_
    refine OW.assign rfl rfl ?_
    refine OW.nil ?_
    refine NX.seq ?_
    refine CW.ret ?_
    exact NX.ret1 rfl rfl (⟨congrArg (Value.int .i64) (findIdx_none fun j hj => hall j hj (by omega)).symm, f⟩)

theorem idxIns_does {α : Type} {R : Rep α} (hR : R.Ok 2) {v : Value} {xs : List α} {g : Nat} {first cap : Array Value} {pr : α → Bool} {w : World} (ho : OwnSl 137 2 R (fun _ => False) w v xs) (hc : callable Try.prog g = true)
    (hn : xs.length ≤ 140737488355328) (hd : ∀ x c w1, x ∈ xs → Fr0 w w1 → R (fun _ => False) w1 c x → Does Try.prog g (first.toList ++ [.agg c.toArray] ++ cap.toList) w1 fun r w' => r = .bool (pr x) ∧ Fr0 w1 w') : Does Try.prog 128 [v, .func (.func g) first cap] w fun r w' => r = .int .i64 (idxI pr xs) ∧ Fr0 w w' := by
  obtain ⟨pa, ca, rfl, hcap⟩ := ho.shape
  have hrd := ho.rd
  refine Does.enter Try.func128 rfl rfl ?_
  show CW _ _ _ _ 19 [] [(0, .slice pa xs.length ca), (1, .func (.func g) first cap)] w
  refine CW.seq ?_
  refine CW.region ?_
  refine OW.assign rfl rfl ?_
  refine OW.nil ?_
  refine NX.seq ?_
  refine CW.seq ?_
  refine CW.seq ?_
  refine CW.region ?_
  refine OW.move rfl rfl ?_
  refine OW.len rfl el135 rfl ?_
  refine OW.move rfl rfl ?_
  refine OW.nil ?_
  refine NX.seq ?_
  refine CW.block ?_
  refine CW.loop (α := Nat) (fun i => [(0, .slice pa xs.length ca), (1, .func (.func g) first cap), (7, .int .i64 ((xs.length : Nat) : Int)), (8, .int .i64 ((i : Nat) : Int))]) (fun i U => i ≤ xs.length ∧ (∀ j (hj : j < xs.length), j < i → pr xs[j] = false) ∧ Fr0 w U) (fun i => xs.length - i) 0 (Sub.cons rfl (Sub.cons rfl (Sub.cons rfl (Sub.cons rfl (Sub.nil _))))) ⟨by omega, (fun j _ h => absurd h (Nat.not_lt_zero _)), Fr.refl _ _⟩ ?_
  rintro i U ⟨hi, hall, f⟩
  refine CW.seq ?_
  refine CW.region ?_
  refine OW.lss rfl rfl rfl ?_
  refine OW.nil ?_
  refine NX.seq ?_
  refine CW.seq ?_
  refine CW.cond rfl (fun hlt => ?_) (fun hlt => ?_)
  · have hil : i < xs.length := by omega
    obtain ⟨b, o, hpa, hr⟩ := hrd.at' hil
    subst hpa
    obtain ⟨x, hx1, hx2⟩ := getL hil
    obtain ⟨c, sg, hx⟩ := hr i x hx2
    have hcl := hR.len hx
    refine CW.skip ?_
    refine NX.seq ?_
    refine CW.seq ?_
    refine CW.block ?_
    refine CW.seq ?_
    refine CW.region ?_
    refine OW.move rfl rfl ?_
    refine OW.assign rfl rfl ?_
    refine OW.nil ?_
    refine NX.seq ?_
    refine CW.seq ?_
    refine CW.region ?_
    refine OW.move rfl rfl ?_
    refine OW.move rfl rfl ?_
    refine OW.move rfl rfl ?_
    refine OW.indexAddr rfl el135 rfl rfl (⟨by omega, by omega⟩) ?_
    refine OW.loadA rfl ag137 rfl (sg.frame f id) (hcl) ?_
    refine OW.callF rfl rfl rfl hc (hd x _ U (List.mem_of_getElem? hx2) f (hR.frame hx f (fun _ c => c.elim))) ?_
    rintro _ w3 ⟨rfl, f3⟩
    refine OW.nil ?_
    refine NX.seq ?_
    refine CW.condB rfl (fun hp => ?_) (fun hp => ?_)
    · refine CW.seq ?_
      refine CW.region ?_
      refine OW.move rfl rfl ?_
      refine OW.assign rfl rfl ?_
      refine OW.nil ?_
      refine NX.seq ?_
      refine CW.ret ?_
      refine NX.blockRet ?_
      refine NX.thenRet ?_
      refine NX.thenRet ?_
      refine NX.blockRet ?_
      refine NX.thenRet ?_
      exact NX.ret1 rfl rfl (⟨congrArg (Value.int .i64) (findIdx_some hil (by rw [← hx1]; exact hp) hall).symm, f.trans f3⟩)
    · refine CW.skip ?_
      refine NX.blockN ?_
      refine NX.seq ?_
      refine CW.region ?_
      refine OW.add rfl rfl rfl (by omega) ?_
      refine OW.move rfl rfl ?_
      refine OW.nil ?_
      exact NX.loop (i + 1) ((Sub.cons rfl (Sub.cons rfl (Sub.cons rfl (Sub.cons rfl (Sub.nil _)))))) (⟨by omega, (fun j hj hji => by
          rcases Nat.lt_or_ge j i with c | c
          · exact hall j hj c
          · obtain rfl : j = i := by omega
            rw [← hx1]; exact hp), f.trans f3⟩) (by omega)
  · refine CW.exit ?_
    refine NX.thenExit ?_
    refine NX.thenExit ?_
    refine NX.blockEq ?_
    refine NX.seq ?_
    refine CW.seq ?_
    refine CW.region ?_
    refine OW.assign rfl rfl ?_
    refine OW.nil ?_
    refine NX.seq ?_
    refine CW.ret ?_
    exact NX.ret1 rfl rfl (⟨congrArg (Value.int .i64) (findIdx_none fun j hj => hall j hj (by omega)).symm, f⟩)

end Go.Eng.Tb
