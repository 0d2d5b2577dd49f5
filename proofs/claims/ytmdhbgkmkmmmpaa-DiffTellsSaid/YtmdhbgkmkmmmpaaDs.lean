/-
  The reference's Between, stepped through.
  No condition.
-/
import Derived.Test.YtmdhbgkmkmmmpaaDq
import Derived.Test.YtmdhbgkmkmmmpaaLst
import Derived.Test.YtmdhbgkmkmmmpaaEngT
import Derived.Test.YtmdhbgkmkmmmpaaProg
import Derived.KernelRfl
import Derived.Test.YtmdhbgkmkmmmpaaDr
namespace Go.Eng.Ds
open Go Go.Eng Go.Proofs
theorem MIX : Try.prog.follows .mixedOrders = true := by kernel_rfl

theorem ag33 : aggSz Try.prog 33 = some 22 := by kernel_rfl
theorem ag36 : aggSz Try.prog 36 = some 25 := by kernel_rfl
theorem ap22 : apdIs Try.prog 22 = some (36, 25, 216) := by kernel_rfl
theorem ap26 : apdIs Try.prog 26 = some (45, 36, 344) := by kernel_rfl
theorem cl45 : callable Try.prog 45 = true := by kernel_rfl
theorem cl46 : callable Try.prog 46 = true := by kernel_rfl
theorem cl47 : callable Try.prog 47 = true := by kernel_rfl
theorem ct3 : cellTy Try.prog 3 = true := by kernel_rfl
theorem el22 : elemIs Try.prog 22 = some (36, 25) := by kernel_rfl
theorem el26 : elemIs Try.prog 26 = some (45, 36) := by kernel_rfl
theorem fo36_0 : fieldOff Try.prog 36 0 = some 0 := by kernel_rfl
theorem fo36_1 : fieldOff Try.prog 36 1 = some 1 := by kernel_rfl
theorem pl36 : placesIs Try.prog 36 = some [(0, 1), (1, 22), (23, 1), (24, 1)] := by kernel_rfl
theorem pl45 : placesIs Try.prog 45 = some [(0, 1), (1, 1), (2, 1), (3, 25), (28, 1), (29, 1), (30, 1), (31, 1), (32, 1), (33, 1), (34, 1), (35, 1)] := by kernel_rfl
theorem zr36 : zeroIs Try.prog 36 = some (.agg #[.int .i64 0, .int .u64 0, .int .u64 0, .int .u64 0, .int .u64 0, .int .u64 0, .int .u64 0, .int .u64 0, .int .u64 0, .int .u64 0, .int .u64 0, .int .u64 0, .int .u64 0, .int .u64 0, .int .u64 0, .int .u64 0, .int .u64 0, .int .u64 0, .int .u64 0, .int .u64 0, .int .u64 0, .int .u64 0, .int .u64 0, .slice none 0 0, .int .u64 0]) := by kernel_rfl
theorem zr45 : zeroIs Try.prog 45 = some (.agg #[.int .i8 0, .int .u32 0, .int .i8 0, .int .i64 0, .int .u64 0, .int .u64 0, .int .u64 0, .int .u64 0, .int .u64 0, .int .u64 0, .int .u64 0, .int .u64 0, .int .u64 0, .int .u64 0, .int .u64 0, .int .u64 0, .int .u64 0, .int .u64 0, .int .u64 0, .int .u64 0, .int .u64 0, .int .u64 0, .int .u64 0, .int .u64 0, .int .u64 0, .int .u64 0, .slice none 0 0, .int .u64 0, .int .u16 0, .bool false, .int .u16 0, .slice none 0 0, .slice none 0 0, .slice none 0 0, .slice none 0 0, .int .u16 0]) := by kernel_rfl

theorem seg_at {w : World} {b o o' : Nat} {c : List Value} {v : Value} (h : Seg w b o (v :: c)) (e : o = o') : w.cell? ⟨b, o', none⟩ = some v := by subst e; exact h.one 0 rfl
theorem fill_ok {cy : List Value} (h : cy.length = 25) : fillOk (fun i => [(0, 1), (1, 1), (2, 1), (3, 25), (28, 1), (29, 1), (30, 1), (31, 1), (32, 1), (33, 1), (34, 1), (35, 1)][i]?) ((.int .i8 0 :: (msgCells 0 (ruleCells 0 ⟨fun _ => 0, fun _ => 0⟩ (.slice none 0 0) 0)).tail)).length [(0, .int .i8 5), (2, .int .i8 0), (3, .agg cy.toArray)] = true := by
  simp [fillOk, h, Value.cells, msgCells, ruleCells, Mat.cells, Hdr.cells]
theorem fill_msg {cy : List Value} (h : cy.length = 25) : fillR (fun i => [(0, 1), (1, 1), (2, 1), (3, 25), (28, 1), (29, 1), (30, 1), (31, 1), (32, 1), (33, 1), (34, 1), (35, 1)][i]?) ((.int .i8 0 :: (msgCells 0 (ruleCells 0 ⟨fun _ => 0, fun _ => 0⟩ (.slice none 0 0) 0)).tail)) [(0, .int .i8 5), (2, .int .i8 0), (3, .agg cy.toArray)] = msgCells 0 cy := by
  simp [fillR, h, Value.cells, msgCells, ruleCells, Mat.cells, Hdr.cells, upd]

theorem refBetween_does {was now : List Rule} {va vb : Value} (w : World) (hx : rulesR (Bel w) w va was) (hy : rulesR (Bel w) w vb now) (hsx : was.length ≤ 1000000) (hsy : now.length ≤ 1000000) : Does Try.prog 17 [va, vb] w fun r w' => msgsR AllB w' r (refBetween was now) ∧ Fr0 w w' := by
  refine Does.enter Try.func17 rfl rfl ?_
  show CW _ _ _ _ 140 [] [(0, va), (1, vb)] w
  refine CW.seq ?_
  refine CW.region ?_
  refine OW.assign rfl rfl ?_
  refine OW.nil ?_
  refine NX.seq ?_
  refine CW.seq ?_
  refine CW.region ?_
  refine OW.move rfl rfl ?_
  refine OW.call rfl rfl cl45 (Dr.last_does w hx (by omega)) ?_
  rintro vA w1 ⟨oA, f1, ownA⟩
  have hy1 : rulesR (Bel w1) w1 vb now := sfB hy ruleR_ok f1
  refine OW.assign rfl rfl ?_
  refine OW.nil ?_
  refine NX.seq ?_
  refine CW.seq ?_
  refine CW.region ?_
  refine OW.move rfl rfl ?_
  refine OW.call rfl rfl cl45 (Dr.last_does w1 hy1 (by omega)) ?_
  rintro vB w2 ⟨oB, f2, ownB⟩
  have lA := refLast_le was
  have lB := refLast_le now
  obtain ⟨A, hA0⟩ : ∃ A, A = refLast was := ⟨_, rfl⟩
  obtain ⟨B, hB0⟩ : ∃ B, B = refLast now := ⟨_, rfl⟩
  rw [← hA0] at oA lA
  rw [← hB0] at oB lB
  have hA : rulesR (Bel w2) w2 vA A := ((oA.frame ruleR_ok f2 (fun _ _ h => h) (fun _ _ h => h)).mono ruleR_ok (fun k hk => Nat.lt_of_lt_of_le hk (f1.trans f2).size)).sl ruleR_ok (fun k hk => Nat.lt_of_lt_of_le (oA.lt hk) f2.size) (by omega)
  have hB : rulesR (Bel w2) w2 vB B := (oB.mono ruleR_ok (fun k hk => Nat.lt_of_lt_of_le hk f2.size)).sl ruleR_ok (fun k hk => oB.lt hk) (by omega)
  have f02 : Fr0 w w2 := f1.trans f2
  obtain ⟨pa, ca, ca', rfl, hla, ba, oa, hpa, hela⟩ := SlR.pick hA
  obtain ⟨pb, cb, cb', rfl, hlb, bb, ob, hpb, helb⟩ := SlR.pick hB
  refine OW.assign rfl rfl ?_
  refine OW.nil ?_
  refine NX.seq ?_
  refine CW.seq ?_
  refine CW.region ?_
  refine OW.assign rfl rfl ?_
  refine OW.nil ?_
  refine NX.seq ?_
  refine CW.seq ?_
  refine CW.seq ?_
  refine CW.region ?_
  refine OW.assign rfl rfl ?_
  refine OW.nil ?_
  refine NX.seq ?_
  refine CW.block ?_
  refine CW.loop (α := Nat × Value) (fun (s : Nat × Value) => match s with | (i, vo) => [(5, .slice pa A.length ca), (6, .slice pb B.length cb), (7, vo), (8, .int .i64 ((i : Nat) : Int))]) (fun (s : Nat × Value) W => match s with | (i, vo) => i ≤ A.length ∧ (∃ out, OwnSl 45 36 msgR (Bel w2) W vo out ∧ out ++ refGone B (A.drop i) = refGone B A ∧ out.length ≤ i) ∧ Fr0 w2 W ∧ ∀ j, vo.ownBlock = some j → w2.heap.size ≤ j) (fun (s : Nat × Value) => match s with | (i, vo) => A.length - i) ((0, .slice none 0 0)) (Sub.cons rfl (Sub.cons rfl (Sub.cons rfl (Sub.cons rfl (Sub.nil _))))) (⟨Nat.zero_le _, ⟨[], OwnSl.nil, rfl, Nat.le_refl _⟩, Fr.refl _ _, fun j h => by cases h⟩) ?_
  rintro ⟨i, vo⟩ W ⟨hi, ⟨out, ho, hout, hol⟩, f, hown⟩
  show CW _ _ _ _ _ _ [(5, .slice pa A.length ca), (6, .slice pb B.length cb), (7, vo), (8, .int .i64 ((i : Nat) : Int))] W
  refine CW.seq ?_
  refine CW.seq ?_
  refine CW.region ?_
  refine OW.move rfl rfl ?_
  refine OW.move rfl rfl ?_
  refine OW.len rfl el22 rfl ?_
  refine OW.lss rfl rfl rfl ?_
  refine OW.nil ?_
  refine NX.seq ?_
  refine CW.cond rfl (fun hlt => ?_) (fun hlt => ?_)
  · have hil : i < A.length := by omega
    obtain ⟨x, hx1, hx2⟩ := getL (l := A) (i := i) (by omega)
    obtain ⟨sgx, hrx⟩ := hela i x hx2
    have hcx := ruleR_ok.len hrx
    have hdr : A.drop i = x :: A.drop (i + 1) := by rw [List.drop_eq_getElem_cons hil, ← hx1]
    refine CW.skip ?_
    refine NX.seq ?_
    refine CW.seq ?_
    refine CW.block ?_
    refine CW.seq ?_
    refine CW.region ?_
    refine OW.assign rfl rfl ?_
    refine OW.nil ?_
    refine NX.seq ?_
    refine CW.seq ?_
    refine CW.seq ?_
    refine CW.region ?_
    refine OW.assign rfl rfl ?_
    refine OW.nil ?_
    refine NX.seq ?_
    refine CW.block ?_
    refine CW.loop (α := Nat) (fun k => [(5, .slice pa A.length ca), (6, .slice pb B.length cb), (7, vo), (8, .int .i64 ((i : Nat) : Int)), (9, .bool (((B.drop (0)).take (k - (0))).any (fun y => decide (plOf x = plOf y)))), (10, .int .i64 ((k : Nat) : Int))]) (fun k U => 0 ≤ k ∧ k ≤ B.length ∧ Fr0 W U) (fun k => B.length - k) (0) (Sub.cons rfl (Sub.cons rfl (Sub.cons rfl (Sub.cons rfl (Sub.cons (congrArg (fun b => some (Value.bool b)) (any_none _ _ _).symm) (Sub.cons rfl (Sub.nil _))))))) ⟨by omega, by omega, Fr.refl _ _⟩ ?_
    rintro k U ⟨hsk, hnk, g⟩
    refine CW.seq ?_
    refine CW.seq ?_
    refine CW.region ?_
    refine OW.move rfl rfl ?_
    refine OW.move rfl rfl ?_
    refine OW.len rfl el22 rfl ?_
    refine OW.lss rfl rfl rfl ?_
    refine OW.nil ?_
    refine NX.seq ?_
    refine CW.cond rfl (fun hltk => ?_) (fun hltk => ?_)
    · have hlk : k < B.length := by omega
      have hsnk := any_snoc B (fun y => decide (plOf x = plOf y)) (0) k hsk hlk
      refine CW.skip ?_
      refine NX.seq ?_
      refine CW.seq ?_
      refine CW.block ?_
      refine CW.drawX [(0, false), (1, false), (2, false), (3, false), (4, false), (5, false), (6, false), (7, false), (8, false), (9, false), (10, true), (11, false), (12, false)] (fun z => Fr0 U z) MIX (by kernel_rfl) (fun _ h => h) ?_
      intro z1 hz1
      refine XW.val rfl rfl (fun zw hz => OW.move rfl rfl (OW.nil NX.calm)) ?_
      refine XW.val rfl rfl (fun zw hz => OW.move rfl rfl (OW.nil NX.calm)) ?_
      refine XW.waysB (s := 35) rfl (fun hB => ?_) (fun hB => ?_)
      · refine XW.gno rfl rfl rfl rfl ?_
        refine XW.gno rfl rfl rfl rfl ?_
        refine XW.gno rfl rfl rfl rfl ?_
        refine XW.gno rfl rfl rfl rfl ?_
        refine XW.gno rfl rfl rfl rfl ?_
        refine XW.gno rfl rfl rfl rfl ?_
        refine XW.gno rfl rfl rfl rfl ?_
        refine XW.gno rfl rfl rfl rfl ?_
        refine XW.gnoW rfl rfl rfl rfl ?_
        refine XW.val rfl rfl (fun zw hz => OW.pickT rfl rfl rfl (OW.nil NX.calm)) ?_
        refine XW.val rfl rfl (fun zw hz => OW.assign rfl rfl (OW.nil NX.calm)) ?_
        refine XW.nil ?_
        refine NX.blockN ?_
        refine NX.seq ?_
        refine CW.region ?_
        refine OW.move rfl rfl ?_
        refine OW.add rfl rfl rfl (by omega) ?_
        refine OW.assign rfl rfl ?_
        refine OW.nil ?_
        refine NX.slot (s := 9) rfl (congrArg Value.bool (show _ = (((B.drop (0)).take (k + 1 - (0))).any (fun y => decide (plOf x = plOf y))) from by rw [hsnk, hB]; rfl)) ?_
        exact NX.loop (k + 1) ((Sub.cons rfl (Sub.cons rfl (Sub.cons rfl (Sub.cons rfl (Sub.cons rfl (Sub.cons rfl (Sub.nil _)))))))) (⟨by omega, by omega, g.trans hz1⟩) (by omega)
      · have gw := f.trans g
        obtain ⟨y, hy1, hy2⟩ := getL (l := B) (i := k) (by omega)
        obtain ⟨sgy, hry⟩ := helb k y hy2
        have hcy := ruleR_ok.len hry
        rw [← hy1] at hsnk
        have fk := gw.trans hz1
        refine XW.val rfl rfl (fun zw hz => OW.gyes rfl rfl (OW.move rfl rfl (OW.nil NX.calm))) ?_
        refine XW.val rfl rfl (fun zw hz => OW.gyes rfl rfl (OW.move rfl rfl (OW.nil NX.calm))) ?_
        refine XW.val rfl rfl (fun zw hz => OW.gyes rfl rfl (OW.indexAddr (b := ba) (o := oa) rfl el22 (by rw [← (hpa (by omega))]; rfl) rfl (⟨by omega, by omega⟩) (OW.nil NX.calm))) ?_
        refine XW.val rfl rfl (fun zw hz => OW.gyes rfl rfl (OW.loadA rfl ag36 rfl ((sgx.frame gw id).frame hz id) (hcx) (OW.nil NX.calm))) ?_
        refine XW.val rfl rfl (fun zw hz => OW.gyes rfl rfl (OW.move rfl rfl (OW.nil NX.calm))) ?_
        refine XW.val rfl rfl (fun zw hz => OW.gyes rfl rfl (OW.move rfl rfl (OW.nil NX.calm))) ?_
        refine XW.val rfl rfl (fun zw hz => OW.gyes rfl rfl (OW.indexAddr (b := bb) (o := ob) rfl el22 (by rw [← (hpb (by omega))]; rfl) rfl (⟨by omega, by omega⟩) (OW.nil NX.calm))) ?_
        refine XW.val rfl rfl (fun zw hz => OW.gyes rfl rfl (OW.loadA rfl ag36 rfl ((sgy.frame gw id).frame hz id) (hcy) (OW.nil NX.calm))) ?_
        refine XW.does ?_
        refine OW.gyes rfl rfl ?_
        refine OW.call rfl rfl cl46 (Dq.place_does _ (rf hrx ruleR_ok fk) (rf hry ruleR_ok fk)) ?_
        rintro _ U4 ⟨rfl, g4⟩
        refine OW.nil (NX.does (hz1.trans g4) ?_)
        refine XW.val rfl rfl (fun zw hz => OW.pickF rfl rfl rfl (OW.nil NX.calm)) ?_
        refine XW.val rfl rfl (fun zw hz => OW.assign rfl rfl (OW.nil NX.calm)) ?_
        refine XW.nil ?_
        refine NX.blockN ?_
        refine NX.seq ?_
        refine CW.region ?_
        refine OW.move rfl rfl ?_
        refine OW.add rfl rfl rfl (by omega) ?_
        refine OW.assign rfl rfl ?_
        refine OW.nil ?_
        refine NX.slot (s := 9) rfl (congrArg Value.bool (show _ = (((B.drop (0)).take (k + 1 - (0))).any (fun y => decide (plOf x = plOf y))) from by rw [hsnk, hB]; rfl)) ?_
        exact NX.loop (k + 1) ((Sub.cons rfl (Sub.cons rfl (Sub.cons rfl (Sub.cons rfl (Sub.cons rfl (Sub.cons rfl (Sub.nil _)))))))) (⟨by omega, by omega, (g.trans hz1).trans g4⟩) (by omega)
    · refine CW.slot (s := 9) rfl (congrArg Value.bool (show _ = ((B.drop (0)).any (fun y => decide (plOf x = plOf y))) from any_full B (fun y => decide (plOf x = plOf y)) (0) k (by omega))) ?_
      have gw := f.trans g
      rw [List.drop_zero]
      have hrl : refGone B (A.drop i) = (if (B.any fun y => decide (plOf x = plOf y)) = true then [] else [strictMsg (plOf x)]) ++ refGone B (A.drop (i + 1)) := by
        rw [hdr]; unfold refGone; rw [List.filter_cons]; cases (B.any fun y => decide (plOf x = plOf y)) <;> simp
      rcases hL : B.any fun y => decide (plOf x = plOf y)
      · refine CW.exit ?_
        refine NX.thenExit ?_
        refine NX.thenExit ?_
        refine NX.blockEq ?_
        refine NX.seq ?_
        refine CW.seq ?_
        refine CW.region ?_
        refine OW.move rfl rfl ?_
        refine OW.not rfl rfl ?_
        refine OW.nil ?_
        refine NX.seq ?_
        refine CW.condT rfl ?_
        obtain ⟨cvx, ecx, hcpx, hwx⟩ := hrx
        rw [ecx] at sgx
        refine CW.drawX [(0, false), (1, false), (2, false), (3, false), (4, false), (5, false), (6, false), (7, false), (8, false), (9, false), (10, false), (11, false), (12, false), (13, true), (14, true), (15, false)] (fun z => Fr0 w2 z) MIX (by kernel_rfl) (fun _ h => gw.trans h) ?_
        intro z1 hz1
        refine XW.val rfl rfl (fun zw hz => OW.move rfl rfl (OW.nil NX.calm)) ?_
        refine XW.val rfl rfl (fun zw hz => OW.move rfl rfl (OW.nil NX.calm)) ?_
        refine XW.val rfl rfl (fun zw hz => OW.move rfl rfl (OW.nil NX.calm)) ?_
        refine XW.val rfl rfl (fun zw hz => OW.indexAddr (b := ba) (o := oa) rfl el22 (by rw [← (hpa (by omega))]; rfl) rfl (⟨by omega, by omega⟩) (OW.nil NX.calm)) ?_
        refine XW.val rfl rfl (fun zw hz => OW.fieldAddr rfl fo36_0 rfl (OW.nil NX.calm)) ?_
        refine XW.val rfl rfl (fun zw hz => OW.load1 rfl ct3 rfl ((sgx.frame hz id).one 0 rfl) (OW.nil NX.calm)) ?_
        refine XW.val rfl rfl (fun zw hz => OW.move rfl rfl (OW.nil NX.calm)) ?_
        refine XW.val rfl rfl (fun zw hz => OW.move rfl rfl (OW.nil NX.calm)) ?_
        refine XW.val rfl rfl (fun zw hz => OW.indexAddr (b := ba) (o := oa) rfl el22 (by rw [← (hpa (by omega))]; rfl) rfl (⟨by omega, by omega⟩) (OW.nil NX.calm)) ?_
        refine XW.val rfl rfl (fun zw hz => OW.fieldAddr rfl fo36_1 rfl (OW.nil NX.calm)) ?_
        refine XW.val rfl rfl (fun zw hz => OW.loadA rfl ag33 rfl ((sgx.frame hz id).sub 1 (fun j v e => Dg.ruleCells_mat j v e)) (rfl) (OW.nil NX.calm)) ?_
        refine XW.val rfl rfl (fun zw hz => OW.build (z := ruleCells 0 ⟨fun _ => 0, fun _ => 0⟩ (.slice none 0 0) 0) rfl pl36 zr36 rfl rfl (OW.nil NX.calm)) ?_
        refine XW.val rfl rfl (fun zw hz => OW.build (z := (.int .i8 0 :: (msgCells 0 (ruleCells 0 ⟨fun _ => 0, fun _ => 0⟩ (.slice none 0 0) 0)).tail)) rfl pl45 zr45 rfl rfl (OW.nil NX.calm)) ?_
        refine XW.does ?_
        refine OW.buildOne (c := msgCells 3 (ruleCells x.rank x.mat (.slice none 0 0) 0)) rfl el26 zr45 rfl rfl rfl rfl rfl rfl ?_
        intro b7 w10 n10
        refine OW.nil (NX.does ((gw.trans hz1).trans n10.fr) ?_)
        have gn : Fr0 W w10 := (g.trans hz1).trans n10.fr
        have gn2 : Fr0 w2 w10 := f.trans gn
        refine XW.does ?_
        refine OW.appendOne (R := msgR) (X := Bel w2) (el := strictMsg (plOf x)) msgR_ok rfl ap26 rfl rfl (ho.frame msgR_ok gn (fun _ _ h => h) (fun _ _ h => h)) (Seg.ofNew n10) ⟨_, rfl, .slice none 0 0, rfl, .inl ⟨none, 0, rfl, rfl⟩, ⟨hwx.1, hwx.2.1, hwx.2.2.1, show (0 : Nat) < _ from by decide⟩⟩ (by omega) (by omega) (fun k hk e => by have := hown k e; have : k < w2.heap.size := hk; omega) ?_
        intro v8 w8 o8 f8 g8
        have g8' : Fr0 w2 w8 := gn2.trans' f8 (fun j hj c => by have := hown j c; omega)
        refine OW.nil (NX.does (g8') ?_)
        refine XW.val rfl rfl (fun zw hz => OW.assign rfl rfl (OW.nil NX.calm)) ?_
        refine XW.nil ?_
        refine NX.blockN ?_
        refine NX.seq ?_
        refine CW.region ?_
        refine OW.move rfl rfl ?_
        refine OW.add rfl rfl rfl (by omega) ?_
        refine OW.assign rfl rfl ?_
        refine OW.nil ?_
        exact NX.loop (Lf := (fun (s : Nat × Value) => match s with | (i, vo) => [(5, .slice pa A.length ca), (6, .slice pb B.length cb), (7, vo), (8, .int .i64 ((i : Nat) : Int))])) (I := (fun (s : Nat × Value) W => match s with | (i, vo) => i ≤ A.length ∧ (∃ out, OwnSl 45 36 msgR (Bel w2) W vo out ∧ out ++ refGone B (A.drop i) = refGone B A ∧ out.length ≤ i) ∧ Fr0 w2 W ∧ ∀ j, vo.ownBlock = some j → w2.heap.size ≤ j)) (m := (fun (s : Nat × Value) => match s with | (i, vo) => A.length - i)) (i := (i, vo)) (i + 1, v8) ((Sub.cons rfl (Sub.cons rfl (Sub.cons rfl (Sub.cons rfl (Sub.nil _)))))) (⟨by omega, ⟨out ++ [strictMsg (plOf x)], o8, by rw [← hout, hrl, hL]; simp, by rw [List.length_append]; simp; omega⟩, g8', fun j hj => by
                  rcases g8 j hj with d | d
                  · exact hown j d
                  · have := gn2.size; omega⟩) (show A.length - (i + 1) < A.length - i from by omega)
      · refine CW.exit ?_
        refine NX.thenExit ?_
        refine NX.thenExit ?_
        refine NX.blockEq ?_
        refine NX.seq ?_
        refine CW.seq ?_
        refine CW.region ?_
        refine OW.move rfl rfl ?_
        refine OW.not rfl rfl ?_
        refine OW.nil ?_
        refine NX.seq ?_
        refine CW.condF rfl ?_
        refine CW.skip ?_
        refine NX.blockN ?_
        refine NX.seq ?_
        refine CW.region ?_
        refine OW.move rfl rfl ?_
        refine OW.add rfl rfl rfl (by omega) ?_
        refine OW.assign rfl rfl ?_
        refine OW.nil ?_
        exact NX.loop (Lf := (fun (s : Nat × Value) => match s with | (i, vo) => [(5, .slice pa A.length ca), (6, .slice pb B.length cb), (7, vo), (8, .int .i64 ((i : Nat) : Int))])) (I := (fun (s : Nat × Value) W => match s with | (i, vo) => i ≤ A.length ∧ (∃ out, OwnSl 45 36 msgR (Bel w2) W vo out ∧ out ++ refGone B (A.drop i) = refGone B A ∧ out.length ≤ i) ∧ Fr0 w2 W ∧ ∀ j, vo.ownBlock = some j → w2.heap.size ≤ j)) (m := (fun (s : Nat × Value) => match s with | (i, vo) => A.length - i)) (i := (i, vo)) (i + 1, vo) ((Sub.cons rfl (Sub.cons rfl (Sub.cons rfl (Sub.cons rfl (Sub.nil _)))))) (⟨by omega, ⟨out, ho.frame msgR_ok g (fun _ _ h => h) (fun _ _ h => h), by rw [← hout, hrl, hL]; simp, by omega⟩, gw, hown⟩) (show A.length - (i + 1) < A.length - i from by omega)
  · have hil : A.drop i = [] := by rw [show i = A.length by omega, List.drop_length]
    rw [hil, show refGone B [] = [] from rfl, List.append_nil] at hout
    subst hout
    have lo : ∀ j, vo.ownBlock = some j → j < W.heap.size := fun j hj => ho.lt hj
    obtain ⟨gs, hgs⟩ : ∃ gs, gs = refGone B A := ⟨_, rfl⟩
    rw [← hgs] at ho hol
    refine CW.exit ?_
    refine NX.thenExit ?_
    refine NX.thenExit ?_
    refine NX.blockEq ?_
    refine NX.seq ?_
    refine CW.seq ?_
    refine CW.region ?_
    refine OW.assign rfl rfl ?_
    refine OW.nil ?_
    refine NX.seq ?_
    refine CW.seq ?_
    refine CW.seq ?_
    refine CW.region ?_
    refine OW.assign rfl rfl ?_
    refine OW.nil ?_
    refine NX.seq ?_
    refine CW.block ?_
    refine CW.loop (α := Nat × Value) (fun (s : Nat × Value) => match s with | (t, vd) => [(5, .slice pa A.length ca), (6, .slice pb B.length cb), (7, vo), (11, vd), (12, .int .i64 ((t : Nat) : Int))]) (fun (s : Nat × Value) V => match s with | (t, vd) => t ≤ B.length ∧ OwnSl 36 25 ruleR (Bel w2) V vd (isort rankLess (refAdds A (B.take t))) ∧ Fr0 W V ∧ ∀ j, vd.ownBlock = some j → W.heap.size ≤ j) (fun (s : Nat × Value) => match s with | (t, vd) => B.length - t) ((0, .slice none 0 0)) (Sub.cons rfl (Sub.cons rfl (Sub.cons rfl (Sub.cons rfl (Sub.cons rfl (Sub.nil _)))))) (⟨Nat.zero_le _, OwnSl.nil, Fr.refl _ _, fun j h => by cases h⟩) ?_
    rintro ⟨t, vd⟩ V ⟨ht, hd, fV, hdown⟩
    show CW _ _ _ _ _ _ [(5, .slice pa A.length ca), (6, .slice pb B.length cb), (7, vo), (11, vd), (12, .int .i64 ((t : Nat) : Int))] V
    refine CW.seq ?_
    refine CW.seq ?_
    refine CW.region ?_
    refine OW.move rfl rfl ?_
    refine OW.move rfl rfl ?_
    refine OW.len rfl el22 rfl ?_
    refine OW.lss rfl rfl rfl ?_
    refine OW.nil ?_
    refine NX.seq ?_
    refine CW.cond rfl (fun hltt => ?_) (fun hltt => ?_)
    · have htl : t < B.length := by omega
      obtain ⟨x, hx1, hx2⟩ := getL (l := B) (i := t) (by omega)
      obtain ⟨sgx, hrx⟩ := helb t x hx2
      have hcx := ruleR_ok.len hrx
      have hadd : refAdds A (B.take (t + 1)) = refAdds A (B.take t) ++ (if (A.any fun y => decide (x = y)) = true then [] else [x]) := by
        rw [List.take_succ_eq_append_getElem htl, ← hx1]
        unfold refAdds
        rw [List.filter_append, List.filter_cons]
        cases (A.any fun y => decide (x = y)) <;> simp
      have f2V : Fr0 w2 V := f.trans fV
      have sgx0 := sgx
      have hrx0 := hrx
      refine CW.skip ?_
      refine NX.seq ?_
      refine CW.seq ?_
      refine CW.block ?_
      refine CW.seq ?_
      refine CW.region ?_
      refine OW.assign rfl rfl ?_
      refine OW.nil ?_
      refine NX.seq ?_
      refine CW.seq ?_
      refine CW.seq ?_
      refine CW.region ?_
      refine OW.assign rfl rfl ?_
      refine OW.nil ?_
      refine NX.seq ?_
      refine CW.block ?_
      refine CW.loop (α := Nat) (fun k => [(5, .slice pa A.length ca), (6, .slice pb B.length cb), (7, vo), (11, vd), (12, .int .i64 ((t : Nat) : Int)), (13, .bool (((A.drop (0)).take (k - (0))).any (fun y => decide (x = y)))), (14, .int .i64 ((k : Nat) : Int))]) (fun k U => 0 ≤ k ∧ k ≤ A.length ∧ Fr0 V U) (fun k => A.length - k) (0) (Sub.cons rfl (Sub.cons rfl (Sub.cons rfl (Sub.cons rfl (Sub.cons rfl (Sub.cons (congrArg (fun b => some (Value.bool b)) (any_none _ _ _).symm) (Sub.cons rfl (Sub.nil _)))))))) ⟨by omega, by omega, Fr.refl _ _⟩ ?_
      rintro k U ⟨hsk, hnk, g⟩
      refine CW.seq ?_
      refine CW.seq ?_
      refine CW.region ?_
      refine OW.move rfl rfl ?_
      refine OW.move rfl rfl ?_
      refine OW.len rfl el22 rfl ?_
      refine OW.lss rfl rfl rfl ?_
      refine OW.nil ?_
      refine NX.seq ?_
      refine CW.cond rfl (fun hltk => ?_) (fun hltk => ?_)
      · have hlk : k < A.length := by omega
        have hsnk := any_snoc A (fun y => decide (x = y)) (0) k hsk hlk
        refine CW.skip ?_
        refine NX.seq ?_
        refine CW.seq ?_
        refine CW.block ?_
        refine CW.drawX [(0, false), (1, false), (2, false), (3, false), (4, false), (5, false), (6, false), (7, false), (8, false), (9, false), (10, true), (11, false), (12, false)] (fun z => Fr0 U z) MIX (by kernel_rfl) (fun _ h => h) ?_
        intro z1 hz1
        refine XW.val rfl rfl (fun zw hz => OW.move rfl rfl (OW.nil NX.calm)) ?_
        refine XW.val rfl rfl (fun zw hz => OW.move rfl rfl (OW.nil NX.calm)) ?_
        refine XW.waysB (s := 76) rfl (fun hB => ?_) (fun hB => ?_)
        · refine XW.gno rfl rfl rfl rfl ?_
          refine XW.gno rfl rfl rfl rfl ?_
          refine XW.gno rfl rfl rfl rfl ?_
          refine XW.gno rfl rfl rfl rfl ?_
          refine XW.gno rfl rfl rfl rfl ?_
          refine XW.gno rfl rfl rfl rfl ?_
          refine XW.gno rfl rfl rfl rfl ?_
          refine XW.gno rfl rfl rfl rfl ?_
          refine XW.gnoW rfl rfl rfl rfl ?_
          refine XW.val rfl rfl (fun zw hz => OW.pickT rfl rfl rfl (OW.nil NX.calm)) ?_
          refine XW.val rfl rfl (fun zw hz => OW.assign rfl rfl (OW.nil NX.calm)) ?_
          refine XW.nil ?_
          refine NX.blockN ?_
          refine NX.seq ?_
          refine CW.region ?_
          refine OW.move rfl rfl ?_
          refine OW.add rfl rfl rfl (by omega) ?_
          refine OW.assign rfl rfl ?_
          refine OW.nil ?_
          refine NX.slot (s := 13) rfl (congrArg Value.bool (show _ = (((A.drop (0)).take (k + 1 - (0))).any (fun y => decide (x = y))) from by rw [hsnk, hB]; rfl)) ?_
          exact NX.loop (k + 1) ((Sub.cons rfl (Sub.cons rfl (Sub.cons rfl (Sub.cons rfl (Sub.cons rfl (Sub.cons rfl (Sub.cons rfl (Sub.nil _))))))))) (⟨by omega, by omega, g.trans hz1⟩) (by omega)
        · have gw := f2V.trans g
          obtain ⟨y, hy1, hy2⟩ := getL (l := A) (i := k) (by omega)
          obtain ⟨sgy, hry⟩ := hela k y hy2
          have hcy := ruleR_ok.len hry
          rw [← hy1] at hsnk
          have fk := gw.trans hz1
          refine XW.val rfl rfl (fun zw hz => OW.gyes rfl rfl (OW.move rfl rfl (OW.nil NX.calm))) ?_
          refine XW.val rfl rfl (fun zw hz => OW.gyes rfl rfl (OW.move rfl rfl (OW.nil NX.calm))) ?_
          refine XW.val rfl rfl (fun zw hz => OW.gyes rfl rfl (OW.indexAddr (b := bb) (o := ob) rfl el22 (by rw [← (hpb (by omega))]; rfl) rfl (⟨by omega, by omega⟩) (OW.nil NX.calm))) ?_
          refine XW.val rfl rfl (fun zw hz => OW.gyes rfl rfl (OW.loadA rfl ag36 rfl ((sgx.frame gw id).frame hz id) (hcx) (OW.nil NX.calm))) ?_
          refine XW.val rfl rfl (fun zw hz => OW.gyes rfl rfl (OW.move rfl rfl (OW.nil NX.calm))) ?_
          refine XW.val rfl rfl (fun zw hz => OW.gyes rfl rfl (OW.move rfl rfl (OW.nil NX.calm))) ?_
          refine XW.val rfl rfl (fun zw hz => OW.gyes rfl rfl (OW.indexAddr (b := ba) (o := oa) rfl el22 (by rw [← (hpa (by omega))]; rfl) rfl (⟨by omega, by omega⟩) (OW.nil NX.calm))) ?_
          refine XW.val rfl rfl (fun zw hz => OW.gyes rfl rfl (OW.loadA rfl ag36 rfl ((sgy.frame gw id).frame hz id) (hcy) (OW.nil NX.calm))) ?_
          refine XW.does ?_
          refine OW.gyes rfl rfl ?_
          refine OW.call rfl rfl cl47 (Dq.alike_does _ (rf hrx ruleR_ok fk) (rf hry ruleR_ok fk)) ?_
          rintro _ U4 ⟨rfl, g4⟩
          refine OW.nil (NX.does (hz1.trans g4) ?_)
          refine XW.val rfl rfl (fun zw hz => OW.pickF rfl rfl rfl (OW.nil NX.calm)) ?_
          refine XW.val rfl rfl (fun zw hz => OW.assign rfl rfl (OW.nil NX.calm)) ?_
          refine XW.nil ?_
          refine NX.blockN ?_
          refine NX.seq ?_
          refine CW.region ?_
          refine OW.move rfl rfl ?_
          refine OW.add rfl rfl rfl (by omega) ?_
          refine OW.assign rfl rfl ?_
          refine OW.nil ?_
          refine NX.slot (s := 13) rfl (congrArg Value.bool (show _ = (((A.drop (0)).take (k + 1 - (0))).any (fun y => decide (x = y))) from by rw [hsnk, hB]; rfl)) ?_
          exact NX.loop (k + 1) ((Sub.cons rfl (Sub.cons rfl (Sub.cons rfl (Sub.cons rfl (Sub.cons rfl (Sub.cons rfl (Sub.cons rfl (Sub.nil _))))))))) (⟨by omega, by omega, (g.trans hz1).trans g4⟩) (by omega)
      · refine CW.slot (s := 13) rfl (congrArg Value.bool (show _ = ((A.drop (0)).any (fun y => decide (x = y))) from any_full A (fun y => decide (x = y)) (0) k (by omega))) ?_
        have gw := f2V.trans g
        rw [List.drop_zero]
        rcases hL : A.any fun y => decide (x = y)
        · refine CW.exit ?_
          refine NX.thenExit ?_
          refine NX.thenExit ?_
          refine NX.blockEq ?_
          refine NX.seq ?_
          refine CW.seq ?_
          refine CW.seq ?_
          refine CW.region ?_
          refine OW.move rfl rfl ?_
          refine OW.nil ?_
          refine NX.seq ?_
          refine CW.condF rfl ?_
          obtain ⟨ad, had⟩ : ∃ ad, ad = isort rankLess (refAdds A (B.take t)) := ⟨_, rfl⟩
          have hsort := isort_rank (refAdds A (B.take t))
          have hadl : ad.length ≤ t := by rw [had, (isort_perm _ _).length_eq]; exact Nat.le_trans (List.length_filter_le _ _) (by rw [List.length_take]; omega)
          rw [← had] at hd hsort
          have hdU := hd.frame ruleR_ok g (fun _ _ h => h) (fun _ _ h => h)
          obtain ⟨pd, cd, hvd, hcd⟩ := hdU.shape
          subst hvd
          have hins : isort rankLess (refAdds A (B.take (t + 1))) = insAft x ad := by rw [hadd, hL, had]; exact isort_snoc x _
          refine CW.skip ?_
          refine NX.seq ?_
          refine CW.seq ?_
          refine CW.region ?_
          refine OW.move rfl rfl ?_
          refine OW.len rfl el22 rfl ?_
          refine OW.assign rfl rfl ?_
          refine OW.nil ?_
          refine NX.seq ?_
          refine CW.seq ?_
          refine CW.block ?_
          refine CW.loop (α := Nat) (fun h => [(5, .slice pa A.length ca), (6, .slice pb B.length cb), (7, vo), (11, .slice pd ad.length cd), (12, .int .i64 ((t : Nat) : Int)), (15, .int .i64 ((h : Nat) : Int))]) (fun h Z => h ≤ ad.length ∧ (∀ j y, h ≤ j → ad[j]? = some y → y.rank < x.rank) ∧ Fr0 U Z) (fun h => h) ad.length (Sub.cons rfl (Sub.cons rfl (Sub.cons rfl (Sub.cons rfl (Sub.cons rfl (Sub.cons rfl (Sub.nil _))))))) ⟨Nat.le_refl _, (fun j y hj hy => by rw [List.getElem?_eq_none hj] at hy; cases hy), Fr.refl _ _⟩ ?_
          rintro h Z ⟨hh, hless, gz⟩
          refine CW.seq ?_
          refine CW.seq ?_
          refine CW.drawX [(0, false), (1, false), (2, false), (3, false), (4, false), (5, false), (6, false), (7, false), (8, false), (9, false), (10, false), (11, false), (12, false), (13, false), (14, false), (15, false)] (fun z => Fr0 Z z) MIX (by kernel_rfl) (fun _ h => h) ?_
          intro z1 hz1
          refine XW.val rfl rfl (fun zw hz => OW.move rfl rfl (OW.nil NX.calm)) ?_
          refine XW.val rfl rfl (fun zw hz => OW.gtr rfl rfl rfl (OW.nil NX.calm)) ?_
          refine XW.val rfl rfl (fun zw hz => OW.move rfl rfl (OW.nil NX.calm)) ?_
          refine XW.ways (s := 92) rfl (fun hpos => ?_) (fun hpos => ?_)
          · have hadU := hdU.rd
            obtain ⟨bd, od, hpd, hrd⟩ := hadU.at' (i := h - 1) (by omega)
            obtain ⟨y, hy1, hy2⟩ := getL (l := ad) (i := h - 1) (by omega)
            obtain ⟨_, sgy, cvy, rfl, hcpy, hwy⟩ := hrd (h - 1) y hy2
            obtain ⟨cvx, ecx, hcpx, hwx⟩ := hrx
            rw [ecx] at sgx
            refine XW.val rfl rfl (fun zw hz => OW.gyes rfl rfl (OW.move rfl rfl (OW.nil NX.calm))) ?_
            refine XW.val rfl rfl (fun zw hz => OW.gyes rfl rfl (OW.move rfl rfl (OW.nil NX.calm))) ?_
            refine XW.val rfl rfl (fun zw hz => OW.gyes rfl rfl (OW.sub' rfl rfl rfl (by omega) (OW.nil NX.calm))) ?_
            refine XW.val rfl rfl (fun zw hz => OW.gyes rfl rfl (OW.indexAddr (b := bd) (o := od) rfl el22 (by rw [← hpd]; rfl) rfl (⟨by omega, by omega⟩) (OW.nil NX.calm))) ?_
            refine XW.val rfl rfl (fun zw hz => OW.gyes rfl rfl (OW.fieldAddr rfl fo36_0 rfl (OW.nil NX.calm))) ?_
            refine XW.val rfl rfl (fun zw hz => OW.gyes rfl rfl (OW.load1 rfl ct3 rfl (seg_at ((sgy.frame gz id).frame hz id) (by omega)) (OW.nil NX.calm))) ?_
            refine XW.val rfl rfl (fun zw hz => OW.gyes rfl rfl (OW.move rfl rfl (OW.nil NX.calm))) ?_
            refine XW.val rfl rfl (fun zw hz => OW.gyes rfl rfl (OW.move rfl rfl (OW.nil NX.calm))) ?_
            refine XW.val rfl rfl (fun zw hz => OW.gyes rfl rfl (OW.indexAddr (b := bb) (o := ob) rfl el22 (by rw [← (hpb (by omega))]; rfl) rfl (⟨by omega, by omega⟩) (OW.nil NX.calm))) ?_
            refine XW.val rfl rfl (fun zw hz => OW.gyes rfl rfl (OW.fieldAddr rfl fo36_0 rfl (OW.nil NX.calm))) ?_
            refine XW.val rfl rfl (fun zw hz => OW.gyes rfl rfl (OW.load1 rfl ct3 rfl (((sgx.frame gw id).frame gz id).frame hz id |>.one 0 rfl) (OW.nil NX.calm))) ?_
            refine XW.val rfl rfl (fun zw hz => OW.gyes rfl rfl (OW.lss rfl rfl rfl (OW.nil NX.calm))) ?_
            refine XW.val rfl rfl (fun zw hz => OW.pickT rfl rfl rfl (OW.nil NX.calm)) ?_
            refine XW.nil ?_
            refine NX.seq ?_
            refine CW.cond rfl (fun hlss => ?_) (fun hlss => ?_)
            · refine CW.skip ?_
              refine NX.seq ?_
              refine CW.block ?_
              refine CW.region ?_
              refine OW.move rfl rfl ?_
              refine OW.sub' rfl rfl rfl (by omega) ?_
              refine OW.assign rfl rfl ?_
              refine OW.nil ?_
              refine NX.blockN ?_
              exact NX.loop (h - 1) ((Sub.cons rfl (Sub.cons rfl (Sub.cons rfl (Sub.cons rfl (Sub.cons rfl (Sub.cons (congrArg (fun i => some (Value.int .i64 i)) (by omega)) (Sub.nil _)))))))) (⟨by omega, fun j z hj hz => by
                  rcases Nat.lt_or_ge j h with c | c
                  · obtain rfl : j = h - 1 := by omega
                    rw [hy2] at hz; cases hz; exact hlss
                  · exact hless j z c hz, gz.trans hz1⟩) (by omega)
            · refine CW.exit ?_
              refine NX.thenExit ?_
              refine NX.thenExit ?_
              refine NX.blockEq ?_
              refine NX.seq ?_
              refine CW.seq ?_
              refine CW.region ?_
              refine OW.assign rfl rfl ?_
              refine OW.nil ?_
              refine NX.seq ?_
              refine CW.seq ?_
              refine CW.region ?_
              refine OW.move rfl rfl ?_
              refine OW.move rfl rfl ?_
              refine OW.move rfl rfl ?_
              have gz' := gz.trans hz1
              have gzV : Fr0 V _ := g.trans gz'
              have gz2 := f2V.trans gzV
              have hspl := insAft_split (x := x) (l := ad) (k := h) hsort hh (fun j y hj hy => hless j y hj hy) (fun z _ hz => by rw [hy2] at hz; cases hz; exact hlss)
              have hdZ := hdU.frame ruleR_ok gz' (fun _ _ h => h) (fun _ _ h => h)
              refine OW.sliceH rfl el22 rfl rfl ⟨by omega, by omega⟩ ?_
              refine OW.appendSl (R := ruleR) (X := Bel w2) (xs := []) (ys := (ad.drop 0).take (h - 0)) ruleR_ok rfl ap22 rfl rfl OwnSl.nil (hdZ.rd.piece (a := 0) (c := h) (Nat.zero_le _) hh) (by rw [List.length_take, List.length_drop]; simp; omega) (by rw [List.length_take, List.length_drop]; simp; omega) (fun k hk e => by cases e) ?_
              intro vn w20 on fn gn
              simp only [List.nil_append, List.drop_zero, Nat.sub_zero] at on
              have fn0 : Fr0 _ w20 := fn.mono (fun k _ c => by cases c)
              have gnV := gzV.trans fn0
              have gn2 := gz2.trans fn0
              have gnown : ∀ j, vn.ownBlock = some j → U.heap.size ≤ j := fun j hj => by
                rcases gn j hj with d | d
                · cases d
                · have := gz'.size; omega
              refine OW.assign rfl rfl ?_
              refine OW.nil ?_
              refine NX.seq ?_
              refine CW.seq ?_
              refine CW.region ?_
              refine OW.move rfl rfl ?_
              refine OW.move rfl rfl ?_
              refine OW.move rfl rfl ?_
              refine OW.indexAddr (b := bb) (o := ob) rfl el22 (by rw [← (hpb (by omega))]; rfl) rfl (⟨by omega, by omega⟩) ?_
              refine OW.loadA rfl ag36 rfl (sgx0.frame gn2 id) (hcx) ?_
              refine OW.buildOne (c := cb' t) rfl el22 zr36 rfl rfl rfl rfl hcx rfl ?_
              intro b21 w21 n21
              refine OW.appendOne (R := ruleR) (X := Bel w2) (el := x) ruleR_ok rfl ap22 rfl rfl (on.frame ruleR_ok n21.fr (fun _ _ h => h) (fun _ _ h => h)) (Seg.ofNew n21) (rf hrx0 ruleR_ok (gn2.trans n21.fr)) (by rw [List.length_take]; omega) (by rw [List.length_take]; omega) (fun k hk e => by have := gnown k e; have : k < w2.heap.size := hk; have := gw.size; omega) ?_
              intro vm w22 om fm gm
              have gmown : ∀ j, vm.ownBlock = some j → U.heap.size ≤ j := fun j hj => by
                rcases gm j hj with d | d
                · exact gnown j d
                · have := (gz'.trans fn0).size; have := n21.fr.size; omega
              have fU22 : Fr0 U w22 := ((gz'.trans fn0).trans n21.fr).trans' fm (fun j hj c => by have := gnown j c; omega)
              have hd22 := hdU.frame ruleR_ok fU22 (fun _ _ h => h) (fun _ _ h => h)
              refine OW.assign rfl rfl ?_
              refine OW.nil ?_
              refine NX.seq ?_
              refine CW.region ?_
              refine OW.move rfl rfl ?_
              refine OW.move rfl rfl ?_
              refine OW.move rfl rfl ?_
              refine OW.sliceL rfl el22 rfl rfl ⟨by omega, by omega⟩ ?_
              refine OW.appendSl (R := ruleR) (X := Bel w2) (ys := (ad.drop h).take (ad.length - h)) ruleR_ok rfl ap22 rfl rfl om (hd22.rd.piece (a := h) (c := ad.length) hh (Nat.le_refl _)) (by simp only [List.length_append, List.length_take, List.length_drop, List.length_cons, List.length_nil]; omega) (by simp only [List.length_append, List.length_take, List.length_drop, List.length_cons, List.length_nil]; omega) (fun k hk e => by have := gmown k e; have : k < w2.heap.size := hk; have := gw.size; omega) ?_
              intro vq w23 oq fq gq
              have gqown : ∀ j, vq.ownBlock = some j → U.heap.size ≤ j := fun j hj => by
                rcases gq j hj with d | d
                · exact gmown j d
                · have := fU22.size; omega
              have fU23 : Fr0 U w23 := fU22.trans' fq (fun j hj c => by have := gmown j c; omega)
              have hres : ad.take h ++ [x] ++ (ad.drop h).take (ad.length - h) = insAft x ad := by
                have e1 : (ad.drop h).take (ad.length - h) = ad.drop h := List.take_of_length_le (by rw [List.length_drop]; exact Nat.le_refl _)
                rw [hspl, e1]; simp
              rw [hres] at oq
              refine OW.assign rfl rfl ?_
              refine OW.nil ?_
              refine NX.blockN ?_
              refine NX.seq ?_
              refine CW.region ?_
              refine OW.move rfl rfl ?_
              refine OW.add rfl rfl rfl (by omega) ?_
              refine OW.assign rfl rfl ?_
              refine OW.nil ?_
              exact NX.loop (Lf := (fun (s : Nat × Value) => match s with | (t, vd) => [(5, .slice pa A.length ca), (6, .slice pb B.length cb), (7, vo), (11, vd), (12, .int .i64 ((t : Nat) : Int))])) (I := (fun (s : Nat × Value) V => match s with | (t, vd) => t ≤ B.length ∧ OwnSl 36 25 ruleR (Bel w2) V vd (isort rankLess (refAdds A (B.take t))) ∧ Fr0 W V ∧ ∀ j, vd.ownBlock = some j → W.heap.size ≤ j)) (m := (fun (s : Nat × Value) => match s with | (t, vd) => B.length - t)) (i := (t, .slice pd ad.length cd)) (t + 1, vq) ((Sub.cons rfl (Sub.cons rfl (Sub.cons rfl (Sub.cons rfl (Sub.cons rfl (Sub.nil _))))))) (⟨by omega, by rw [hins]; exact oq, (fV.trans g).trans fU23, fun j hj => by have := gqown j hj; have := (fV.trans g).size; omega⟩) (show B.length - (t + 1) < B.length - t from by omega)
          · refine XW.gno rfl rfl rfl rfl ?_
            refine XW.gno rfl rfl rfl rfl ?_
            refine XW.gno rfl rfl rfl rfl ?_
            refine XW.gno rfl rfl rfl rfl ?_
            refine XW.gno rfl rfl rfl rfl ?_
            refine XW.gno rfl rfl rfl rfl ?_
            refine XW.gno rfl rfl rfl rfl ?_
            refine XW.gno rfl rfl rfl rfl ?_
            refine XW.gno rfl rfl rfl rfl ?_
            refine XW.gno rfl rfl rfl rfl ?_
            refine XW.gno rfl rfl rfl rfl ?_
            refine XW.gno rfl rfl rfl rfl ?_
            refine XW.val rfl rfl (fun zw hz => OW.pickF rfl rfl rfl (OW.nil NX.calm)) ?_
            refine XW.nil ?_
            refine NX.seq ?_
            refine CW.condF rfl ?_
            have gz' := gz.trans hz1
            have gzV : Fr0 V _ := g.trans gz'
            have gz2 := f2V.trans gzV
            have hspl := insAft_split (x := x) (l := ad) (k := h) hsort hh (fun j y hj hy => hless j y hj hy) (fun y h0 _ => absurd h0 (by omega))
            have hdZ := hdU.frame ruleR_ok gz' (fun _ _ h => h) (fun _ _ h => h)
            refine CW.exit ?_
            refine NX.thenExit ?_
            refine NX.thenExit ?_
            refine NX.blockEq ?_
            refine NX.seq ?_
            refine CW.seq ?_
            refine CW.region ?_
            refine OW.assign rfl rfl ?_
            refine OW.nil ?_
            refine NX.seq ?_
            refine CW.seq ?_
            refine CW.region ?_
            refine OW.move rfl rfl ?_
            refine OW.move rfl rfl ?_
            refine OW.move rfl rfl ?_
            refine OW.sliceH rfl el22 rfl rfl ⟨by omega, by omega⟩ ?_
            refine OW.appendSl (R := ruleR) (X := Bel w2) (xs := []) (ys := (ad.drop 0).take (h - 0)) ruleR_ok rfl ap22 rfl rfl OwnSl.nil (hdZ.rd.piece (a := 0) (c := h) (Nat.zero_le _) hh) (by rw [List.length_take, List.length_drop]; simp; omega) (by rw [List.length_take, List.length_drop]; simp; omega) (fun k hk e => by cases e) ?_
            intro vn w20 on fn gn
            simp only [List.nil_append, List.drop_zero, Nat.sub_zero] at on
            have fn0 : Fr0 _ w20 := fn.mono (fun k _ c => by cases c)
            have gnV := gzV.trans fn0
            have gn2 := gz2.trans fn0
            have gnown : ∀ j, vn.ownBlock = some j → U.heap.size ≤ j := fun j hj => by
              rcases gn j hj with d | d
              · cases d
              · have := gz'.size; omega
            refine OW.assign rfl rfl ?_
            refine OW.nil ?_
            refine NX.seq ?_
            refine CW.seq ?_
            refine CW.region ?_
            refine OW.move rfl rfl ?_
            refine OW.move rfl rfl ?_
            refine OW.move rfl rfl ?_
            refine OW.indexAddr (b := bb) (o := ob) rfl el22 (by rw [← (hpb (by omega))]; rfl) rfl (⟨by omega, by omega⟩) ?_
            refine OW.loadA rfl ag36 rfl (sgx0.frame gn2 id) (hcx) ?_
            refine OW.buildOne (c := cb' t) rfl el22 zr36 rfl rfl rfl rfl hcx rfl ?_
            intro b21 w21 n21
            refine OW.appendOne (R := ruleR) (X := Bel w2) (el := x) ruleR_ok rfl ap22 rfl rfl (on.frame ruleR_ok n21.fr (fun _ _ h => h) (fun _ _ h => h)) (Seg.ofNew n21) (rf hrx0 ruleR_ok (gn2.trans n21.fr)) (by rw [List.length_take]; omega) (by rw [List.length_take]; omega) (fun k hk e => by have := gnown k e; have : k < w2.heap.size := hk; have := gw.size; omega) ?_
            intro vm w22 om fm gm
            have gmown : ∀ j, vm.ownBlock = some j → U.heap.size ≤ j := fun j hj => by
              rcases gm j hj with d | d
              · exact gnown j d
              · have := (gz'.trans fn0).size; have := n21.fr.size; omega
            have fU22 : Fr0 U w22 := ((gz'.trans fn0).trans n21.fr).trans' fm (fun j hj c => by have := gnown j c; omega)
            have hd22 := hdU.frame ruleR_ok fU22 (fun _ _ h => h) (fun _ _ h => h)
            refine OW.assign rfl rfl ?_
            refine OW.nil ?_
            refine NX.seq ?_
            refine CW.region ?_
            refine OW.move rfl rfl ?_
            refine OW.move rfl rfl ?_
            refine OW.move rfl rfl ?_
            refine OW.sliceL rfl el22 rfl rfl ⟨by omega, by omega⟩ ?_
            refine OW.appendSl (R := ruleR) (X := Bel w2) (ys := (ad.drop h).take (ad.length - h)) ruleR_ok rfl ap22 rfl rfl om (hd22.rd.piece (a := h) (c := ad.length) hh (Nat.le_refl _)) (by simp only [List.length_append, List.length_take, List.length_drop, List.length_cons, List.length_nil]; omega) (by simp only [List.length_append, List.length_take, List.length_drop, List.length_cons, List.length_nil]; omega) (fun k hk e => by have := gmown k e; have : k < w2.heap.size := hk; have := gw.size; omega) ?_
            intro vq w23 oq fq gq
            have gqown : ∀ j, vq.ownBlock = some j → U.heap.size ≤ j := fun j hj => by
              rcases gq j hj with d | d
              · exact gmown j d
              · have := fU22.size; omega
            have fU23 : Fr0 U w23 := fU22.trans' fq (fun j hj c => by have := gmown j c; omega)
            have hres : ad.take h ++ [x] ++ (ad.drop h).take (ad.length - h) = insAft x ad := by
              have e1 : (ad.drop h).take (ad.length - h) = ad.drop h := List.take_of_length_le (by rw [List.length_drop]; exact Nat.le_refl _)
              rw [hspl, e1]; simp
            rw [hres] at oq
            refine OW.assign rfl rfl ?_
            refine OW.nil ?_
            refine NX.blockN ?_
            refine NX.seq ?_
            refine CW.region ?_
            refine OW.move rfl rfl ?_
            refine OW.add rfl rfl rfl (by omega) ?_
            refine OW.assign rfl rfl ?_
            refine OW.nil ?_
            exact NX.loop (Lf := (fun (s : Nat × Value) => match s with | (t, vd) => [(5, .slice pa A.length ca), (6, .slice pb B.length cb), (7, vo), (11, vd), (12, .int .i64 ((t : Nat) : Int))])) (I := (fun (s : Nat × Value) V => match s with | (t, vd) => t ≤ B.length ∧ OwnSl 36 25 ruleR (Bel w2) V vd (isort rankLess (refAdds A (B.take t))) ∧ Fr0 W V ∧ ∀ j, vd.ownBlock = some j → W.heap.size ≤ j)) (m := (fun (s : Nat × Value) => match s with | (t, vd) => B.length - t)) (i := (t, .slice pd ad.length cd)) (t + 1, vq) ((Sub.cons rfl (Sub.cons rfl (Sub.cons rfl (Sub.cons rfl (Sub.cons rfl (Sub.nil _))))))) (⟨by omega, by rw [hins]; exact oq, (fV.trans g).trans fU23, fun j hj => by have := gqown j hj; have := (fV.trans g).size; omega⟩) (show B.length - (t + 1) < B.length - t from by omega)
        · refine CW.exit ?_
          refine NX.thenExit ?_
          refine NX.thenExit ?_
          refine NX.blockEq ?_
          refine NX.seq ?_
          refine CW.seq ?_
          refine CW.seq ?_
          refine CW.region ?_
          refine OW.move rfl rfl ?_
          refine OW.nil ?_
          refine NX.seq ?_
          refine CW.condT rfl ?_
          refine CW.exit ?_
          refine NX.thenExit ?_
          refine NX.blockEq ?_
          refine NX.seq ?_
          refine CW.region ?_
          refine OW.move rfl rfl ?_
          refine OW.add rfl rfl rfl (by omega) ?_
          refine OW.assign rfl rfl ?_
          refine OW.nil ?_
          exact NX.loop (Lf := (fun (s : Nat × Value) => match s with | (t, vd) => [(5, .slice pa A.length ca), (6, .slice pb B.length cb), (7, vo), (11, vd), (12, .int .i64 ((t : Nat) : Int))])) (I := (fun (s : Nat × Value) V => match s with | (t, vd) => t ≤ B.length ∧ OwnSl 36 25 ruleR (Bel w2) V vd (isort rankLess (refAdds A (B.take t))) ∧ Fr0 W V ∧ ∀ j, vd.ownBlock = some j → W.heap.size ≤ j)) (m := (fun (s : Nat × Value) => match s with | (t, vd) => B.length - t)) (i := (t, vd)) (t + 1, vd) ((Sub.cons rfl (Sub.cons rfl (Sub.cons rfl (Sub.cons rfl (Sub.cons rfl (Sub.nil _))))))) (⟨by omega, by rw [hadd, hL]; simp only [if_true, List.append_nil]; exact hd.frame ruleR_ok g (fun _ _ h => h) (fun _ _ h => h), fV.trans g, hdown⟩) (show B.length - (t + 1) < B.length - t from by omega)
    · have hfull : B.take t = B := List.take_of_length_le (by omega)
      rw [hfull] at hd
      obtain ⟨ad, had⟩ : ∃ ad, ad = isort rankLess (refAdds A B) := ⟨_, rfl⟩
      rw [← had] at hd
      have hadl : ad.length ≤ B.length := by rw [had, (isort_perm _ _).length_eq]; exact List.length_filter_le _ _
      obtain ⟨pd, cd, hvd, hcd⟩ := hd.shape
      subst hvd
      have hoV := ho.frame msgR_ok fV (fun _ _ h => h) (fun _ _ h => h)
      have gsl : gs.length ≤ A.length := by rw [hgs]; unfold refGone; rw [List.length_map]; exact List.length_filter_le _ _
      refine CW.exit ?_
      refine NX.thenExit ?_
      refine NX.thenExit ?_
      refine NX.blockEq ?_
      refine NX.seq ?_
      refine CW.seq ?_
      refine CW.seq ?_
      refine CW.region ?_
      refine OW.assign rfl rfl ?_
      refine OW.nil ?_
      refine NX.seq ?_
      refine CW.block ?_
      refine CW.loop (α := Nat × Value) (fun (s : Nat × Value) => match s with | (m, vr) => [(7, vr), (11, .slice pd ad.length cd), (17, .int .i64 ((m : Nat) : Int))]) (fun (s : Nat × Value) Z => match s with | (m, vr) => m ≤ ad.length ∧ OwnSl 45 36 msgR (Bel w2) Z vr (gs ++ (ad.take m).map addMsg) ∧ OwnSl 36 25 ruleR (Bel w2) Z (.slice pd ad.length cd) ad ∧ Fr0 w2 Z ∧ ∀ j, vr.ownBlock = some j → w2.heap.size ≤ j ∧ (.slice pd ad.length cd : Value).ownBlock ≠ some j) (fun (s : Nat × Value) => match s with | (m, vr) => ad.length - m) ((0, vo)) (Sub.cons rfl (Sub.cons rfl (Sub.cons rfl (Sub.nil _)))) (⟨Nat.zero_le _, by simpa using hoV, hd, f.trans fV, fun j hj => ⟨hown j hj, fun c => by have := hdown j c; have := lo j hj; omega⟩⟩) ?_
      rintro ⟨m, vr⟩ Z ⟨hm, hr, hdZ, fZ, hrown⟩
      show CW _ _ _ _ _ _ [(7, vr), (11, .slice pd ad.length cd), (17, .int .i64 ((m : Nat) : Int))] Z
      refine CW.seq ?_
      refine CW.seq ?_
      refine CW.region ?_
      refine OW.move rfl rfl ?_
      refine OW.move rfl rfl ?_
      refine OW.len rfl el22 rfl ?_
      refine OW.lss rfl rfl rfl ?_
      refine OW.nil ?_
      refine NX.seq ?_
      refine CW.cond rfl (fun hltm => ?_) (fun hltm => ?_)
      · have hml : m < ad.length := by omega
        obtain ⟨bd, od, hpd, hrd⟩ := hdZ.rd.at' hml
        obtain ⟨y, hy1, hy2⟩ := getL hml
        obtain ⟨cy, sgy, hry⟩ := hrd m y hy2
        have hcy := ruleR_ok.len hry
        refine CW.skip ?_
        refine NX.seq ?_
        refine CW.seq ?_
        refine CW.block ?_
        refine CW.region ?_
        refine OW.move rfl rfl ?_
        refine OW.move rfl rfl ?_
        refine OW.move rfl rfl ?_
        refine OW.indexAddr (b := bd) (o := od) rfl el22 (by rw [← hpd]; rfl) rfl (⟨by omega, by omega⟩) ?_
        refine OW.loadA rfl ag36 rfl (sgy) (hcy) ?_
        refine OW.build (z := (.int .i8 0 :: (msgCells 0 (ruleCells 0 ⟨fun _ => 0, fun _ => 0⟩ (.slice none 0 0) 0)).tail)) (ps := [(0, .int .i8 5), (2, .int .i8 0), (3, .agg cy.toArray)]) rfl pl45 zr45 rfl (fill_ok hcy) ?_
        refine OW.slot (s := 136) rfl (congrArg (fun l => Value.agg (List.toArray l)) (fill_msg hcy)) ?_
        refine OW.buildOne (c := msgCells 0 cy) rfl el26 zr45 rfl rfl rfl rfl (by simp [msgCells, hcy]) rfl ?_
        intro b7 w10 n10
        refine OW.appendOne (R := msgR) (X := Bel w2) (el := addMsg y) msgR_ok rfl ap26 rfl rfl (hr.frame msgR_ok n10.fr (fun _ _ h => h) (fun _ _ h => h)) (Seg.ofNew n10) ⟨cy, rfl, rf hry ruleR_ok n10.fr⟩ (by simp only [List.length_append, List.length_map, List.length_take]; omega) (by simp only [List.length_append, List.length_map, List.length_take]; omega) (fun k hk e => by have := (hrown k e).1; have : k < w2.heap.size := hk; omega) ?_
        intro v8 w8 o8 f8 g8
        have hd8 := (hdZ.frame ruleR_ok n10.fr (fun _ _ h => h) (fun _ _ h => h)).frame ruleR_ok f8 (fun k hk c => (hrown k c).2 hk) (fun k hk c => by have := (hrown k c).1; have : k < w2.heap.size := hk; omega)
        refine OW.assign rfl rfl ?_
        refine OW.nil ?_
        refine NX.blockN ?_
        refine NX.seq ?_
        refine CW.region ?_
        refine OW.move rfl rfl ?_
        refine OW.add rfl rfl rfl (by omega) ?_
        refine OW.assign rfl rfl ?_
        refine OW.nil ?_
        exact NX.loop (Lf := (fun (s : Nat × Value) => match s with | (m, vr) => [(7, vr), (11, .slice pd ad.length cd), (17, .int .i64 ((m : Nat) : Int))])) (I := (fun (s : Nat × Value) Z => match s with | (m, vr) => m ≤ ad.length ∧ OwnSl 45 36 msgR (Bel w2) Z vr (gs ++ (ad.take m).map addMsg) ∧ OwnSl 36 25 ruleR (Bel w2) Z (.slice pd ad.length cd) ad ∧ Fr0 w2 Z ∧ ∀ j, vr.ownBlock = some j → w2.heap.size ≤ j ∧ (.slice pd ad.length cd : Value).ownBlock ≠ some j)) (m := (fun (s : Nat × Value) => match s with | (m, vr) => ad.length - m)) (i := (m, vr)) (m + 1, v8) ((Sub.cons rfl (Sub.cons rfl (Sub.cons rfl (Sub.nil _))))) (⟨by omega, by rw [List.take_succ_eq_append_getElem hml, ← hy1, List.map_append, ← List.append_assoc]; exact o8, hd8, (fZ.trans n10.fr).trans' f8 (fun j hj c => by have := (hrown j c).1; omega), fun j hj => by
                  rcases g8 j hj with d | d
                  · exact hrown j d
                  · have := (fZ.trans n10.fr).size; have := n10.fr.size; exact ⟨by omega, fun c => by have := hdZ.lt c; omega⟩⟩) (show ad.length - (m + 1) < ad.length - m from by omega)
      · have hfm : ad.take m = ad := List.take_of_length_le (by omega)
        rw [hfm] at hr
        refine CW.exit ?_
        refine NX.thenExit ?_
        refine NX.thenExit ?_
        refine NX.blockEq ?_
        refine NX.seq ?_
        refine CW.seq ?_
        refine CW.region ?_
        refine OW.move rfl rfl ?_
        refine OW.assign rfl rfl ?_
        refine OW.nil ?_
        refine NX.seq ?_
        refine CW.ret ?_
        exact NX.ret1 rfl rfl (⟨by rw [show refBetween was now = gs ++ ad.map addMsg by rw [hgs, had, hA0, hB0]; rfl]; exact (hr.mono msgR_ok (fun _ _ => trivial)).sl msgR_ok (fun _ _ => trivial) (by simp only [List.length_append, List.length_map]; omega), f02.trans fZ⟩)

end Go.Eng.Ds
