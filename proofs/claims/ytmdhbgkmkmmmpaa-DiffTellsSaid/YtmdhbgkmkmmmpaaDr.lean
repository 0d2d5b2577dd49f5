/-
  The reference's Last, stepped through.
  No condition.
-/
import Derived.Test.YtmdhbgkmkmmmpaaDq
import Derived.Test.YtmdhbgkmkmmmpaaLst
import Derived.Test.YtmdhbgkmkmmmpaaEngT
import Derived.Test.YtmdhbgkmkmmmpaaProg
import Derived.KernelRfl
namespace Go.Eng.Dr
open Go Go.Eng Go.Proofs
theorem MIX : Try.prog.follows .mixedOrders = true := by kernel_rfl

theorem ag36 : aggSz Try.prog 36 = some 25 := by kernel_rfl
theorem ap22 : apdIs Try.prog 22 = some (36, 25, 216) := by kernel_rfl
theorem cl46 : callable Try.prog 46 = true := by kernel_rfl
theorem el22 : elemIs Try.prog 22 = some (36, 25) := by kernel_rfl
theorem zr36 : zeroIs Try.prog 36 = some (.agg #[.int .i64 0, .int .u64 0, .int .u64 0, .int .u64 0, .int .u64 0, .int .u64 0, .int .u64 0, .int .u64 0, .int .u64 0, .int .u64 0, .int .u64 0, .int .u64 0, .int .u64 0, .int .u64 0, .int .u64 0, .int .u64 0, .int .u64 0, .int .u64 0, .int .u64 0, .int .u64 0, .int .u64 0, .int .u64 0, .int .u64 0, .slice none 0 0, .int .u64 0]) := by kernel_rfl

theorem last_does {l : List Rule} {va : Value} (w : World) (hx : rulesR (Bel w) w va l) (hs : l.length ≤ 100000000) : Does Try.prog 45 [va] w fun r w' => OwnSl 36 25 ruleR (Bel w) w' r (refLast l) ∧ Fr0 w w' ∧ ∀ j, r.ownBlock = some j → w.heap.size ≤ j := by
  obtain ⟨pa, ca, cs, rfl, hla, b, o, hp, hel⟩ := SlR.pick hx
  refine Does.enter Try.func45 rfl rfl ?_
  show CW _ _ _ _ 43 [] [(0, .slice pa l.length ca)] w
  refine CW.seq ?_
  refine CW.region ?_
  refine OW.assign rfl rfl ?_
  refine OW.nil ?_
  refine NX.seq ?_
  refine CW.seq ?_
  refine CW.region ?_
  refine OW.assign rfl rfl ?_
  refine OW.nil ?_
  refine NX.seq ?_
  refine CW.seq ?_
  refine CW.seq ?_
  refine CW.region ?_
  refine OW.assign rfl rfl ?_
  refine OW.nil ?_
  refine NX.seq ?_
  refine CW.block ?_
  refine CW.loop (α := Nat × Value) (fun (s : Nat × Value) => match s with | (i, vo) => [(0, .slice pa l.length ca), (3, vo), (4, .int .i64 ((i : Nat) : Int))]) (fun (s : Nat × Value) W => match s with | (i, vo) => i ≤ l.length ∧ (∃ out, OwnSl 36 25 ruleR (Bel w) W vo out ∧ out ++ refLast (l.drop i) = refLast l ∧ out.length ≤ i) ∧ Fr0 w W ∧ ∀ j, vo.ownBlock = some j → w.heap.size ≤ j) (fun (s : Nat × Value) => match s with | (i, vo) => l.length - i) ((0, .slice none 0 0)) (Sub.cons rfl (Sub.cons rfl (Sub.cons rfl (Sub.nil _)))) (⟨Nat.zero_le _, ⟨[], OwnSl.nil, rfl, Nat.le_refl _⟩, Fr.refl _ _, fun j h => by cases h⟩) ?_
  rintro ⟨i, vo⟩ W ⟨hi, ⟨out, ho, hout, hol⟩, f, hown⟩
  show CW _ _ _ _ _ _ [(0, .slice pa l.length ca), (3, vo), (4, .int .i64 ((i : Nat) : Int))] W
  refine CW.seq ?_
  refine CW.seq ?_
  refine CW.region ?_
  refine OW.move rfl rfl ?_
  refine OW.move rfl rfl ?_
  refine OW.len rfl el22 rfl ?_
  refine OW.lss rfl rfl rfl ?_
  refine OW.nil ?_
  refine NX.seq ?_
  refine CW.cond rfl (fun hlt => ?_) (fun hlt => ?_)
  · have hil : i < l.length := by omega
    obtain ⟨x, hx1, hx2⟩ := getL hil
    obtain ⟨sgx, hrx⟩ := hel i x hx2
    have hcx := ruleR_ok.len hrx
    have hdr : l.drop i = x :: l.drop (i + 1) := by rw [List.drop_eq_getElem_cons hil, ← hx1]
    refine CW.skip ?_
    refine NX.seq ?_
    refine CW.seq ?_
    refine CW.block ?_
    refine CW.seq ?_
    refine CW.region ?_
    refine OW.assign rfl rfl ?_
    refine OW.nil ?_
    refine NX.seq ?_
    refine CW.seq ?_
    refine CW.seq ?_
    refine CW.region ?_
    refine OW.move rfl rfl ?_
    refine OW.add rfl rfl rfl (by omega) ?_
    refine OW.assign rfl rfl ?_
    refine OW.nil ?_
    refine NX.seq ?_
    refine CW.block ?_
    refine CW.loop (α := Nat) (fun k => [(0, .slice pa l.length ca), (3, vo), (4, .int .i64 ((i : Nat) : Int)), (5, .bool (((l.drop (i + 1)).take (k - (i + 1))).any (fun y => decide (plOf x = plOf y)))), (6, .int .i64 ((k : Nat) : Int))]) (fun k U => i + 1 ≤ k ∧ k ≤ l.length ∧ Fr0 W U) (fun k => l.length - k) (i + 1) (Sub.cons rfl (Sub.cons rfl (Sub.cons rfl (Sub.cons (congrArg (fun b => some (Value.bool b)) (any_none _ _ _).symm) (Sub.cons rfl (Sub.nil _)))))) ⟨by omega, by omega, Fr.refl _ _⟩ ?_
    rintro k U ⟨hsk, hnk, g⟩
    refine CW.seq ?_
    refine CW.seq ?_
    refine CW.region ?_
    refine OW.move rfl rfl ?_
    refine OW.move rfl rfl ?_
    refine OW.len rfl el22 rfl ?_
    refine OW.lss rfl rfl rfl ?_
    refine OW.nil ?_
    refine NX.seq ?_
    refine CW.cond rfl (fun hltk => ?_) (fun hltk => ?_)
    · have hlk : k < l.length := by omega
      have hsnk := any_snoc l (fun y => decide (plOf x = plOf y)) (i + 1) k hsk hlk
      refine CW.skip ?_
      refine NX.seq ?_
      refine CW.seq ?_
      refine CW.block ?_
      refine CW.drawX [(0, false), (1, false), (2, false), (3, false), (4, false), (5, false), (6, false), (7, false), (8, false), (9, false), (10, true), (11, false), (12, false)] (fun z => Fr0 U z) MIX (by kernel_rfl) (fun _ h => h) ?_
      intro z1 hz1
      refine XW.val rfl rfl (fun zw hz => OW.move rfl rfl (OW.nil NX.calm)) ?_
      refine XW.val rfl rfl (fun zw hz => OW.move rfl rfl (OW.nil NX.calm)) ?_
      refine XW.waysB (s := 22) rfl (fun hB => ?_) (fun hB => ?_)
      · refine XW.gno rfl rfl rfl rfl ?_
        refine XW.gno rfl rfl rfl rfl ?_
        refine XW.gno rfl rfl rfl rfl ?_
        refine XW.gno rfl rfl rfl rfl ?_
        refine XW.gno rfl rfl rfl rfl ?_
        refine XW.gno rfl rfl rfl rfl ?_
        refine XW.gno rfl rfl rfl rfl ?_
        refine XW.gno rfl rfl rfl rfl ?_
        refine XW.gnoW rfl rfl rfl rfl ?_
        refine XW.val rfl rfl (fun zw hz => OW.pickT rfl rfl rfl (OW.nil NX.calm)) ?_
        refine XW.val rfl rfl (fun zw hz => OW.assign rfl rfl (OW.nil NX.calm)) ?_
        refine XW.nil ?_
        refine NX.blockN ?_
        refine NX.seq ?_
        refine CW.region ?_
        refine OW.move rfl rfl ?_
        refine OW.add rfl rfl rfl (by omega) ?_
        refine OW.assign rfl rfl ?_
        refine OW.nil ?_
        refine NX.slot (s := 5) rfl (congrArg Value.bool (show _ = (((l.drop (i + 1)).take (k + 1 - (i + 1))).any (fun y => decide (plOf x = plOf y))) from by rw [hsnk, hB]; rfl)) ?_
        exact NX.loop (k + 1) ((Sub.cons rfl (Sub.cons rfl (Sub.cons rfl (Sub.cons rfl (Sub.cons rfl (Sub.nil _))))))) (⟨by omega, by omega, g.trans hz1⟩) (by omega)
      · have gw := f.trans g
        obtain ⟨y, hy1, hy2⟩ := getL hlk
        obtain ⟨sgy, hry⟩ := hel k y hy2
        have hcy := ruleR_ok.len hry
        rw [← hy1] at hsnk
        have fk := gw.trans hz1
        refine XW.val rfl rfl (fun zw hz => OW.gyes rfl rfl (OW.move rfl rfl (OW.nil NX.calm))) ?_
        refine XW.val rfl rfl (fun zw hz => OW.gyes rfl rfl (OW.move rfl rfl (OW.nil NX.calm))) ?_
        refine XW.val rfl rfl (fun zw hz => OW.gyes rfl rfl (OW.indexAddr (b := b) (o := o) rfl el22 (by rw [← (hp (by omega))]; rfl) rfl (⟨by omega, by omega⟩) (OW.nil NX.calm))) ?_
        refine XW.val rfl rfl (fun zw hz => OW.gyes rfl rfl (OW.loadA rfl ag36 rfl ((sgx.frame gw id).frame hz id) (hcx) (OW.nil NX.calm))) ?_
        refine XW.val rfl rfl (fun zw hz => OW.gyes rfl rfl (OW.move rfl rfl (OW.nil NX.calm))) ?_
        refine XW.val rfl rfl (fun zw hz => OW.gyes rfl rfl (OW.move rfl rfl (OW.nil NX.calm))) ?_
        refine XW.val rfl rfl (fun zw hz => OW.gyes rfl rfl (OW.indexAddr (b := b) (o := o) rfl el22 (by rw [← (hp (by omega))]; rfl) rfl (⟨by omega, by omega⟩) (OW.nil NX.calm))) ?_
        refine XW.val rfl rfl (fun zw hz => OW.gyes rfl rfl (OW.loadA rfl ag36 rfl ((sgy.frame gw id).frame hz id) (hcy) (OW.nil NX.calm))) ?_
        refine XW.does ?_
        refine OW.gyes rfl rfl ?_
        refine OW.call rfl rfl cl46 (Dq.place_does _ (rf hrx ruleR_ok fk) (rf hry ruleR_ok fk)) ?_
        rintro _ U4 ⟨rfl, g4⟩
        refine OW.nil (NX.does (hz1.trans g4) ?_)
        refine XW.val rfl rfl (fun zw hz => OW.pickF rfl rfl rfl (OW.nil NX.calm)) ?_
        refine XW.val rfl rfl (fun zw hz => OW.assign rfl rfl (OW.nil NX.calm)) ?_
        refine XW.nil ?_
        refine NX.blockN ?_
        refine NX.seq ?_
        refine CW.region ?_
        refine OW.move rfl rfl ?_
        refine OW.add rfl rfl rfl (by omega) ?_
        refine OW.assign rfl rfl ?_
        refine OW.nil ?_
        refine NX.slot (s := 5) rfl (congrArg Value.bool (show _ = (((l.drop (i + 1)).take (k + 1 - (i + 1))).any (fun y => decide (plOf x = plOf y))) from by rw [hsnk, hB]; rfl)) ?_
        exact NX.loop (k + 1) ((Sub.cons rfl (Sub.cons rfl (Sub.cons rfl (Sub.cons rfl (Sub.cons rfl (Sub.nil _))))))) (⟨by omega, by omega, (g.trans hz1).trans g4⟩) (by omega)
    · refine CW.slot (s := 5) rfl (congrArg Value.bool (show _ = ((l.drop (i + 1)).any (fun y => decide (plOf x = plOf y))) from any_full l (fun y => decide (plOf x = plOf y)) (i + 1) k (by omega))) ?_
      have fU := f.trans g
      have gW := g
      have hrl : refLast (l.drop i) = if ((l.drop (i + 1)).any fun y => decide (plOf x = plOf y)) = true then refLast (l.drop (i + 1)) else x :: refLast (l.drop (i + 1)) := by rw [hdr]; rfl
      rcases hL : (l.drop (i + 1)).any fun y => decide (plOf x = plOf y)
      · refine CW.exit ?_
        refine NX.thenExit ?_
        refine NX.thenExit ?_
        refine NX.blockEq ?_
        refine NX.seq ?_
        refine CW.seq ?_
        refine CW.region ?_
        refine OW.move rfl rfl ?_
        refine OW.not rfl rfl ?_
        refine OW.nil ?_
        refine NX.seq ?_
        refine CW.condT rfl ?_
        refine CW.region ?_
        refine OW.move rfl rfl ?_
        refine OW.move rfl rfl ?_
        refine OW.move rfl rfl ?_
        refine OW.indexAddr (b := b) (o := o) rfl el22 (by rw [← (hp (by omega))]; rfl) rfl (⟨by omega, by omega⟩) ?_
        refine OW.loadA rfl ag36 rfl (sgx.frame fU id) (hcx) ?_
        refine OW.buildOne (c := cs i) rfl el22 zr36 rfl rfl rfl rfl hcx rfl ?_
        intro b7 w10 n10
        refine OW.appendOne (R := ruleR) (X := Bel w) (el := x) ruleR_ok rfl ap22 rfl rfl (ho.frame ruleR_ok (gW.trans n10.fr) (fun _ _ h => h) (fun _ _ h => h)) (Seg.ofNew n10) (rf hrx ruleR_ok (fU.trans n10.fr)) (by omega) (by omega) (fun k hk e => by have := hown k e; have : k < w.heap.size := hk; omega) ?_
        intro v8 w8 o8 f8 g8
        refine OW.assign rfl rfl ?_
        refine OW.nil ?_
        refine NX.blockN ?_
        refine NX.seq ?_
        refine CW.region ?_
        refine OW.move rfl rfl ?_
        refine OW.add rfl rfl rfl (by omega) ?_
        refine OW.assign rfl rfl ?_
        refine OW.nil ?_
        exact NX.loop (Lf := (fun (s : Nat × Value) => match s with | (i, vo) => [(0, .slice pa l.length ca), (3, vo), (4, .int .i64 ((i : Nat) : Int))])) (I := (fun (s : Nat × Value) W => match s with | (i, vo) => i ≤ l.length ∧ (∃ out, OwnSl 36 25 ruleR (Bel w) W vo out ∧ out ++ refLast (l.drop i) = refLast l ∧ out.length ≤ i) ∧ Fr0 w W ∧ ∀ j, vo.ownBlock = some j → w.heap.size ≤ j)) (m := (fun (s : Nat × Value) => match s with | (i, vo) => l.length - i)) (i := (i, vo)) (i + 1, v8) ((Sub.cons rfl (Sub.cons rfl (Sub.cons rfl (Sub.nil _))))) (⟨by omega, ⟨out ++ [x], o8, by rw [← hout, hrl, hL]; simp, by rw [List.length_append]; simp; omega⟩, (fU.trans n10.fr).trans' f8 (fun j hj c => by have := hown j c; omega), fun j hj => by
                  rcases g8 j hj with d | d
                  · exact hown j d
                  · have := (fU.trans n10.fr).size; omega⟩) (show l.length - (i + 1) < l.length - i from by omega)
      · refine CW.exit ?_
        refine NX.thenExit ?_
        refine NX.thenExit ?_
        refine NX.blockEq ?_
        refine NX.seq ?_
        refine CW.seq ?_
        refine CW.region ?_
        refine OW.move rfl rfl ?_
        refine OW.not rfl rfl ?_
        refine OW.nil ?_
        refine NX.seq ?_
        refine CW.condF rfl ?_
        refine CW.skip ?_
        refine NX.blockN ?_
        refine NX.seq ?_
        refine CW.region ?_
        refine OW.move rfl rfl ?_
        refine OW.add rfl rfl rfl (by omega) ?_
        refine OW.assign rfl rfl ?_
        refine OW.nil ?_
        exact NX.loop (Lf := (fun (s : Nat × Value) => match s with | (i, vo) => [(0, .slice pa l.length ca), (3, vo), (4, .int .i64 ((i : Nat) : Int))])) (I := (fun (s : Nat × Value) W => match s with | (i, vo) => i ≤ l.length ∧ (∃ out, OwnSl 36 25 ruleR (Bel w) W vo out ∧ out ++ refLast (l.drop i) = refLast l ∧ out.length ≤ i) ∧ Fr0 w W ∧ ∀ j, vo.ownBlock = some j → w.heap.size ≤ j)) (m := (fun (s : Nat × Value) => match s with | (i, vo) => l.length - i)) (i := (i, vo)) (i + 1, vo) ((Sub.cons rfl (Sub.cons rfl (Sub.cons rfl (Sub.nil _))))) (⟨by omega, ⟨out, ho.frame ruleR_ok gW (fun _ _ h => h) (fun _ _ h => h), by rw [← hout, hrl, hL]; simp, by omega⟩, fU, hown⟩) (show l.length - (i + 1) < l.length - i from by omega)
  · have hil : l.drop i = [] := by rw [show i = l.length by omega, List.drop_length]
    rw [hil, show refLast [] = [] from rfl, List.append_nil] at hout
    subst hout
    refine CW.exit ?_
    refine NX.thenExit ?_
    refine NX.thenExit ?_
    refine NX.blockEq ?_
    refine NX.seq ?_
    refine CW.seq ?_
    refine CW.region ?_
    refine OW.move rfl rfl ?_
    refine OW.assign rfl rfl ?_
    refine OW.nil ?_
    refine NX.seq ?_
    refine CW.ret ?_
    exact NX.ret1 rfl rfl (⟨ho, f, hown⟩)

end Go.Eng.Dr
