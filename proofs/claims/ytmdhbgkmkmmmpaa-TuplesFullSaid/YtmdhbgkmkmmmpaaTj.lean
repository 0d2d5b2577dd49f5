/-
  The reference's table of tuples, stepped through.
  No condition.
-/
import Derived.Test.YtmdhbgkmkmmmpaaRef9
import Derived.Test.YtmdhbgkmkmmmpaaEngU
import Derived.Test.YtmdhbgkmkmmmpaaProg
import Derived.KernelRfl
namespace Go.Eng.Tj
open Go Go.Eng Go.Proofs
theorem MIX : Try.prog.follows .mixedOrders = true := by kernel_rfl

theorem ag144 : aggSz Try.prog 144 = some 26 := by kernel_rfl
theorem ag31 : aggSz Try.prog 31 = some 11 := by kernel_rfl
theorem ag33 : aggSz Try.prog 33 = some 22 := by kernel_rfl
theorem ag36 : aggSz Try.prog 36 = some 25 := by kernel_rfl
theorem ap67 : apdIs Try.prog 67 = some (144, 26, 224) := by kernel_rfl
theorem cl72 : callable Try.prog 72 = true := by kernel_rfl
theorem cl77 : callable Try.prog 77 = true := by kernel_rfl
theorem ct3 : cellTy Try.prog 3 = true := by kernel_rfl
theorem ct67 : cellTy Try.prog 67 = true := by kernel_rfl
theorem eg31 : Try.prog.eqGuardType Try.prog.depth 31 = false := by kernel_rfl
theorem el67 : elemIs Try.prog 67 = some (144, 26) := by kernel_rfl
theorem fo144_0 : fieldOff Try.prog 144 0 = some 0 := by kernel_rfl
theorem fo144_1 : fieldOff Try.prog 144 1 = some 1 := by kernel_rfl
theorem fo33_1 : fieldOff Try.prog 33 1 = some 11 := by kernel_rfl
theorem fo36_0 : fieldOff Try.prog 36 0 = some 0 := by kernel_rfl
theorem fo36_1 : fieldOff Try.prog 36 1 = some 1 := by kernel_rfl
theorem fo69_0 : fieldOff Try.prog 69 0 = some 0 := by kernel_rfl
theorem fo69_1 : fieldOff Try.prog 69 1 = some 1 := by kernel_rfl
theorem pl144 : placesIs Try.prog 144 = some [(0, 1), (1, 25)] := by kernel_rfl
theorem sz3 : sizeIs Try.prog 3 = some 1 := by kernel_rfl
theorem sz67 : sizeIs Try.prog 67 = some 1 := by kernel_rfl
theorem zr144 : zeroIs Try.prog 144 = some (.agg #[.int .i64 0, .int .i64 0, .int .u64 0, .int .u64 0, .int .u64 0, .int .u64 0, .int .u64 0, .int .u64 0, .int .u64 0, .int .u64 0, .int .u64 0, .int .u64 0, .int .u64 0, .int .u64 0, .int .u64 0, .int .u64 0, .int .u64 0, .int .u64 0, .int .u64 0, .int .u64 0, .int .u64 0, .int .u64 0, .int .u64 0, .int .u64 0, .slice none 0 0, .int .u64 0]) := by kernel_rfl

theorem single {w w' : World} {a b : Asn} (r : Run w w' [a] [b]) : Moves w w' a b := Td.single r

theorem refAdd_does {R : RefSt} {ru : Rule} {X : Nat → Prop} {rc : List Value} (w : World) (h : Holds w [refA R]) (hlast : 0 ≤ R.last ∧ R.last < 4611686018427387904) (hru : ruleR X w rc ru) :
    Does Try.prog 32 [.pointer (some ⟨R.b, 0, none⟩), .agg rc.toArray] w fun v w' => (matOk ru.mat = false ∧ v = .tuple #[.int .i64 0, .int .i64 20] ∧ Fr0 w w') ∨ (matOk ru.mat = true ∧ 1024 ≤ R.l.length ∧ v = .tuple #[.int .i64 0, .int .i64 4] ∧ Fr0 w w') ∨ (matOk ru.mat = true ∧ R.l.length < 1024 ∧ v = .tuple #[.int .i64 (R.last + 1), .int .i64 0] ∧ ∃ R', R'.b = R.b ∧ R'.l = R.l ++ [(R.last + 1, Td.r0 ru)] ∧ R'.last = R.last + 1 ∧ Moves w w' (refA R) (refA R')) := by
  obtain ⟨cv, rfl, hcps, hwf⟩ := hru
  obtain ⟨b, vr, l, last⟩ := R
  simp only at hlast
  refine Does.enter Try.func32 rfl rfl ?_
  show CW _ _ _ _ 42 [] [(0, .pointer (some ⟨b, 0, none⟩)), (1, .agg (ruleCells ru.rank ru.mat cv ru.cookie).toArray)] w
  have r1 : Run w w [refA ⟨b, vr, l, last⟩] [pts b 69 (refCells vr last), ownA 144 26 entR entR_ok vr l] := (Run.start h).split
  refine CW.seq ?_
  refine CW.region ?_
  refine OW.boxA rfl rfl ?_
  intro br w1 n1
  have r2 := r1.newPts n1
  refine OW.assign rfl rfl ?_
  refine OW.assign rfl rfl ?_
  refine OW.nil ?_
  refine NX.seq ?_
  refine CW.seq ?_
  refine CW.seq ?_
  refine CW.region ?_
  refine OW.fieldAddr rfl fo36_1 rfl ?_
  refine OW.loadA rfl ag33 rfl ((r2.get 0 rfl : Bk _ _ _ _).segAt 1 ru.mat.cells (fun j v e => Dg.ruleCells_mat j v e)) (rfl) ?_
  refine OW.call rfl rfl cl72 (Ta.refCheck_does hwf.2.2.1 _) ?_
  rintro _ w2 ⟨rfl, f2⟩
  have r3 := r2.fr0 f2
  have f0 : Fr0 w w2 := n1.fr.trans f2
  rcases hok : matOk ru.mat
  · simp only [Bool.false_eq_true, if_false]
    refine OW.neq rfl rfl rfl ?_
    refine OW.nil ?_
    refine NX.seq ?_
    refine CW.cond rfl (fun hc => ?_) (fun hc => ?_)
    · refine CW.seq ?_
      refine CW.region ?_
      refine OW.assign rfl rfl ?_
      refine OW.assign rfl rfl ?_
      refine OW.nil ?_
      refine NX.seq ?_
      refine CW.ret ?_
      refine NX.thenRet ?_
      exact NX.ret2 rfl rfl rfl ((.inl ⟨trivial, rfl, f0⟩))
    · exact absurd (by decide) hc
  · simp only [if_true]
    refine OW.neq rfl rfl rfl ?_
    refine OW.nil ?_
    refine NX.seq ?_
    refine CW.cond rfl (fun hc => ?_) (fun hc => ?_)
    · exact absurd hc (by decide)
    · obtain ⟨pv, cw, hv, hcap⟩ := (show OwnSl 144 26 entR (fun _ => False) w2 vr l from (r3.get 2 rfl)).shape
      subst hv
      refine CW.skip ?_
      refine NX.seq ?_
      refine CW.seq ?_
      refine CW.seq ?_
      refine CW.region ?_
      refine OW.move rfl rfl ?_
      refine OW.nilCheck rfl rfl ?_
      refine OW.fieldAddr rfl fo69_0 rfl ?_
      refine OW.load1 rfl ct67 rfl ((r3.get 1 rfl : Bk _ _ _ _).cell (o := 0) rfl) ?_
      refine OW.len rfl el67 rfl ?_
      refine OW.geq rfl rfl rfl ?_
      refine OW.nil ?_
      refine NX.seq ?_
      refine CW.cond rfl (fun hfull => ?_) (fun hfull => ?_)
      · refine CW.seq ?_
        refine CW.region ?_
        refine OW.assign rfl rfl ?_
        refine OW.assign rfl rfl ?_
        refine OW.nil ?_
        refine NX.seq ?_
        refine CW.ret ?_
        refine NX.thenRet ?_
        exact NX.ret2 rfl rfl rfl ((.inr (.inl ⟨trivial, by show 1024 ≤ l.length; omega, rfl, f0⟩)))
      · refine CW.skip ?_
        refine NX.seq ?_
        refine CW.seq ?_
        refine CW.region ?_
        refine OW.move rfl rfl ?_
        refine OW.nilCheck rfl rfl ?_
        refine OW.fieldAddr rfl fo69_1 rfl ?_
        refine OW.load1 rfl ct3 rfl ((r3.get 1 rfl : Bk _ _ _ _).cell (o := 1) rfl) ?_
        refine OW.add rfl rfl rfl (by omega) ?_
        refine OW.nilCheck rfl rfl ?_
        refine OW.fieldAddr rfl fo69_1 rfl ?_
        refine OW.store rfl rfl sz3 ((r3.get 1 rfl : Bk _ _ _ _)) (Nat.le_of_ble_eq_true rfl) (fun x hx => by simp [Value.cells] at hx; subst hx; rfl) ?_
        intro w3 f3 s3 b3
        have r4 := r3.put 1 rfl (Moves.pts (cs' := refCells (.slice pv l.length cw) (last + 1)) f3 b3)
        have hne1 : ¬ (.slice pv l.length cw : Value).ownBlock = some b := fun c => r4.holds.apart (i := 2) (j := 1) rfl rfl (by decide) (k := b) (by simp [ownA, c]) (by simp [pts])
        have hne2 : ¬ (.slice pv l.length cw : Value).ownBlock = some br := fun c => r4.holds.apart (i := 2) (j := 0) rfl rfl (by decide) (k := br) (by simp [ownA, c]) (by simp [pts])
        refine OW.nil ?_
        refine NX.seq ?_
        refine CW.seq ?_
        refine CW.drawY [(0, false), (1, false), (2, false), (3, false), (4, false), (5, false), (6, false), (7, false), (8, false), (9, false), (10, false), (11, true), (12, true)] [13, 14, 15] (fun z => Fr (fun k => (.slice pv l.length cw : Value).ownBlock = some k) w3 z) MIX (by kernel_rfl) (fun _ h => h.any) ?_
        intro z1 hz1
        refine XW.val rfl rfl (fun zw hz => OW.move rfl rfl (OW.nil NX.calm)) ?_
        refine XW.val rfl rfl (fun zw hz => OW.move rfl rfl (OW.nil NX.calm)) ?_
        refine XW.val rfl rfl (fun zw hz => OW.nilCheck rfl rfl (OW.nil NX.calm)) ?_
        refine XW.val rfl rfl (fun zw hz => OW.fieldAddr rfl fo69_0 rfl (OW.nil NX.calm)) ?_
        refine XW.val rfl rfl (fun zw hz => OW.load1 rfl ct67 rfl (((r4.get 1 rfl : Bk _ _ _ _).frame hz hne1).cell (o := 0) rfl) (OW.nil NX.calm)) ?_
        refine XW.val rfl rfl (fun zw hz => OW.move rfl rfl (OW.nil NX.calm)) ?_
        refine XW.val rfl rfl (fun zw hz => OW.nilCheck rfl rfl (OW.nil NX.calm)) ?_
        refine XW.val rfl rfl (fun zw hz => OW.fieldAddr rfl fo69_1 rfl (OW.nil NX.calm)) ?_
        refine XW.val rfl rfl (fun zw hz => OW.load1 rfl ct3 rfl (((r4.get 1 rfl : Bk _ _ _ _).frame hz hne1).cell (o := 1) rfl) (OW.nil NX.calm)) ?_
        refine XW.val rfl rfl (fun zw hz => OW.loadA rfl ag36 rfl (((r4.get 0 rfl : Bk _ _ _ _).frame hz hne2).seg) (rfl) (OW.nil NX.calm)) ?_
        refine XW.val rfl rfl (fun zw hz => OW.build (z := [.int .i64 0, .int .i64 0, .int .u64 0, .int .u64 0, .int .u64 0, .int .u64 0, .int .u64 0, .int .u64 0, .int .u64 0, .int .u64 0, .int .u64 0, .int .u64 0, .int .u64 0, .int .u64 0, .int .u64 0, .int .u64 0, .int .u64 0, .int .u64 0, .int .u64 0, .int .u64 0, .int .u64 0, .int .u64 0, .int .u64 0, .int .u64 0, .slice none 0 0, .int .u64 0]) rfl pl144 zr144 rfl rfl (OW.nil NX.calm)) ?_
        refine XW.does ?_
        refine OW.buildOne (c := (.int .i64 (last + 1) :: ruleCells ru.rank ru.mat cv ru.cookie)) rfl el67 zr144 rfl rfl rfl rfl rfl rfl ?_
        intro b7 w10 n10
        have r5 := r4.fr0 hz1
        have r6 := r5.fr0 n10.fr
        have g10 : Fr0 w3 w10 := Fr0.trans hz1 n10.fr
        refine OW.nil (NX.does (g10.any) ?_)
        refine XW.does ?_
        refine OW.appendOne (R := entR) (X := fun _ => False) (el := (last + 1, Td.r0 ru)) entR_ok rfl ap67 rfl rfl (r6.get 2 rfl) (Seg.ofNew n10) ⟨cv, rfl, hcps.one, hwf⟩ (by omega) (by omega) (fun k hk => hk.elim) ?_
        intro v8 w11 o8 f8 g8
        have r7 := r6.put 2 rfl (Moves.own (hR := entR_ok) f8 o8 g8)
        refine OW.nil (NX.does (Fr.trans g10.any f8) ?_)
        refine XW.tail ?_
        refine OW.nilCheck rfl rfl ?_
        refine OW.fieldAddr rfl fo69_0 rfl ?_
        refine OW.store (v := v8) rfl rfl (by rw [o8.cells1]; exact sz67) ((r7.get 1 rfl : Bk _ _ _ _)) (by rw [o8.cells1]; exact Nat.le_of_ble_eq_true rfl) (fun x hx => by rw [o8.cells1] at hx; simp at hx; subst hx; exact o8.one) ?_
        intro w12 f12 s12 b12
        have b12' : Bk w12 b 69 (refCells v8 (last + 1)) := by
          rw [o8.cells1] at b12; exact b12
        have r8 := r7.put 1 rfl (Moves.pts f12 b12')
        refine OW.nil ?_
        refine NX.seq ?_
        refine CW.seq ?_
        refine CW.region ?_
        refine OW.move rfl rfl ?_
        refine OW.nilCheck rfl rfl ?_
        refine OW.fieldAddr rfl fo69_1 rfl ?_
        refine OW.load1 rfl ct3 rfl ((r8.get 1 rfl : Bk _ _ _ _).cell (o := 1) rfl) ?_
        have r95 : Run w w12 [refA ⟨b, .slice pv l.length cw, l, last⟩] (refPieces ⟨b, v8, l ++ [(last + 1, Td.r0 ru)], last + 1⟩ ++ []) := r8.drop
        refine OW.assign rfl rfl ?_
        refine OW.assign rfl rfl ?_
        refine OW.nil ?_
        refine NX.seq ?_
        refine CW.ret ?_
        exact NX.ret2 rfl rfl rfl ((.inr (.inr ⟨trivial, by show l.length < 1024; omega, rfl, ⟨b, v8, l ++ [(last + 1, Td.r0 ru)], last + 1⟩, rfl, rfl, rfl, single r95.join⟩)))

theorem refDrop_does {R : RefSt} {id : Int} (w : World) (h : Holds w [refA R]) (hlen : R.l.length ≤ 100000) :
    Does Try.prog 34 [.pointer (some ⟨R.b, 0, none⟩), .int .i64 id] w fun v w' => v = .bool (decide ((R.l.filter fun x => decide (x.1 ≠ id)).length < R.l.length)) ∧ ∃ R', R'.b = R.b ∧ R'.l = (R.l.filter fun x => decide (x.1 ≠ id)) ∧ R'.last = R.last ∧ Moves w w' (refA R) (refA R') := by
  obtain ⟨b, vr, l, last⟩ := R
  simp only at hlen
  have hkl : ∀ j, ((l.take j).filter fun x => decide (x.1 ≠ id)).length ≤ 100000 := fun j => Nat.le_trans (List.length_filter_le _ _) (by rw [List.length_take]; omega)
  have r1 : Run w w [refA ⟨b, vr, l, last⟩] [pts b 69 (refCells vr last), ownA 144 26 entR entR_ok vr l] := (Run.start h).split
  obtain ⟨pv, cw, hv, hcap⟩ := (show OwnSl 144 26 entR (fun _ => False) w vr l from r1.get 1 rfl).shape
  subst hv
  refine Does.enter Try.func34 rfl rfl ?_
  show CW _ _ _ _ 50 [] [(0, .pointer (some ⟨b, 0, none⟩)), (1, .int .i64 id)] w
  refine CW.seq ?_
  refine CW.region ?_
  refine OW.assign rfl rfl ?_
  refine OW.nil ?_
  refine NX.seq ?_
  refine CW.seq ?_
  refine CW.region ?_
  refine OW.assign rfl rfl ?_
  refine OW.nil ?_
  refine NX.seq ?_
  refine CW.seq ?_
  refine CW.seq ?_
  refine CW.region ?_
  refine OW.assign rfl rfl ?_
  refine OW.nil ?_
  refine NX.seq ?_
  refine CW.block ?_
  have r2 := r1.void (a := ownA 144 26 entR entR_ok (.slice none 0 0) []) (OwnSl.nil (X := fun _ => False)) rfl
  refine CW.loop (α := Nat × Value) (fun s : Nat × Value => [(0, .pointer (some ⟨b, 0, none⟩)), (1, .int .i64 id), (5, s.2), (6, .int .i64 ((s.1 : Nat) : Int))]) (fun (s : Nat × Value) U => s.1 ≤ l.length ∧ Run w U [refA ⟨b, .slice pv l.length cw, l, last⟩] [ownA 144 26 entR entR_ok s.2 ((l.take s.1).filter fun x => decide (x.1 ≠ id)), pts b 69 (refCells (.slice pv l.length cw) last), ownA 144 26 entR entR_ok (.slice pv l.length cw) l]) (fun s : Nat × Value => l.length - s.1) (0, .slice none 0 0) (Sub.cons rfl (Sub.cons rfl (Sub.cons rfl (Sub.cons rfl (Sub.nil _))))) ⟨Nat.zero_le _, by simpa using r2⟩ ?_
  rintro ⟨j, v5⟩ U ⟨hj, r⟩
  simp only at hj r
  refine CW.seq ?_
  refine CW.seq ?_
  refine CW.region ?_
  refine OW.move rfl rfl ?_
  refine OW.move rfl rfl ?_
  refine OW.nilCheck rfl rfl ?_
  refine OW.fieldAddr rfl fo69_0 rfl ?_
  refine OW.load1 rfl ct67 rfl ((r.get 1 rfl : Bk _ _ _ _).cell (o := 0) rfl) ?_
  refine OW.len rfl el67 rfl ?_
  refine OW.lss rfl rfl rfl ?_
  refine OW.nil ?_
  refine NX.seq ?_
  refine CW.cond rfl (fun hlt => ?_) (fun hlt => ?_)
  · have hjl : j < l.length := by omega
    have hoU : OwnSl 144 26 entR (fun _ => False) U (.slice pv l.length cw) l := (r.get 2 rfl)
    obtain ⟨bs, os, hps, hrs⟩ := hoU.rd.at' hjl
    subst hps
    obtain ⟨x, hx1, hx2⟩ := getL hjl
    obtain ⟨_, sgx, cvx, rfl, hcv, hwx⟩ := hrs j x hx2
    refine CW.skip ?_
    refine NX.seq ?_
    refine CW.seq ?_
    refine CW.block ?_
    refine CW.seq ?_
    refine CW.region ?_
    refine OW.move rfl rfl ?_
    refine OW.nilCheck rfl rfl ?_
    refine OW.fieldAddr rfl fo69_0 rfl ?_
    refine OW.load1 rfl ct67 rfl ((r.get 1 rfl : Bk _ _ _ _).cell (o := 0) rfl) ?_
    refine OW.move rfl rfl ?_
    refine OW.indexAddr rfl el67 rfl rfl (⟨by omega, by omega⟩) ?_
    refine OW.fieldAddr rfl fo144_0 rfl ?_
    refine OW.load1 rfl ct3 rfl (sgx.one 0 rfl) ?_
    refine OW.move rfl rfl ?_
    refine OW.neq rfl rfl rfl ?_
    refine OW.nil ?_
    refine NX.seq ?_
    refine CW.cond rfl (fun hne => ?_) (fun hne => ?_)
    · refine CW.region ?_
      refine OW.move rfl rfl ?_
      refine OW.move rfl rfl ?_
      refine OW.nilCheck rfl rfl ?_
      refine OW.fieldAddr rfl fo69_0 rfl ?_
      refine OW.load1 rfl ct67 rfl ((r.get 1 rfl : Bk _ _ _ _).cell (o := 0) rfl) ?_
      refine OW.move rfl rfl ?_
      refine OW.indexAddr rfl el67 rfl rfl (⟨by omega, by omega⟩) ?_
      refine OW.loadA rfl ag144 rfl (sgx) (rfl) ?_
      refine OW.buildOne (c := entCells x cvx) rfl el67 zr144 rfl rfl rfl rfl rfl rfl ?_
      intro b7 w10 n10
      have r11 := r.fr0 n10.fr
      refine OW.appendOne (R := entR) (X := fun _ => False) (el := x) entR_ok rfl ap67 rfl rfl (r11.get 0 rfl) (Seg.ofNew n10) ⟨cvx, rfl, hcv, hwx⟩ (by have := hkl j; omega) (by have := hkl j; omega) (fun k hk => hk.elim) ?_
      intro v8 w11 o8 f8 g8
      have ek : ((l.take (j + 1)).filter fun x => decide (x.1 ≠ id)) = ((l.take j).filter fun x => decide (x.1 ≠ id)) ++ [x] := by
        rw [List.take_succ_eq_append_getElem hjl, List.filter_append, ← hx1]
        congr 1
        simp [hne]
      rw [← ek] at o8
      have r12 := r11.put 0 rfl (Moves.own (hR := entR_ok) f8 o8 g8)
      refine OW.assign rfl rfl ?_
      refine OW.nil ?_
      refine NX.blockN ?_
      refine NX.seq ?_
      refine CW.region ?_
      refine OW.move rfl rfl ?_
      refine OW.add rfl rfl rfl (by omega) ?_
      refine OW.assign rfl rfl ?_
      refine OW.nil ?_
      exact NX.loop ((j + 1, v8)) ((Sub.cons rfl (Sub.cons rfl (Sub.cons rfl (Sub.cons rfl (Sub.nil _)))))) (⟨hjl, r12⟩) (by simp only; omega)
    · have ek : ((l.take (j + 1)).filter fun x => decide (x.1 ≠ id)) = ((l.take j).filter fun x => decide (x.1 ≠ id)) := by
        rw [List.take_succ_eq_append_getElem hjl, List.filter_append, ← hx1]
        have : x.1 = id := by omega
        simp [this]
      refine CW.skip ?_
      refine NX.blockN ?_
      refine NX.seq ?_
      refine CW.region ?_
      refine OW.move rfl rfl ?_
      refine OW.add rfl rfl rfl (by omega) ?_
      refine OW.assign rfl rfl ?_
      refine OW.nil ?_
      exact NX.loop ((j + 1, v5)) ((Sub.cons rfl (Sub.cons rfl (Sub.cons rfl (Sub.cons rfl (Sub.nil _)))))) (⟨hjl, by simp only; rw [ek]; exact r⟩) (by simp only; omega)
  · have hjl : j = l.length := by omega
    subst hjl
    rw [List.take_length] at r
    obtain ⟨l', hl'⟩ : ∃ l', l' = l.filter fun x => decide (x.1 ≠ id) := ⟨_, rfl⟩
    rw [← hl'] at r
    obtain ⟨p5, c5, hv5, hc5⟩ := (show OwnSl 144 26 entR (fun _ => False) U v5 l' from (r.get 0 rfl)).shape
    subst hv5
    refine CW.exit ?_
    refine NX.thenExit ?_
    refine NX.thenExit ?_
    refine NX.blockEq ?_
    refine NX.seq ?_
    refine CW.seq ?_
    refine CW.region ?_
    refine OW.move rfl rfl ?_
    refine OW.nilCheck rfl rfl ?_
    refine OW.fieldAddr rfl fo69_0 rfl ?_
    refine OW.load1 rfl ct67 rfl ((r.get 1 rfl : Bk _ _ _ _).cell (o := 0) rfl) ?_
    refine OW.len rfl el67 rfl ?_
    refine OW.assign rfl rfl ?_
    refine OW.nil ?_
    refine NX.seq ?_
    refine CW.seq ?_
    refine CW.region ?_
    refine OW.move rfl rfl ?_
    refine OW.move rfl rfl ?_
    refine OW.nilCheck rfl rfl ?_
    refine OW.fieldAddr rfl fo69_0 rfl ?_
    refine OW.store rfl rfl sz67 ((r.get 1 rfl : Bk _ _ _ _)) (Nat.le_of_ble_eq_true rfl) (fun x hx => by simp [Value.cells] at hx; subst hx; rfl) ?_
    intro w3 f3 s3 b3
    have r11 := r.put 1 rfl (Moves.pts (cs' := refCells (.slice p5 l'.length c5) last) f3 b3)
    have r12 := r11.front 2 rfl
    have r13 := r12.drop
    have r14 := r13.front 1 rfl
    have r95 : Run w w3 [refA ⟨b, .slice pv l.length cw, l, last⟩] (refPieces ⟨b, .slice p5 l'.length c5, l', last⟩ ++ []) := r14
    refine OW.nil ?_
    refine NX.seq ?_
    refine CW.seq ?_
    refine CW.region ?_
    refine OW.move rfl rfl ?_
    refine OW.len rfl el67 rfl ?_
    refine OW.move rfl rfl ?_
    refine OW.lss rfl rfl rfl ?_
    refine OW.assign rfl rfl ?_
    refine OW.nil ?_
    refine NX.seq ?_
    refine CW.ret ?_
    exact NX.ret1 rfl rfl (⟨by show _ = Value.bool (decide ((l.filter fun x => decide (x.1 ≠ id)).length < l.length)); rw [← hl']; exact congrArg Value.bool (decide_eq_decide.2 (by omega)), ⟨b, .slice p5 l'.length c5, l', last⟩, rfl, hl', rfl, single r95.join⟩)

theorem refFind_does {R : RefSt} {hd : Hdr} (w : World) (hh : hd.wf) (h : Holds w [refA R]) (hlen : R.l.length ≤ 100000) (hids : R.l.Pairwise fun a b => a.1 < b.1) (hpos : ∀ x ∈ R.l, 0 < x.1) :
    Does Try.prog 35 [.pointer (some ⟨R.b, 0, none⟩), .agg (hd.cells).toArray] w fun v w' => (∃ b, Top R.l hd (fun _ => True) b ∧ v = .tuple #[.int .i64 b.id, .bool (decide (b.id > 0))]) ∧ Fr0 w w' := by
  obtain ⟨b, vr, l, last⟩ := R
  simp only at hlen hids hpos
  have r1 : Run w w [refA ⟨b, vr, l, last⟩] [pts b 69 (refCells vr last), ownA 144 26 entR entR_ok vr l] := (Run.start h).split
  obtain ⟨pv, cw, hv, hcap⟩ := (show OwnSl 144 26 entR (fun _ => False) w vr l from r1.get 1 rfl).shape
  subst hv
  have hbt : Bk w b 69 (refCells (.slice pv l.length cw) last) := r1.get 0 rfl
  have hoU : OwnSl 144 26 entR (fun _ => False) w (.slice pv l.length cw) l := r1.get 1 rfl
  have hrd := hoU.rd
  have id0 : ¬ False := fun c => c
  refine Does.enter Try.func35 rfl rfl ?_
  show CW _ _ _ _ 64 [] [(0, .pointer (some ⟨b, 0, none⟩)), (1, .agg (hd.cells).toArray)] w
  refine CW.seq ?_
  refine CW.region ?_
  refine OW.boxA rfl rfl ?_
  intro bh w1 n1
  refine OW.assign rfl rfl ?_
  refine OW.assign rfl rfl ?_
  refine OW.nil ?_
  refine NX.seq ?_
  refine CW.seq ?_
  refine CW.region ?_
  refine OW.assign rfl rfl ?_
  refine OW.nil ?_
  refine NX.seq ?_
  refine CW.seq ?_
  refine CW.seq ?_
  refine CW.region ?_
  refine OW.assign rfl rfl ?_
  refine OW.nil ?_
  refine NX.seq ?_
  refine CW.block ?_
  refine CW.loop (α := Nat × Int) (fun s : Nat × Int => [(0, .pointer (some ⟨b, 0, none⟩)), (3, .pointer (some ⟨bh, 0, none⟩)), (6, .int .i64 s.2), (7, .int .i64 ((s.1 : Nat) : Int))]) (fun (s : Nat × Int) U => s.1 ≤ l.length ∧ Fr0 w1 U ∧ BestAt l hd s.1 s.2) (fun s : Nat × Int => l.length - s.1) (0, -1) (Sub.cons rfl (Sub.cons rfl (Sub.cons rfl (Sub.cons rfl (Sub.nil _))))) ⟨Nat.zero_le _, Fr.refl _ _, BestAt.start⟩ ?_
  rintro ⟨j, bi⟩ U ⟨hj, fU, hbest⟩
  simp only at hj fU hbest
  have gU : Fr0 w U := n1.fr.trans fU
  refine CW.seq ?_
  refine CW.seq ?_
  refine CW.region ?_
  refine OW.move rfl rfl ?_
  refine OW.move rfl rfl ?_
  refine OW.nilCheck rfl rfl ?_
  refine OW.fieldAddr rfl fo69_0 rfl ?_
  refine OW.load1 rfl ct67 rfl ((hbt.frame gU id0).cell (o := 0) rfl) ?_
  refine OW.len rfl el67 rfl ?_
  refine OW.lss rfl rfl rfl ?_
  refine OW.nil ?_
  refine NX.seq ?_
  refine CW.cond rfl (fun hlt => ?_) (fun hlt => ?_)
  · have hjl : j < l.length := by omega
    obtain ⟨bs, os, hps, hrs⟩ := hrd.at' hjl
    subst hps
    obtain ⟨x, hx1, hx2⟩ := getL hjl
    obtain ⟨_, sgx, cvx, rfl, hcv, hwx⟩ := hrs j x hx2
    refine CW.skip ?_
    refine NX.seq ?_
    refine CW.seq ?_
    refine CW.block ?_
    refine CW.seq ?_
    refine CW.drawY [(0, false), (1, false), (2, false), (3, false), (4, false), (5, false), (6, false), (7, false), (8, false), (9, false), (10, true), (11, false), (12, false), (13, false), (14, false), (15, false), (16, false), (17, false), (18, false), (19, false), (20, false), (21, false), (22, false), (23, false), (24, false), (25, false), (26, false), (27, false), (28, false), (29, false), (30, false), (31, false), (32, false)] [33, 34, 35] (fun z => Fr0 U z) MIX (by kernel_rfl) (fun _ h => h) ?_
    intro z1 hz1
    refine XW.val rfl rfl (fun zw hz => OW.move rfl rfl (OW.nil NX.calm)) ?_
    refine XW.val rfl rfl (fun zw hz => OW.nilCheck rfl rfl (OW.nil NX.calm)) ?_
    refine XW.val rfl rfl (fun zw hz => OW.fieldAddr rfl fo69_0 rfl (OW.nil NX.calm)) ?_
    refine XW.val rfl rfl (fun zw hz => OW.load1 rfl ct67 rfl (((hbt.frame gU id0).frame hz id0).cell (o := 0) rfl) (OW.nil NX.calm)) ?_
    refine XW.val rfl rfl (fun zw hz => OW.move rfl rfl (OW.nil NX.calm)) ?_
    refine XW.val rfl rfl (fun zw hz => OW.indexAddr rfl el67 rfl rfl (⟨by omega, by omega⟩) (OW.nil NX.calm)) ?_
    refine XW.val rfl rfl (fun zw hz => OW.fieldAddr rfl fo144_1 rfl (OW.nil NX.calm)) ?_
    refine XW.val rfl rfl (fun zw hz => OW.fieldAddr rfl fo36_1 rfl (OW.nil NX.calm)) ?_
    refine XW.val rfl rfl (fun zw hz => OW.loadA rfl ag33 rfl (((sgx.frame gU id0).frame hz id0).sub (1 + 1) (fun j v e => ent_mat j v e)) (rfl) (OW.nil NX.calm)) ?_
    refine XW.val rfl rfl (fun zw hz => OW.loadA rfl ag31 rfl (((n1.bk.frame fU id0).frame hz id0).seg) (rfl) (OW.nil NX.calm)) ?_
    refine XW.does ?_
    refine OW.call rfl rfl cl77 (Ta.refHits_does hwx.2.2.1 hh _) ?_
    rintro _ w5 ⟨rfl, f5⟩
    refine OW.nil (NX.does (hz1.trans f5) ?_)
    refine XW.val rfl rfl (fun zw hz => OW.move rfl rfl (OW.nil NX.calm)) ?_
    refine XW.waysB (s := 28) rfl (fun hhit => ?_) (fun hhit => ?_)
    · refine XW.val rfl rfl (fun zw hz => OW.gyes rfl rfl (OW.move rfl rfl (OW.nil NX.calm))) ?_
      refine XW.val rfl rfl (fun zw hz => OW.gyes rfl rfl (OW.lss rfl rfl rfl (OW.nil NX.calm))) ?_
      refine XW.val rfl rfl (fun zw hz => OW.gyes rfl rfl (OW.move rfl rfl (OW.nil NX.calm))) ?_
      refine XW.ways (s := 31) rfl (fun hneg => ?_) (fun hneg => ?_)
      · refine XW.gno rfl rfl rfl rfl ?_
        refine XW.gno rfl rfl rfl rfl ?_
        refine XW.gno rfl rfl rfl rfl ?_
        refine XW.gno rfl rfl rfl rfl ?_
        refine XW.gno rfl rfl rfl rfl ?_
        refine XW.gno rfl rfl rfl rfl ?_
        refine XW.gno rfl rfl rfl rfl ?_
        refine XW.gno rfl rfl rfl rfl ?_
        refine XW.gno rfl rfl rfl rfl ?_
        refine XW.gno rfl rfl rfl rfl ?_
        refine XW.gno rfl rfl rfl rfl ?_
        refine XW.gno rfl rfl rfl rfl ?_
        refine XW.gno rfl rfl rfl rfl ?_
        refine XW.gno rfl rfl rfl rfl ?_
        refine XW.gno rfl rfl rfl rfl ?_
        refine XW.gno rfl rfl rfl rfl ?_
        refine XW.gno rfl rfl rfl rfl ?_
        refine XW.gno rfl rfl rfl rfl ?_
        refine XW.tail ?_
        refine OW.gnoD rfl rfl rfl rfl ?_
        refine OW.gyes rfl rfl ?_
        refine OW.pickT rfl rfl rfl ?_
        refine OW.pickT rfl rfl rfl ?_
        refine OW.nil ?_
        refine NX.seq ?_
        refine CW.condT rfl ?_
        refine CW.region ?_
        refine OW.move rfl rfl ?_
        refine OW.assign rfl rfl ?_
        refine OW.nil ?_
        refine NX.blockN ?_
        refine NX.seq ?_
        refine CW.region ?_
        refine OW.move rfl rfl ?_
        refine OW.add rfl rfl rfl (by omega) ?_
        refine OW.assign rfl rfl ?_
        refine OW.nil ?_
        exact NX.loop ((j + 1, ((j : Nat) : Int))) ((Sub.cons rfl (Sub.cons rfl (Sub.cons rfl (Sub.cons rfl (Sub.nil _)))))) (⟨hjl, fU.trans (hz1.trans f5), hbest.first hneg hjl (by rw [← hx1]; exact hhit)⟩) (by simp only; omega)
      · obtain ⟨m, hml, hmj, rfl, hmh, hma⟩ := hbest.at hneg
        obtain ⟨y, hy1, hy2⟩ := getL hml
        obtain ⟨_, sgy, cvy, rfl, _, _⟩ := hrs m y hy2
        refine XW.val rfl rfl (fun zw hz => OW.gyes rfl rfl (OW.move rfl rfl (OW.nil NX.calm))) ?_
        refine XW.val rfl rfl (fun zw hz => OW.gyes rfl rfl (OW.nilCheck rfl rfl (OW.nil NX.calm))) ?_
        refine XW.val rfl rfl (fun zw hz => OW.gyes rfl rfl (OW.fieldAddr rfl fo69_0 rfl (OW.nil NX.calm))) ?_
        refine XW.val rfl rfl (fun zw hz => OW.gyes rfl rfl (OW.load1 rfl ct67 rfl (((hbt.frame gU id0).frame hz id0).cell (o := 0) rfl) (OW.nil NX.calm))) ?_
        refine XW.val rfl rfl (fun zw hz => OW.gyes rfl rfl (OW.move rfl rfl (OW.nil NX.calm))) ?_
        refine XW.val rfl rfl (fun zw hz => OW.gyes rfl rfl (OW.indexAddr rfl el67 rfl rfl (⟨by omega, by omega⟩) (OW.nil NX.calm))) ?_
        refine XW.val rfl rfl (fun zw hz => OW.gyes rfl rfl (OW.fieldAddr rfl fo144_1 rfl (OW.nil NX.calm))) ?_
        refine XW.val rfl rfl (fun zw hz => OW.gyes rfl rfl (OW.fieldAddr rfl fo36_0 rfl (OW.nil NX.calm))) ?_
        refine XW.val rfl rfl (fun zw hz => OW.gyes rfl rfl (OW.load1 rfl ct3 rfl (((sgx.frame gU id0).frame hz id0).one 1 rfl) (OW.nil NX.calm))) ?_
        refine XW.val rfl rfl (fun zw hz => OW.gyes rfl rfl (OW.move rfl rfl (OW.nil NX.calm))) ?_
        refine XW.val rfl rfl (fun zw hz => OW.gyes rfl rfl (OW.nilCheck rfl rfl (OW.nil NX.calm))) ?_
        refine XW.val rfl rfl (fun zw hz => OW.gyes rfl rfl (OW.fieldAddr rfl fo69_0 rfl (OW.nil NX.calm))) ?_
        refine XW.val rfl rfl (fun zw hz => OW.gyes rfl rfl (OW.load1 rfl ct67 rfl (((hbt.frame gU id0).frame hz id0).cell (o := 0) rfl) (OW.nil NX.calm))) ?_
        refine XW.val rfl rfl (fun zw hz => OW.gyes rfl rfl (OW.move rfl rfl (OW.nil NX.calm))) ?_
        refine XW.val rfl rfl (fun zw hz => OW.gyes rfl rfl (OW.indexAddr rfl el67 rfl rfl (⟨by omega, by omega⟩) (OW.nil NX.calm))) ?_
        refine XW.val rfl rfl (fun zw hz => OW.gyes rfl rfl (OW.fieldAddr rfl fo144_1 rfl (OW.nil NX.calm))) ?_
        refine XW.val rfl rfl (fun zw hz => OW.gyes rfl rfl (OW.fieldAddr rfl fo36_0 rfl (OW.nil NX.calm))) ?_
        refine XW.val rfl rfl (fun zw hz => OW.gyes rfl rfl (OW.load1 rfl ct3 rfl (((sgy.frame gU id0).frame hz id0).one 1 rfl) (OW.nil NX.calm))) ?_
        refine XW.tail ?_
        refine OW.gyes rfl rfl ?_
        refine OW.gtr rfl rfl rfl ?_
        refine OW.gyes rfl rfl ?_
        refine OW.pickF rfl rfl rfl ?_
        refine OW.pickT rfl rfl rfl ?_
        refine OW.nil ?_
        refine NX.seq ?_
        refine CW.cond rfl (fun hgt => ?_) (fun hgt => ?_)
        · refine CW.region ?_
          refine OW.move rfl rfl ?_
          refine OW.assign rfl rfl ?_
          refine OW.nil ?_
          refine NX.blockN ?_
          refine NX.seq ?_
          refine CW.region ?_
          refine OW.move rfl rfl ?_
          refine OW.add rfl rfl rfl (by omega) ?_
          refine OW.assign rfl rfl ?_
          refine OW.nil ?_
          exact NX.loop ((j + 1, ((j : Nat) : Int))) ((Sub.cons rfl (Sub.cons rfl (Sub.cons rfl (Sub.cons rfl (Sub.nil _)))))) (⟨hjl, fU.trans (hz1.trans f5), best_more hma hjl (by rw [← hx1]; exact hhit) (by rw [← hx1, ← hy1]; exact hgt)⟩) (by simp only; omega)
        · refine CW.skip ?_
          refine NX.blockN ?_
          refine NX.seq ?_
          refine CW.region ?_
          refine OW.move rfl rfl ?_
          refine OW.add rfl rfl rfl (by omega) ?_
          refine OW.assign rfl rfl ?_
          refine OW.nil ?_
          exact NX.loop ((j + 1, ((m : Nat) : Int))) ((Sub.cons rfl (Sub.cons rfl (Sub.cons rfl (Sub.cons rfl (Sub.nil _)))))) (⟨hjl, fU.trans (hz1.trans f5), best_same hmj hmh hma hids hjl (by rw [← hx1, ← hy1]; exact hgt)⟩) (by simp only; omega)
    · refine XW.gno rfl rfl rfl rfl ?_
      refine XW.gno rfl rfl rfl rfl ?_
      refine XW.gno rfl rfl rfl rfl ?_
      refine XW.gnoU rfl rfl rfl ?_
      refine XW.gnoU rfl rfl rfl ?_
      refine XW.gnoU rfl rfl rfl ?_
      refine XW.gnoU rfl rfl rfl ?_
      refine XW.gnoU rfl rfl rfl ?_
      refine XW.gnoU rfl rfl rfl ?_
      refine XW.gnoU rfl rfl rfl ?_
      refine XW.gnoU rfl rfl rfl ?_
      refine XW.gnoU rfl rfl rfl ?_
      refine XW.gnoU rfl rfl rfl ?_
      refine XW.gnoU rfl rfl rfl ?_
      refine XW.gnoU rfl rfl rfl ?_
      refine XW.gnoU rfl rfl rfl ?_
      refine XW.gnoU rfl rfl rfl ?_
      refine XW.gnoU rfl rfl rfl ?_
      refine XW.gnoU rfl rfl rfl ?_
      refine XW.gnoU rfl rfl rfl ?_
      refine XW.gnoU rfl rfl rfl ?_
      refine XW.tail ?_
      refine OW.gnoU rfl rfl rfl ?_
      refine OW.gnoD rfl rfl rfl rfl ?_
      refine OW.pickF rfl rfl rfl ?_
      refine OW.nil ?_
      refine NX.seq ?_
      refine CW.condF rfl ?_
      refine CW.skip ?_
      refine NX.blockN ?_
      refine NX.seq ?_
      refine CW.region ?_
      refine OW.move rfl rfl ?_
      refine OW.add rfl rfl rfl (by omega) ?_
      refine OW.assign rfl rfl ?_
      refine OW.nil ?_
      exact NX.loop ((j + 1, bi)) ((Sub.cons rfl (Sub.cons rfl (Sub.cons rfl (Sub.cons rfl (Sub.nil _)))))) (⟨hjl, fU.trans (hz1.trans f5), hbest.no hjl (by rw [← hx1]; exact hhit)⟩) (by simp only; omega)
  · have hjl : j = l.length := by omega
    subst hjl
    obtain ⟨t1, t2⟩ := hbest.top hpos
    refine CW.exit ?_
    refine NX.thenExit ?_
    refine NX.thenExit ?_
    refine NX.blockEq ?_
    refine NX.seq ?_
    refine CW.seq ?_
    refine CW.seq ?_
    refine CW.region ?_
    refine OW.move rfl rfl ?_
    refine OW.lss rfl rfl rfl ?_
    refine OW.nil ?_
    refine NX.seq ?_
    refine CW.cond rfl (fun hneg => ?_) (fun hneg => ?_)
    · refine CW.seq ?_
      refine CW.region ?_
      refine OW.assign rfl rfl ?_
      refine OW.assign rfl rfl ?_
      refine OW.nil ?_
      refine NX.seq ?_
      refine CW.ret ?_
      refine NX.thenRet ?_
      exact NX.ret2 rfl rfl rfl (⟨⟨⟨0, 0⟩, t1 hneg, rfl⟩, gU⟩)
    · obtain ⟨m, hml, hmj, rfl, hmh, hma⟩ := hbest.at hneg
      obtain ⟨bs, os, hps, hrs⟩ := hrd.at' hml
      subst hps
      obtain ⟨y, hy1, hy2⟩ := getL hml
      obtain ⟨_, sgy, cvy, rfl, _, _⟩ := hrs m y hy2
      refine CW.skip ?_
      refine NX.seq ?_
      refine CW.seq ?_
      refine CW.region ?_
      refine OW.move rfl rfl ?_
      refine OW.nilCheck rfl rfl ?_
      refine OW.fieldAddr rfl fo69_0 rfl ?_
      refine OW.load1 rfl ct67 rfl ((hbt.frame gU id0).cell (o := 0) rfl) ?_
      refine OW.move rfl rfl ?_
      refine OW.indexAddr rfl el67 rfl rfl (⟨by omega, by omega⟩) ?_
      refine OW.fieldAddr rfl fo144_0 rfl ?_
      refine OW.load1 rfl ct3 rfl ((sgy.frame gU id0).one 0 rfl) ?_
      refine OW.assign rfl rfl ?_
      refine OW.assign rfl rfl ?_
      refine OW.nil ?_
      refine NX.seq ?_
      refine CW.ret ?_
      exact NX.ret2 rfl rfl rfl (⟨⟨_, t2 m hml rfl, by rw [decide_eq_true (hpos _ (List.getElem_mem hml)), hy1]⟩, gU⟩)

theorem flag_next {m y : Hdr} {l : List Hdr} (h : m ∉ l) : decide (y.lits ≠ m.lits) = decide (m ∉ l ++ [y]) := by
  refine decide_eq_decide.2 ?_
  rw [List.mem_append, List.mem_singleton]
  constructor
  · rintro c (d | d)
    · exact h d
    · exact c (by rw [d])
  · intro c d
    exact c (.inr (Hdr.lits_inj d).symm)
theorem flag_stay {m y : Hdr} {l : List Hdr} (h : ¬ m ∉ l) : false = decide (m ∉ l ++ [y]) := by
  symm
  refine decide_eq_false fun c => h fun d => c (List.mem_append_left _ d)

theorem refRows_does {R : RefSt} (w : World) (h : Holds w [refA R]) (hlen : R.l.length ≤ 100000) :
    Does Try.prog 37 [.pointer (some ⟨R.b, 0, none⟩)] w fun v w' => v = .int .i64 (((distM (R.l.map fun x => x.2.mat.mask) R.l.length).length : Nat) : Int) ∧ Fr0 w w' := by
  obtain ⟨b, vr, l, last⟩ := R
  simp only at hlen
  have r1 : Run w w [refA ⟨b, vr, l, last⟩] [pts b 69 (refCells vr last), ownA 144 26 entR entR_ok vr l] := (Run.start h).split
  obtain ⟨pv, cw, hv, hcap⟩ := (show OwnSl 144 26 entR (fun _ => False) w vr l from r1.get 1 rfl).shape
  subst hv
  have hbt : Bk w b 69 (refCells (.slice pv l.length cw) last) := r1.get 0 rfl
  have hoU : OwnSl 144 26 entR (fun _ => False) w (.slice pv l.length cw) l := r1.get 1 rfl
  have hrd := hoU.rd
  have id0 : ¬ False := fun c => c
  obtain ⟨ms, hms⟩ : ∃ ms, ms = l.map fun x => x.2.mat.mask := ⟨_, rfl⟩
  have hml : ms.length = l.length := by rw [hms]; simp
  refine Does.enter Try.func37 rfl rfl ?_
  show CW _ _ _ _ 49 [] [(0, .pointer (some ⟨b, 0, none⟩))] w
  refine CW.seq ?_
  refine CW.region ?_
  refine OW.assign rfl rfl ?_
  refine OW.nil ?_
  refine NX.seq ?_
  refine CW.seq ?_
  refine CW.region ?_
  refine OW.assign rfl rfl ?_
  refine OW.nil ?_
  refine NX.seq ?_
  refine CW.seq ?_
  refine CW.seq ?_
  refine CW.region ?_
  refine OW.assign rfl rfl ?_
  refine OW.nil ?_
  refine NX.seq ?_
  refine CW.block ?_
  refine CW.loop (α := Nat) (fun i => [(0, .pointer (some ⟨b, 0, none⟩)), (3, .int .i64 (((distM ms i).length : Nat) : Int)), (4, .int .i64 ((i : Nat) : Int))]) (fun i U => i ≤ l.length ∧ Fr0 w U) (fun i => l.length - i) 0 (Sub.cons rfl (Sub.cons rfl (Sub.cons rfl (Sub.nil _)))) ⟨Nat.zero_le _, Fr.refl _ _⟩ ?_
  rintro i U ⟨hi, gU⟩
  refine CW.seq ?_
  refine CW.seq ?_
  refine CW.region ?_
  refine OW.move rfl rfl ?_
  refine OW.move rfl rfl ?_
  refine OW.nilCheck rfl rfl ?_
  refine OW.fieldAddr rfl fo69_0 rfl ?_
  refine OW.load1 rfl ct67 rfl ((hbt.frame gU id0).cell (o := 0) rfl) ?_
  refine OW.len rfl el67 rfl ?_
  refine OW.lss rfl rfl rfl ?_
  refine OW.nil ?_
  refine NX.seq ?_
  refine CW.cond rfl (fun hlt => ?_) (fun hlt => ?_)
  · have hil : i < l.length := by omega
    obtain ⟨bs, os, hps, hrs⟩ := hrd.at' hil
    subst hps
    obtain ⟨x, hx1, hx2⟩ := getL hil
    obtain ⟨_, sgx, cvx, rfl, hcv, hwx⟩ := hrs i x hx2
    have hdl : (distM ms i).length ≤ 100000 := by
      obtain ⟨h1, h2⟩ := distM_spec ms i (by omega)
      have := len_of_sub h1 fun m hm => (h2 m).1 hm
      rw [List.length_take] at this; omega
    refine CW.skip ?_
    refine NX.seq ?_
    refine CW.seq ?_
    refine CW.block ?_
    refine CW.seq ?_
    refine CW.region ?_
    refine OW.assign rfl rfl ?_
    refine OW.nil ?_
    refine NX.seq ?_
    refine CW.seq ?_
    refine CW.seq ?_
    refine CW.region ?_
    refine OW.assign rfl rfl ?_
    refine OW.nil ?_
    refine NX.seq ?_
    refine CW.block ?_
    refine CW.loop (α := Nat) (fun j => [(0, .pointer (some ⟨b, 0, none⟩)), (3, .int .i64 (((distM ms i).length : Nat) : Int)), (4, .int .i64 ((i : Nat) : Int)), (5, .bool (decide (x.2.mat.mask ∉ ms.take j))), (6, .int .i64 ((j : Nat) : Int))]) (fun j V => j ≤ i ∧ Fr0 w V) (fun j => i - j) 0 (Sub.cons rfl (Sub.cons rfl (Sub.cons rfl (Sub.cons (by simp; rfl) (Sub.cons rfl (Sub.nil _)))))) ⟨Nat.zero_le _, gU⟩ ?_
    rintro j V ⟨hj, gV⟩
    refine CW.seq ?_
    refine CW.seq ?_
    refine CW.region ?_
    refine OW.move rfl rfl ?_
    refine OW.move rfl rfl ?_
    refine OW.lss rfl rfl rfl ?_
    refine OW.nil ?_
    refine NX.seq ?_
    refine CW.cond rfl (fun hlt2 => ?_) (fun hlt2 => ?_)
    · have hjl : j < l.length := by omega
      obtain ⟨y, hy1, hy2⟩ := getL hjl
      obtain ⟨_, sgy, cvy, rfl, _, hwy⟩ := hrs j y hy2
      have hmj : ms[j]? = some y.2.mat.mask := by rw [hms, List.getElem?_map, hy2]; rfl
      have htk : ms.take (j + 1) = ms.take j ++ [y.2.mat.mask] := by rw [List.take_add_one, hmj]; rfl
      refine CW.skip ?_
      refine NX.seq ?_
      refine CW.seq ?_
      refine CW.block ?_
      refine CW.drawY [(0, false), (1, false), (2, false), (3, false), (4, false), (5, false), (6, false), (7, false), (8, false), (9, false), (10, false), (11, false), (12, false), (13, false), (14, false), (15, false), (16, false), (17, false), (18, false), (19, false), (20, false), (21, false)] [22, 23, 24] (fun z => Fr0 V z) MIX (by kernel_rfl) (fun _ h => h) ?_
      intro z1 hz1
      refine XW.val rfl rfl (fun zw hz => OW.move rfl rfl (OW.nil NX.calm)) ?_
      refine XW.val rfl rfl (fun zw hz => OW.move rfl rfl (OW.nil NX.calm)) ?_
      refine XW.ways (s := 22) rfl (fun hfl => ?_) (fun hfl => ?_)
      · refine XW.val rfl rfl (fun zw hz => OW.gyes rfl rfl (OW.move rfl rfl (OW.nil NX.calm))) ?_
        refine XW.val rfl rfl (fun zw hz => OW.gyes rfl rfl (OW.nilCheck rfl rfl (OW.nil NX.calm))) ?_
        refine XW.val rfl rfl (fun zw hz => OW.gyes rfl rfl (OW.fieldAddr rfl fo69_0 rfl (OW.nil NX.calm))) ?_
        refine XW.val rfl rfl (fun zw hz => OW.gyes rfl rfl (OW.load1 rfl ct67 rfl (((hbt.frame gV id0).frame hz id0).cell (o := 0) rfl) (OW.nil NX.calm))) ?_
        refine XW.val rfl rfl (fun zw hz => OW.gyes rfl rfl (OW.move rfl rfl (OW.nil NX.calm))) ?_
        refine XW.val rfl rfl (fun zw hz => OW.gyes rfl rfl (OW.indexAddr rfl el67 rfl rfl (⟨by omega, by omega⟩) (OW.nil NX.calm))) ?_
        refine XW.val rfl rfl (fun zw hz => OW.gyes rfl rfl (OW.fieldAddr rfl fo144_1 rfl (OW.nil NX.calm))) ?_
        refine XW.val rfl rfl (fun zw hz => OW.gyes rfl rfl (OW.fieldAddr rfl fo36_1 rfl (OW.nil NX.calm))) ?_
        refine XW.val rfl rfl (fun zw hz => OW.gyes rfl rfl (OW.fieldAddr rfl fo33_1 rfl (OW.nil NX.calm))) ?_
        refine XW.val rfl rfl (fun zw hz => OW.gyes rfl rfl (OW.loadA rfl ag31 rfl (((sgy.frame gV id0).frame hz id0).sub (1 + 1 + 11) (fun j v e => ent_mask j v e)) (rfl) (OW.nil NX.calm))) ?_
        refine XW.val rfl rfl (fun zw hz => OW.gyes rfl rfl (OW.move rfl rfl (OW.nil NX.calm))) ?_
        refine XW.val rfl rfl (fun zw hz => OW.gyes rfl rfl (OW.nilCheck rfl rfl (OW.nil NX.calm))) ?_
        refine XW.val rfl rfl (fun zw hz => OW.gyes rfl rfl (OW.fieldAddr rfl fo69_0 rfl (OW.nil NX.calm))) ?_
        refine XW.val rfl rfl (fun zw hz => OW.gyes rfl rfl (OW.load1 rfl ct67 rfl (((hbt.frame gV id0).frame hz id0).cell (o := 0) rfl) (OW.nil NX.calm))) ?_
        refine XW.val rfl rfl (fun zw hz => OW.gyes rfl rfl (OW.move rfl rfl (OW.nil NX.calm))) ?_
        refine XW.val rfl rfl (fun zw hz => OW.gyes rfl rfl (OW.indexAddr rfl el67 rfl rfl (⟨by omega, by omega⟩) (OW.nil NX.calm))) ?_
        refine XW.val rfl rfl (fun zw hz => OW.gyes rfl rfl (OW.fieldAddr rfl fo144_1 rfl (OW.nil NX.calm))) ?_
        refine XW.val rfl rfl (fun zw hz => OW.gyes rfl rfl (OW.fieldAddr rfl fo36_1 rfl (OW.nil NX.calm))) ?_
        refine XW.val rfl rfl (fun zw hz => OW.gyes rfl rfl (OW.fieldAddr rfl fo33_1 rfl (OW.nil NX.calm))) ?_
        refine XW.val rfl rfl (fun zw hz => OW.gyes rfl rfl (OW.loadA rfl ag31 rfl (((sgx.frame gV id0).frame hz id0).sub (1 + 1 + 11) (fun j v e => ent_mask j v e)) (rfl) (OW.nil NX.calm))) ?_
        refine XW.tail ?_
        refine OW.gyes rfl rfl ?_
        refine OW.neqA (l := y.2.mat.mask.lits) (r := x.2.mat.mask.lits) rfl Tb.hdrFlat eg31 rfl rfl rfl rfl (Hdr.lits_wf hwy.2.2.1.2) (Hdr.lits_wf hwx.2.2.1.2) ?_
        refine OW.pickT rfl rfl rfl ?_
        refine OW.assign rfl rfl ?_
        refine OW.nil ?_
        refine NX.blockN ?_
        refine NX.seq ?_
        refine CW.region ?_
        refine OW.move rfl rfl ?_
        refine OW.add rfl rfl rfl (by omega) ?_
        refine OW.assign rfl rfl ?_
        refine OW.nil ?_
        refine NX.slot (s := 5) rfl (congrArg Value.bool (show _ = decide (x.2.mat.mask ∉ ms.take (j + 1)) from by
            rw [htk]
            exact flag_next hfl)) ?_
        exact NX.loop (j + 1) ((Sub.cons rfl (Sub.cons rfl (Sub.cons rfl (Sub.cons rfl (Sub.cons rfl (Sub.nil _))))))) (⟨by omega, gV.trans hz1⟩) (by omega)
      · refine XW.gno rfl rfl rfl rfl ?_
        refine XW.gno rfl rfl rfl rfl ?_
        refine XW.gno rfl rfl rfl rfl ?_
        refine XW.gno rfl rfl rfl rfl ?_
        refine XW.gno rfl rfl rfl rfl ?_
        refine XW.gno rfl rfl rfl rfl ?_
        refine XW.gno rfl rfl rfl rfl ?_
        refine XW.gno rfl rfl rfl rfl ?_
        refine XW.gno rfl rfl rfl rfl ?_
        refine XW.gno rfl rfl rfl rfl ?_
        refine XW.gno rfl rfl rfl rfl ?_
        refine XW.gno rfl rfl rfl rfl ?_
        refine XW.gno rfl rfl rfl rfl ?_
        refine XW.gno rfl rfl rfl rfl ?_
        refine XW.gno rfl rfl rfl rfl ?_
        refine XW.gno rfl rfl rfl rfl ?_
        refine XW.gno rfl rfl rfl rfl ?_
        refine XW.gno rfl rfl rfl rfl ?_
        refine XW.gno rfl rfl rfl rfl ?_
        refine XW.gno rfl rfl rfl rfl ?_
        refine XW.tail ?_
        refine OW.gnoD rfl rfl rfl rfl ?_
        refine OW.pickF rfl rfl rfl ?_
        refine OW.assign rfl rfl ?_
        refine OW.nil ?_
        refine NX.blockN ?_
        refine NX.seq ?_
        refine CW.region ?_
        refine OW.move rfl rfl ?_
        refine OW.add rfl rfl rfl (by omega) ?_
        refine OW.assign rfl rfl ?_
        refine OW.nil ?_
        refine NX.slot (s := 5) rfl (congrArg Value.bool (show _ = decide (x.2.mat.mask ∉ ms.take (j + 1)) from by
            rw [htk]
            exact flag_stay hfl)) ?_
        exact NX.loop (j + 1) ((Sub.cons rfl (Sub.cons rfl (Sub.cons rfl (Sub.cons rfl (Sub.cons rfl (Sub.nil _))))))) (⟨by omega, gV.trans hz1⟩) (by omega)
    · have hji : j = i := by omega
      subst hji
      have hmi : ms[j]? = some x.2.mat.mask := by rw [hms, List.getElem?_map, hx2]; rfl
      refine CW.exit ?_
      refine NX.thenExit ?_
      refine NX.thenExit ?_
      refine NX.blockEq ?_
      refine NX.seq ?_
      refine CW.seq ?_
      refine CW.region ?_
      refine OW.move rfl rfl ?_
      refine OW.nil ?_
      refine NX.seq ?_
      refine CW.cond rfl (fun hfr => ?_) (fun hfr => ?_)
      · refine CW.region ?_
        refine OW.move rfl rfl ?_
        refine OW.add rfl rfl rfl (by omega) ?_
        refine OW.assign rfl rfl ?_
        refine OW.nil ?_
        refine NX.blockN ?_
        refine NX.seq ?_
        refine CW.region ?_
        refine OW.move rfl rfl ?_
        refine OW.add rfl rfl rfl (by omega) ?_
        refine OW.assign rfl rfl ?_
        refine OW.nil ?_
        refine NX.slot (s := 3) rfl (congrArg (Value.int .i64) (show _ = (((distM ms (j + 1)).length : Nat) : Int) from by
            rw [distM]; simp only [hmi]; rw [if_neg hfr]; simp)) ?_
        exact NX.loop (j + 1) ((Sub.cons rfl (Sub.cons rfl (Sub.cons rfl (Sub.nil _))))) (⟨hil, gV⟩) (by omega)
      · refine CW.skip ?_
        refine NX.blockN ?_
        refine NX.seq ?_
        refine CW.region ?_
        refine OW.move rfl rfl ?_
        refine OW.add rfl rfl rfl (by omega) ?_
        refine OW.assign rfl rfl ?_
        refine OW.nil ?_
        refine NX.slot (s := 3) rfl (congrArg (Value.int .i64) (show _ = (((distM ms (j + 1)).length : Nat) : Int) from by
            rw [distM]; simp only [hmi]; rw [if_pos (Classical.not_not.1 hfr)])) ?_
        exact NX.loop (j + 1) ((Sub.cons rfl (Sub.cons rfl (Sub.cons rfl (Sub.nil _))))) (⟨hil, gV⟩) (by omega)
  · refine CW.exit ?_
    refine NX.thenExit ?_
    refine NX.thenExit ?_
    refine NX.blockEq ?_
    refine NX.seq ?_
    refine CW.seq ?_
    refine CW.region ?_
    refine OW.move rfl rfl ?_
    refine OW.assign rfl rfl ?_
    refine OW.nil ?_
    refine NX.seq ?_
    refine CW.ret ?_
    exact NX.ret1 rfl rfl (⟨by rw [show i = l.length by omega, hms], gU⟩)

end Go.Eng.Tj
