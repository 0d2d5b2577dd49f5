/-
  TuplesPlays, stepped through.
  No condition.
-/
import Derived.Test.YtmdhbgkmkmmmpaaDeal
import Derived.Test.YtmdhbgkmkmmmpaaProg
import Derived.KernelRfl
namespace Go.Eng.Tk
open Go Go.Eng Go.Proofs
theorem MIX : Try.prog.follows .mixedOrders = true := by kernel_rfl

theorem ag31 : aggSz Try.prog 31 = some 11 := by kernel_rfl
theorem ag36 : aggSz Try.prog 36 = some 25 := by kernel_rfl
theorem ag71 : aggSz Try.prog 71 = some 38 := by kernel_rfl
theorem cl27 : callable Try.prog 27 = true := by kernel_rfl
theorem cl28 : callable Try.prog 28 = true := by kernel_rfl
theorem cl29 : callable Try.prog 29 = true := by kernel_rfl
theorem cl31 : callable Try.prog 31 = true := by kernel_rfl
theorem cl32 : callable Try.prog 32 = true := by kernel_rfl
theorem cl33 : callable Try.prog 33 = true := by kernel_rfl
theorem cl34 : callable Try.prog 34 = true := by kernel_rfl
theorem cl35 : callable Try.prog 35 = true := by kernel_rfl
theorem cl36 : callable Try.prog 36 = true := by kernel_rfl
theorem cl37 : callable Try.prog 37 = true := by kernel_rfl
theorem ct3 : cellTy Try.prog 3 = true := by kernel_rfl
theorem el65 : elemIs Try.prog 65 = some (71, 38) := by kernel_rfl
theorem fo71_0 : fieldOff Try.prog 71 0 = some 0 := by kernel_rfl
theorem fo71_1 : fieldOff Try.prog 71 1 = some 1 := by kernel_rfl
theorem fo71_2 : fieldOff Try.prog 71 2 = some 26 := by kernel_rfl
theorem fo71_3 : fieldOff Try.prog 71 3 = some 27 := by kernel_rfl
theorem pl69 : placesIs Try.prog 69 = some [(0, 1), (1, 1)] := by kernel_rfl
theorem sz71 : sizeIs Try.prog 71 = some 38 := by kernel_rfl
theorem u_4 : Try.prog.underlying 4 = some (.bool) := by kernel_rfl
theorem u_57 : Try.prog.underlying 57 = some (.pointer 127) := by kernel_rfl
theorem zr69 : zeroIs Try.prog 69 = some (.agg #[.slice none 0 0, .int .i64 0]) := by kernel_rfl
theorem zr71 : zeroIs Try.prog 71 = some (.agg #[.int .i64 0, .int .i64 0, .int .u64 0, .int .u64 0, .int .u64 0, .int .u64 0, .int .u64 0, .int .u64 0, .int .u64 0, .int .u64 0, .int .u64 0, .int .u64 0, .int .u64 0, .int .u64 0, .int .u64 0, .int .u64 0, .int .u64 0, .int .u64 0, .int .u64 0, .int .u64 0, .int .u64 0, .int .u64 0, .int .u64 0, .int .u64 0, .slice none 0 0, .int .u64 0, .int .i64 0, .int .u64 0, .int .u64 0, .int .u64 0, .int .u64 0, .int .u64 0, .int .u64 0, .int .u64 0, .int .u64 0, .int .u64 0, .int .u64 0, .int .u64 0]) := by kernel_rfl

theorem plays_does {v : Value} {l : List Deal} (w : World) (hx : SlR 38 dealR (Bel w) w v l) : Does Try.prog 11 [v] w fun r w' => r = .bool true ∧ Fr0 w w' := by
  obtain ⟨pa, ca, rfl, hla⟩ := hx.shape
  have id0 : ¬ False := fun c => c
  refine Does.enter Try.func11 rfl rfl ?_
  show CW _ _ _ _ 97 [] [(0, .slice pa l.length ca)] w
  refine CW.seq ?_
  refine CW.region ?_
  refine OW.assign rfl rfl ?_
  refine OW.nil ?_
  refine NX.seq ?_
  refine CW.seq ?_
  refine CW.region ?_
  refine OW.call rfl rfl cl27 (Tc.new_does w) ?_
  rintro _ w1 ⟨T0, rfl, ⟨e1, e2, e3⟩, ⟨hh0, hfr⟩, f1⟩
  have r1 : Run w w1 [] [tabA T0] := (Run.start Holds.nil).adopt f1 hh0 hfr
  have i0 := new_inv e1 e2 e3
  refine OW.build (z := refCells (.slice none 0 0) 0) rfl pl69 zr69 rfl rfl ?_
  refine OW.boxA (vs := refCells (.slice none 0 0) 0) rfl rfl ?_
  intro b2 w2 n2
  have r2 := ((r1.newPts n2).void (a := ownA 144 26 entR entR_ok (.slice none 0 0) []) (OwnSl.nil (X := fun _ => False)) rfl).perm (List.Perm.swap _ _ _)
  have r3 : Run w w2 [] [refA ⟨b2, .slice none 0 0, [], 0⟩, tabA T0] := Run.join (Bs := refPieces ⟨b2, .slice none 0 0, [], 0⟩) (Cs := [tabA T0]) r2
  have B0 : Both T0 ⟨b2, .slice none 0 0, [], 0⟩ 0 := ⟨i0, e2.symm, e3.symm, by rw [e2]; exact Nat.le_refl _, by rw [e3]; exact Int.le_refl _⟩
  refine OW.assign rfl rfl ?_
  refine OW.assign rfl rfl ?_
  refine OW.nil ?_
  refine NX.seq ?_
  refine CW.seq ?_
  refine CW.seq ?_
  refine CW.region ?_
  refine OW.move rfl rfl ?_
  refine OW.eqlPtrNil rfl u_57 rfl rfl ?_
  refine OW.slot (s := 19) rfl (show _ = Value.bool false from rfl) ?_
  refine OW.nil ?_
  refine NX.seq ?_
  refine CW.condF rfl ?_
  refine CW.skip ?_
  refine NX.seq ?_
  refine CW.seq ?_
  refine CW.seq ?_
  refine CW.region ?_
  refine OW.move rfl rfl ?_
  refine OW.len rfl el65 rfl ?_
  refine OW.move rfl rfl ?_
  refine OW.nil ?_
  refine NX.seq ?_
  refine CW.block ?_
  refine CW.loop (α := Nat × TabSt × RefSt) (fun s : Nat × TabSt × RefSt => [(3, .pointer (some ⟨T0.bt, 0, none⟩)), (4, .pointer (some ⟨b2, 0, none⟩)), (20, .slice pa l.length ca), (21, .int .i64 ((l.length : Nat) : Int)), (22, .int .i64 ((s.1 : Nat) : Int))]) (fun (s : Nat × TabSt × RefSt) U => s.1 ≤ l.length ∧ s.1 ≤ 200 ∧ s.2.1.bt = T0.bt ∧ s.2.2.b = b2 ∧ Run w U [] [refA s.2.2, tabA s.2.1] ∧ Both s.2.1 s.2.2 s.1) (fun s : Nat × TabSt × RefSt => l.length - s.1) (0, T0, ⟨b2, .slice none 0 0, [], 0⟩) (Sub.cons rfl (Sub.cons rfl (Sub.cons rfl (Sub.cons rfl (Sub.cons rfl (Sub.nil _)))))) ⟨Nat.zero_le _, Nat.zero_le _, rfl, rfl, r3, B0⟩ ?_
  rintro ⟨i, T, R⟩ U ⟨hi, hi2, hbt, hrb, r, B⟩
  simp only at hi hi2 hbt hrb r B
  refine CW.seq ?_
  refine CW.region ?_
  refine OW.lss rfl rfl rfl ?_
  refine OW.nil ?_
  refine NX.seq ?_
  refine CW.seq ?_
  refine CW.cond rfl (fun hlt => ?_) (fun hlt => ?_)
  · have hil : i < l.length := by omega
    obtain ⟨ba, oa, hpa, hel⟩ := hx.at' hil
    obtain ⟨x, hx1, hx2⟩ := getL hil
    obtain ⟨_, sgx, cvx, rfl, hrx, hhx⟩ := hel i x hx2
    have g := run0 r
    refine CW.skip ?_
    refine NX.seq ?_
    refine CW.seq ?_
    refine CW.block ?_
    refine CW.seq ?_
    refine CW.region ?_
    refine OW.move rfl rfl ?_
    refine OW.indexAddr (b := ba) (o := oa) rfl el65 (by rw [← hpa]; rfl) rfl (⟨by omega, by omega⟩) ?_
    refine OW.loadA rfl ag71 rfl (sgx.frame g id0) (rfl) ?_
    refine OW.alloc rfl zr71 ?_
    intro b8 w5 n5
    have r5 := r.newPts (cs := [.int .i64 0, .int .i64 0, .int .u64 0, .int .u64 0, .int .u64 0, .int .u64 0, .int .u64 0, .int .u64 0, .int .u64 0, .int .u64 0, .int .u64 0, .int .u64 0, .int .u64 0, .int .u64 0, .int .u64 0, .int .u64 0, .int .u64 0, .int .u64 0, .int .u64 0, .int .u64 0, .int .u64 0, .int .u64 0, .int .u64 0, .int .u64 0, .slice none 0 0, .int .u64 0, .int .i64 0, .int .u64 0, .int .u64 0, .int .u64 0, .int .u64 0, .int .u64 0, .int .u64 0, .int .u64 0, .int .u64 0, .int .u64 0, .int .u64 0, .int .u64 0]) n5
    refine OW.assign rfl rfl ?_
    refine OW.store rfl rfl sz71 (r5.get 0 rfl : Bk _ _ _ _) (Nat.le_of_ble_eq_true rfl) (fun y hy => dealR_ok.one (X := Bel w) (w := w) (x := x) ⟨cvx, rfl, hrx, hhx⟩ y hy) ?_
    intro w6 f6 s6 b6
    have e6 : upd ([.int .i64 0, .int .i64 0, .int .u64 0, .int .u64 0, .int .u64 0, .int .u64 0, .int .u64 0, .int .u64 0, .int .u64 0, .int .u64 0, .int .u64 0, .int .u64 0, .int .u64 0, .int .u64 0, .int .u64 0, .int .u64 0, .int .u64 0, .int .u64 0, .int .u64 0, .int .u64 0, .int .u64 0, .int .u64 0, .int .u64 0, .int .u64 0, .slice none 0 0, .int .u64 0, .int .i64 0, .int .u64 0, .int .u64 0, .int .u64 0, .int .u64 0, .int .u64 0, .int .u64 0, .int .u64 0, .int .u64 0, .int .u64 0, .int .u64 0, .int .u64 0]) 0 (dealCells x cvx) = dealCells x cvx := upd_all rfl
    have b6' : Bk w6 b8 71 (upd ([.int .i64 0, .int .i64 0, .int .u64 0, .int .u64 0, .int .u64 0, .int .u64 0, .int .u64 0, .int .u64 0, .int .u64 0, .int .u64 0, .int .u64 0, .int .u64 0, .int .u64 0, .int .u64 0, .int .u64 0, .int .u64 0, .int .u64 0, .int .u64 0, .int .u64 0, .int .u64 0, .int .u64 0, .int .u64 0, .int .u64 0, .int .u64 0, .slice none 0 0, .int .u64 0, .int .i64 0, .int .u64 0, .int .u64 0, .int .u64 0, .int .u64 0, .int .u64 0, .int .u64 0, .int .u64 0, .int .u64 0, .int .u64 0, .int .u64 0, .int .u64 0]) 0 (dealCells x cvx)) := b6
    rw [e6] at b6'
    have r6 := r5.put 0 rfl (Moves.pts f6 b6')
    have g6 := run0 r6
    refine OW.nil ?_
    refine NX.seq ?_
    refine CW.seq ?_
    refine CW.seq ?_
    refine CW.region ?_
    refine OW.move rfl rfl ?_
    refine OW.geq rfl rfl rfl ?_
    refine OW.nil ?_
    refine NX.seq ?_
    refine CW.cond rfl (fun h200 => ?_) (fun h200 => ?_)
    · refine CW.exit ?_
      refine NX.thenExit ?_
      refine NX.blockNe rfl ?_
      refine NX.thenExit ?_
      refine NX.thenExit ?_
      refine NX.blockEq ?_
      refine NX.seq ?_
      refine CW.seq ?_
      refine CW.region ?_
      refine OW.call rfl rfl cl31 (Tf.wakes_does _) ?_
      rintro _ w9 ⟨rfl, f9⟩
      refine OW.assign rfl rfl ?_
      refine OW.nil ?_
      refine NX.seq ?_
      refine CW.ret ?_
      exact NX.ret1 rfl rfl (⟨rfl, run0 ((r6).fr0 f9)⟩)
    · have hi3 : i < 200 := by omega
      have hhr := r6.alone 1 rfl
      have hht := r6.alone 2 rfl
      have hl100 : T.atl.length ≤ 100000 := by have := B.len; omega
      have hl101 : R.l.length ≤ 100000 := by rw [B.l]; exact hl100
      have hlast : T.last < 4611686018427387904 := by have := B.top; omega
      have hb8 : Bk w6 b8 71 (dealCells x cvx) := b6'
      refine CW.skip ?_
      refine NX.seq ?_
      refine CW.mid (α := TabSt × RefSt) (fun s : TabSt × RefSt => [(3, .pointer (some ⟨T0.bt, 0, none⟩)), (4, .pointer (some ⟨b2, 0, none⟩)), (20, .slice pa l.length ca), (21, .int .i64 ((l.length : Nat) : Int)), (22, .int .i64 ((i : Nat) : Int))]) (fun (s : TabSt × RefSt) V => s.1.bt = T0.bt ∧ s.2.b = b2 ∧ Run w V [] [refA s.2, tabA s.1] ∧ Both s.1 s.2 (i + 1)) ?_ ?_
      · refine CW.seq ?_
        refine CW.region ?_
        refine OW.fieldAddr rfl fo71_0 rfl ?_
        refine OW.load1 rfl ct3 rfl (hb8.cell (o := 0) rfl) ?_
        refine OW.nil ?_
        refine NX.seq ?_
        refine CW.block ?_
        refine CW.seq ?_
        refine CW.region ?_
        refine OW.eql rfl rfl rfl ?_
        refine OW.assign rfl rfl ?_
        refine OW.nil ?_
        refine NX.seq ?_
        refine CW.cond rfl (fun h0 => ?_) (fun h0 => ?_)
        · refine CW.seq ?_
          refine CW.region ?_
          refine OW.move rfl rfl ?_
          refine OW.fieldAddr rfl fo71_1 rfl ?_
          refine OW.loadA rfl ag36 rfl (hb8.segAt 1 (ruleCells x.r.rank x.r.mat cvx x.r.cookie) (fun j v e => deal_rule j v e)) (rfl) ?_
          rw [← hbt]
          refine OW.call rfl rfl cl28 (add2 (ru := x.r) (X := Bel w) w6 hht B.inv hl100 hlast (rf hrx ruleR_ok g6)) ?_
          rintro _ w7 ⟨T2, rfl, inv2, hb2, m7, ha2, hl2⟩
          have r7 := r6.put 2 rfl m7
          have hb8' : Bk w7 b8 71 (dealCells x cvx) := r7.get 0 rfl
          refine OW.move rfl rfl ?_
          refine OW.extract rfl rfl rfl ?_
          refine OW.extract rfl rfl rfl ?_
          refine OW.assign rfl rfl ?_
          refine OW.assign rfl rfl ?_
          refine OW.nil ?_
          refine NX.seq ?_
          refine CW.seq ?_
          refine CW.region ?_
          refine OW.move rfl rfl ?_
          refine OW.fieldAddr rfl fo71_1 rfl ?_
          refine OW.loadA rfl ag36 rfl (hb8'.segAt 1 (ruleCells x.r.rank x.r.mat cvx x.r.cookie) (fun j v e => deal_rule j v e)) (rfl) ?_
          rw [← hrb]
          refine OW.call rfl rfl cl32 (refAdd2 (ru := x.r) (X := Bel w) w7 (r7.alone 1 rfl) ⟨by rw [B.last]; exact B.inv.last, by rw [B.last]; exact hlast⟩ (rf hrx ruleR_ok (run0 r7))) ?_
          rintro _ w8 ⟨R2, rfl, hb3, m8, ha3, hl3⟩
          have r8 := r7.put 1 rfl m8
          have B2 : Both T2 R2 (i + 1) := ⟨inv2, by rw [ha3, ha2, B.l, B.last], by rw [hl3, hl2, B.l, B.last], by rw [ha2]; have := addL_len T.atl T.last x.r; have := B.len; omega, by rw [hl2]; have := (addLast_le T.atl T.last x.r).2; have := B.top; omega⟩
          rw [B.l, B.last]
          refine OW.move rfl rfl ?_
          refine OW.extract rfl rfl rfl ?_
          refine OW.extract rfl rfl rfl ?_
          refine OW.assign rfl rfl ?_
          refine OW.assign rfl rfl ?_
          refine OW.nil ?_
          refine NX.seq ?_
          refine CW.seq ?_
          refine CW.region ?_
          refine OW.move rfl rfl ?_
          refine OW.move rfl rfl ?_
          refine OW.neq rfl rfl rfl ?_
          refine OW.move rfl rfl ?_
          refine OW.ways (s := 50) rfl (fun hn1 => ?_) (fun hn1 => ?_)
          · exact absurd rfl hn1
          · refine OW.gyes rfl rfl ?_
            refine OW.move rfl rfl ?_
            refine OW.gyes rfl rfl ?_
            refine OW.move rfl rfl ?_
            refine OW.gyes rfl rfl ?_
            refine OW.neq rfl rfl rfl ?_
            refine OW.pickF rfl rfl rfl ?_
            refine OW.nil ?_
            refine NX.seq ?_
            refine CW.cond rfl (fun hn2 => ?_) (fun hn2 => ?_)
            · exact absurd rfl hn2
            · refine CW.skip ?_
              refine NX.blockN ?_
              exact NX.mid ((T2, R2)) ((Sub.cons rfl (Sub.cons rfl (Sub.cons rfl (Sub.cons rfl (Sub.cons rfl (Sub.nil _))))))) (⟨hb2, hb3, r8.drop, B2⟩)
        · refine CW.seq ?_
          refine CW.region ?_
          refine OW.eql rfl rfl rfl ?_
          refine OW.assign rfl rfl ?_
          refine OW.nil ?_
          refine NX.seq ?_
          refine CW.cond rfl (fun h1 => ?_) (fun h1 => ?_)
          · have hne : ¬ b8 ∈ (tabA T).fp := fun c => r6.holds.apart (i := 0) (j := 2) rfl rfl (by decide) (k := b8) (by simp [pts]) c
            refine CW.seq ?_
            refine CW.drawY [(0, false), (1, false), (2, false), (4, false), (5, false), (6, false), (3, true)] [7, 8] (fun z => Fr (fun k => k ∈ (tabA T).fp) w6 z) MIX (by kernel_rfl) (fun _ h => h.any) ?_
            intro z1 hz1
            refine XW.val rfl rfl (fun zw hz => OW.move rfl rfl (OW.nil NX.calm)) ?_
            refine XW.val rfl rfl (fun zw hz => OW.fieldAddr rfl fo71_2 rfl (OW.nil NX.calm)) ?_
            refine XW.val rfl rfl (fun zw hz => OW.load1 rfl ct3 rfl ((hb8.frame hz hne).cell (o := 26) rfl) (OW.nil NX.calm)) ?_
            refine XW.val rfl rfl (fun zw hz => OW.move rfl rfl (OW.nil NX.calm)) ?_
            refine XW.val rfl rfl (fun zw hz => OW.fieldAddr rfl fo71_2 rfl (OW.nil NX.calm)) ?_
            refine XW.val rfl rfl (fun zw hz => OW.load1 rfl ct3 rfl ((hb8.frame hz hne).cell (o := 26) rfl) (OW.nil NX.calm)) ?_
            refine XW.does ?_
            have r6z := r6.fr0 hz1
            rw [← hbt]
            refine OW.call rfl rfl cl33 (drop2 (id := x.id) z1 (r6z.alone 2 rfl) B.inv hl100 hlast) ?_
            rintro _ w7 ⟨T2, rfl, inv2, hb2, m7, ha2, hl2⟩
            have r7 := r6z.put 2 rfl m7
            refine OW.nil (NX.does (Fr.trans (Fr0.any hz1) m7.fr) ?_)
            refine XW.tail ?_
            rw [← hrb]
            refine OW.call rfl rfl cl34 (Tj.refDrop_does (id := x.id) w7 (r7.alone 1 rfl) hl101) ?_
            rintro _ w8 ⟨rfl, R2, hb3, ha3, hl3, m8⟩
            have r8 := r7.put 1 rfl m8
            have B2 : Both T2 R2 (i + 1) := ⟨inv2, by rw [ha3, ha2, B.l], by rw [hl3, hl2, B.last], by rw [ha2]; exact Nat.le_trans (List.length_filter_le _ _) (Nat.le_succ_of_le B.len), by rw [hl2]; have := B.top; omega⟩
            rw [B.l]
            refine OW.neqBool rfl u_4 rfl rfl ?_
            refine OW.nil ?_
            refine NX.seq ?_
            refine CW.cond rfl (fun hn2 => ?_) (fun hn2 => ?_)
            · exact absurd rfl hn2
            · refine CW.skip ?_
              refine NX.blockN ?_
              exact NX.mid ((T2, R2)) ((Sub.cons rfl (Sub.cons rfl (Sub.cons rfl (Sub.cons rfl (Sub.cons rfl (Sub.nil _))))))) (⟨hb2, hb3, r8.drop, B2⟩)
          · refine CW.seq ?_
            refine CW.region ?_
            refine OW.eql rfl rfl rfl ?_
            refine OW.assign rfl rfl ?_
            refine OW.nil ?_
            refine NX.seq ?_
            refine CW.cond rfl (fun h2 => ?_) (fun h2 => ?_)
            · refine CW.seq ?_
              refine CW.region ?_
              refine OW.move rfl rfl ?_
              refine OW.fieldAddr rfl fo71_3 rfl ?_
              refine OW.loadA rfl ag31 rfl (hb8.segAt 27 x.h.cells (fun j v e => deal_hdr j v e)) (rfl) ?_
              rw [← hbt]
              refine OW.call rfl rfl cl29 (Tf.find_spec (h := x.h) w6 hhx hht B.inv hl100) ?_
              rintro _ w7 ⟨⟨c1, ht1, rfl⟩, f7⟩
              have r7 := r6.fr0 f7
              have hb8' : Bk w7 b8 71 (dealCells x cvx) := r7.get 0 rfl
              refine OW.move rfl rfl ?_
              refine OW.extract rfl rfl rfl ?_
              refine OW.extract rfl rfl rfl ?_
              refine OW.assign rfl rfl ?_
              refine OW.assign rfl rfl ?_
              refine OW.nil ?_
              refine NX.seq ?_
              refine CW.seq ?_
              refine CW.region ?_
              refine OW.move rfl rfl ?_
              refine OW.fieldAddr rfl fo71_3 rfl ?_
              refine OW.loadA rfl ag31 rfl (hb8'.segAt 27 x.h.cells (fun j v e => deal_hdr j v e)) (rfl) ?_
              rw [← hrb]
              refine OW.call rfl rfl cl35 (Tj.refFind_does (hd := x.h) w7 hhx (r7.alone 1 rfl) hl101 (by rw [B.l]; exact B.inv.ids) (by rw [B.l]; exact fun y hy => (B.inv.bnd y hy).1)) ?_
              rintro _ w8 ⟨⟨c2, ht2, rfl⟩, f8⟩
              have r8 := r7.fr0 f8
              rw [B.l] at ht2
              have hid := ht1.same ht2
              rw [← hid]
              refine OW.move rfl rfl ?_
              refine OW.extract rfl rfl rfl ?_
              refine OW.extract rfl rfl rfl ?_
              refine OW.assign rfl rfl ?_
              refine OW.assign rfl rfl ?_
              refine OW.nil ?_
              refine NX.seq ?_
              refine CW.seq ?_
              refine CW.region ?_
              refine OW.move rfl rfl ?_
              refine OW.move rfl rfl ?_
              refine OW.neq rfl rfl rfl ?_
              refine OW.move rfl rfl ?_
              refine OW.ways (s := 85) rfl (fun hn1 => ?_) (fun hn1 => ?_)
              · exact absurd rfl hn1
              · refine OW.gyes rfl rfl ?_
                refine OW.move rfl rfl ?_
                refine OW.gyes rfl rfl ?_
                refine OW.move rfl rfl ?_
                refine OW.gyes rfl rfl ?_
                refine OW.neqBool rfl u_4 rfl rfl ?_
                refine OW.pickF rfl rfl rfl ?_
                refine OW.nil ?_
                refine NX.seq ?_
                refine CW.cond rfl (fun hn2 => ?_) (fun hn2 => ?_)
                · exact absurd rfl hn2
                · refine CW.skip ?_
                  refine NX.blockN ?_
                  exact NX.mid ((T, R)) ((Sub.cons rfl (Sub.cons rfl (Sub.cons rfl (Sub.cons rfl (Sub.cons rfl (Sub.nil _))))))) (⟨rfl, rfl, r8.drop, B.more⟩)
            · refine CW.skip ?_
              refine NX.blockN ?_
              exact NX.mid ((T, R)) ((Sub.cons rfl (Sub.cons rfl (Sub.cons rfl (Sub.cons rfl (Sub.cons rfl (Sub.nil _))))))) (⟨hbt, hrb, r6.drop, B.more⟩)
      · rintro ⟨T2, R2⟩ V ⟨hbt2, hrb2, q, B2⟩
        simp only at hbt2 hrb2 q B2
        have hl200 : T2.atl.length ≤ 100000 := by have := B2.len; omega
        refine CW.seq ?_
        refine CW.region ?_
        refine OW.move rfl rfl ?_
        rw [← hbt2]
        refine OW.call rfl rfl cl36 (Tf.rows_spec V (q.alone 1 rfl)) ?_
        rintro _ w7 ⟨rfl, f7⟩
        have q7 := q.fr0 f7
        refine OW.move rfl rfl ?_
        rw [← hrb2]
        refine OW.call rfl rfl cl37 (Tj.refRows_does w7 (q7.alone 0 rfl) (by rw [B2.l]; exact hl200)) ?_
        rintro _ w8 ⟨rfl, f8⟩
        have q8 := q7.fr0 f8
        rw [B2.l, dist_rows B2.inv]
        refine OW.neq rfl rfl rfl ?_
        refine OW.nil ?_
        refine NX.seq ?_
        refine CW.cond rfl (fun hne => ?_) (fun hne => ?_)
        · exact absurd rfl hne
        · refine CW.skip ?_
          refine NX.blockN ?_
          refine NX.seq ?_
          refine CW.region ?_
          refine OW.add rfl rfl rfl (by omega) ?_
          refine OW.move rfl rfl ?_
          refine OW.nil ?_
          exact NX.loop ((i + 1, T2, R2)) ((Sub.cons rfl (Sub.cons rfl (Sub.cons rfl (Sub.cons rfl (Sub.cons rfl (Sub.nil _))))))) (⟨by show i + 1 ≤ _; omega, by show i + 1 ≤ 200; omega, rfl, rfl, q8, B2⟩) (by show l.length - (i + 1) < l.length - i; omega)
  · refine CW.exit ?_
    refine NX.thenExit ?_
    refine NX.thenExit ?_
    refine NX.blockEq ?_
    refine NX.seq ?_
    refine CW.seq ?_
    refine CW.region ?_
    refine OW.call rfl rfl cl31 (Tf.wakes_does _) ?_
    rintro _ w9 ⟨rfl, f9⟩
    refine OW.assign rfl rfl ?_
    refine OW.nil ?_
    refine NX.seq ?_
    refine CW.ret ?_
    exact NX.ret1 rfl rfl (⟨rfl, run0 ((r).fr0 f9)⟩)

end Go.Eng.Tk
