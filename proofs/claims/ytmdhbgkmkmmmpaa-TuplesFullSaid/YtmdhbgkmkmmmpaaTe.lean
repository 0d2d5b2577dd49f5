/-
  Find of package tuples, stepped through.
  No condition.
-/
import Derived.Test.YtmdhbgkmkmmmpaaTupL
import Derived.Test.YtmdhbgkmkmmmpaaEngX
import Derived.Test.YtmdhbgkmkmmmpaaProg
import Derived.KernelRfl
namespace Go.Eng.Te
open Go Go.Eng Go.Proofs
theorem MIX : Try.prog.follows .mixedOrders = true := by kernel_rfl

theorem ag137 : aggSz Try.prog 137 = some 2 := by kernel_rfl
theorem ag31 : aggSz Try.prog 31 = some 11 := by kernel_rfl
theorem cl71 : callable Try.prog 71 = true := by kernel_rfl
theorem ct125 : cellTy Try.prog 125 = true := by kernel_rfl
theorem ct130 : cellTy Try.prog 130 = true := by kernel_rfl
theorem ct131 : cellTy Try.prog 131 = true := by kernel_rfl
theorem ct3 : cellTy Try.prog 3 = true := by kernel_rfl
theorem el125 : elemIs Try.prog 125 = some (130, 1) := by kernel_rfl
theorem el135 : elemIs Try.prog 135 = some (137, 2) := by kernel_rfl
theorem fo127_0 : fieldOff Try.prog 127 0 = some 0 := by kernel_rfl
theorem fo133_0 : fieldOff Try.prog 133 0 = some 0 := by kernel_rfl
theorem fo133_1 : fieldOff Try.prog 133 1 = some 11 := by kernel_rfl
theorem fo133_2 : fieldOff Try.prog 133 2 = some 12 := by kernel_rfl
theorem fo137_0 : fieldOff Try.prog 137 0 = some 0 := by kernel_rfl
theorem fo137_1 : fieldOff Try.prog 137 1 = some 1 := by kernel_rfl
theorem mp131 : Try.prog.underlying 131 = some (.map 31 135) := by kernel_rfl
theorem sz137 : sizeIs Try.prog 137 = some 2 := by kernel_rfl
theorem u_57 : Try.prog.underlying 57 = some (.pointer 127) := by kernel_rfl
theorem zr135 : zeroIs Try.prog 135 = some (.slice none 0 0) := by kernel_rfl
theorem zr137 : zeroIs Try.prog 137 = some (.agg #[.int .i64 0, .int .i64 0]) := by kernel_rfl

theorem run0 {w w' : World} {Bs : List Asn} (r : Run w w' [] Bs) : Fr0 w w' := r.fr.mono fun k _ c => by simp [star, fps] at c
theorem first_rank {w : World} {b o : Nat} {x y : Value} (h : Seg w b (o + 0 * 2) [x, y]) : w.cell? ⟨b, o + (0 : Int).toNat * 2 + 1, none⟩ = some y := h.one 1 rfl
theorem first_id {w : World} {b o : Nat} {x y : Value} (h : Seg w b (o + 0 * 2) [x, y]) : w.cell? ⟨b, o + (0 : Int).toNat * 2 + 0, none⟩ = some x := h.one 0 rfl

theorem find_does {T : TabSt} {h : Hdr} (w : World) (hh : h.wf) (H : Holds w (tabPieces T)) (inv : TInv T) (hn : T.rows.length ≤ 100000) (hmw : ∀ x ∈ T.rows, x.mask.wf ∧ ∀ b ∈ x.bks, b.1.wf) :
    Does Try.prog 29 [.pointer (some ⟨T.bt, 0, none⟩), .agg (h.cells).toArray] w fun v w' => (∃ b, Top T.atl h (fun _ => True) b ∧ v = .tuple #[.int .i64 b.id, .bool (decide (b.id > 0))]) ∧ Fr0 w w' := by
  have htab : Bk w T.bt 127 (tabCells T.vrows T.mt T.last) := H.get 0 rfl
  have hown := Tc.own_rows.1 (H.get 2 rfl)
  have hrow : ∀ x ∈ T.rows, (rowA x).ok w := fun x hx => (H.get 3 rfl) (rowA x) (List.mem_map.2 ⟨x, hx, rfl⟩)
  obtain ⟨pv, cv, hv, hcap⟩ := hown.shape
  have hrd := hown.rd
  rw [hv] at htab hrd
  refine Does.enter Try.func29 rfl rfl ?_
  show CW _ _ _ _ 86 [] [(0, .pointer (some ⟨T.bt, 0, none⟩)), (1, .agg (h.cells).toArray)] w
  refine CW.seq ?_
  refine CW.region ?_
  refine OW.boxA rfl rfl ?_
  intro b3 w1 n1
  refine OW.assign rfl rfl ?_
  refine OW.assign rfl rfl ?_
  refine OW.nil ?_
  refine NX.seq ?_
  refine CW.scope ?_
  refine CW.seq ?_
  refine CW.seq ?_
  refine CW.region ?_
  refine OW.move rfl rfl ?_
  refine OW.eqlPtrNil rfl u_57 rfl rfl ?_
  refine OW.slot (s := 11) rfl (show _ = Value.bool false from rfl) ?_
  refine OW.nil ?_
  refine NX.seq ?_
  refine CW.condF rfl ?_
  refine CW.skip ?_
  refine NX.seq ?_
  refine CW.seq ?_
  refine CW.region ?_
  refine OW.alloc rfl zr137 ?_
  intro b6 w2 n2
  have r1 : Run w w2 [] [pts b6 137 [.int .i64 0, .int .i64 0], pts b3 31 h.cells] := ((Run.start Holds.nil).newPts n1).newPts (cs := [.int .i64 0, .int .i64 0]) n2
  have f2 : Fr0 w w2 := n1.fr.trans n2.fr
  refine OW.nil ?_
  refine NX.seq ?_
  refine CW.seq ?_
  refine CW.label ?_
  refine NX.seq ?_
  refine CW.seq ?_
  refine CW.seq ?_
  refine CW.region ?_
  refine OW.move rfl rfl ?_
  refine OW.nilCheck rfl rfl ?_
  refine OW.fieldAddr rfl fo127_0 rfl ?_
  refine OW.load1 rfl ct125 rfl ((htab.frame f2 id).cell (o := 0) rfl) ?_
  refine OW.len rfl el125 rfl ?_
  refine OW.move rfl rfl ?_
  refine OW.nil ?_
  refine NX.seq ?_
  refine CW.block ?_
  refine CW.loop (α := Nat × In) (fun s : Nat × In => [(0, .pointer (some ⟨T.bt, 0, none⟩)), (3, .pointer (some ⟨b3, 0, none⟩)), (6, .pointer (some ⟨b6, 0, none⟩)), (15, .slice pv T.rows.length cv), (16, .int .i64 ((T.rows.length : Nat) : Int)), (17, .int .i64 ((s.1 : Nat) : Int))]) (fun (s : Nat × In) U => s.1 ≤ T.rows.length ∧ Run w U [] [pts b6 137 [.int .i64 s.2.id, .int .i64 s.2.rank], pts b3 31 h.cells] ∧ Top T.atl h (fun y => y.2.mat.mask ∈ (T.rows.take s.1).map (·.mask)) s.2) (fun s => T.rows.length - s.1) (0, ⟨0, 0⟩) (Sub.cons rfl (Sub.cons rfl (Sub.cons rfl (Sub.cons rfl (Sub.cons rfl (Sub.cons rfl (Sub.nil _))))))) ⟨Nat.zero_le _, r1, .inl ⟨rfl, fun y _ hq => by simp at hq⟩⟩ ?_
  rintro ⟨j, b⟩ U ⟨hj, r, ht⟩
  refine CW.seq ?_
  refine CW.region ?_
  refine OW.lss rfl rfl rfl ?_
  refine OW.nil ?_
  refine NX.seq ?_
  refine CW.seq ?_
  refine CW.cond rfl (fun hlt => ?_) (fun hlt => ?_)
  · simp only at hj r ht
    have hjl : j < T.rows.length := by omega
    obtain ⟨x, hx1, hx2⟩ := getL hjl
    have hxm : x ∈ T.rows := List.mem_of_getElem? hx2
    obtain ⟨bs, os, hps, hrs⟩ := hrd.at' hjl
    subst hps
    obtain ⟨_, sgx, rfl⟩ := hrs j x hx2
    have g := run0 r
    have hbx : Bk w x.ptr 133 (rowCells x) := hrow x hxm _ (List.mem_cons_self ..)
    have hmx : MapBk w x.mp hdrK (bkMap x.bks) := hrow x hxm (mapA x.mp hdrK (bkMap x.bks)) (by simp [rowPieces])
    have htk : (T.rows.take (j + 1)).map (·.mask) = (T.rows.take j).map (·.mask) ++ [x.mask] := by rw [List.take_succ_eq_append_getElem hjl, ← hx1, List.map_append]; rfl
    refine CW.skip ?_
    refine NX.seq ?_
    refine CW.seq ?_
    refine CW.block ?_
    refine CW.seq ?_
    refine CW.region ?_
    refine OW.indexAddr rfl el125 rfl rfl (⟨by omega, by omega⟩) ?_
    refine OW.load1 rfl ct130 rfl ((sgx.frame g id).one 0 rfl) ?_
    refine OW.assign rfl rfl ?_
    refine OW.nil ?_
    refine NX.seq ?_
    refine CW.seq ?_
    refine CW.seq ?_
    refine CW.drawY [(0, false), (1, false), (2, false), (3, false), (4, false), (5, false), (6, false), (7, false), (8, false), (9, false)] [10, 11] (fun z => Fr0 U z) MIX (by kernel_rfl) (fun _ h => h) ?_
    intro z1 hz1
    refine XW.val rfl rfl (fun zw hz => OW.fieldAddr rfl fo137_0 rfl (OW.nil NX.calm)) ?_
    refine XW.val rfl rfl (fun zw hz => OW.load1 rfl ct3 rfl (((r.get 0 rfl : Bk _ _ _ _).frame hz id).cell (o := 0) rfl) (OW.nil NX.calm)) ?_
    refine XW.val rfl rfl (fun zw hz => OW.gtr rfl rfl rfl (OW.nil NX.calm)) ?_
    refine XW.val rfl rfl (fun zw hz => OW.move rfl rfl (OW.nil NX.calm)) ?_
    refine XW.ways (s := 24) rfl (fun hb0 => ?_) (fun hb0 => ?_)
    · refine XW.val rfl rfl (fun zw hz => OW.gyes rfl rfl (OW.move rfl rfl (OW.nil NX.calm))) ?_
      refine XW.val rfl rfl (fun zw hz => OW.gyes rfl rfl (OW.nilCheck rfl rfl (OW.nil NX.calm))) ?_
      refine XW.val rfl rfl (fun zw hz => OW.gyes rfl rfl (OW.fieldAddr rfl fo133_2 rfl (OW.nil NX.calm))) ?_
      refine XW.val rfl rfl (fun zw hz => OW.gyes rfl rfl (OW.load1 rfl ct3 rfl (((hbx.frame g id).frame hz id).cell (o := 12) rfl) (OW.nil NX.calm))) ?_
      refine XW.val rfl rfl (fun zw hz => OW.gyes rfl rfl (OW.fieldAddr rfl fo137_1 rfl (OW.nil NX.calm))) ?_
      refine XW.val rfl rfl (fun zw hz => OW.gyes rfl rfl (OW.load1 rfl ct3 rfl (((r.get 0 rfl : Bk _ _ _ _).frame hz id).cell (o := 1) rfl) (OW.nil NX.calm))) ?_
      refine XW.tail ?_
      refine OW.gyes rfl rfl ?_
      refine OW.lss rfl rfl rfl ?_
      refine OW.pickT rfl rfl rfl ?_
      refine OW.nil ?_
      refine NX.seq ?_
      refine CW.cond rfl (fun hlt2 => ?_) (fun hlt2 => ?_)
      · have htop : Top T.atl h (fun _ => True) b := top_stop inv hx2 ht hb0 hlt2
        have rf := r.fr0 hz1
        have gf := run0 rf
        refine CW.exit ?_
        refine NX.thenExit ?_
        refine NX.blockNe rfl ?_
        refine NX.thenExit ?_
        refine NX.thenExit ?_
        refine NX.blockEq ?_
        refine NX.seq ?_
        refine CW.seq ?_
        refine CW.drawY [(0, false), (1, false), (2, false), (3, false), (4, false), (5, false)] [6] (fun z => Fr0 z1 z) MIX (by kernel_rfl) (fun _ h => h) ?_
        intro z2 hz2
        refine XW.val rfl rfl (fun zw hz => OW.fieldAddr rfl fo137_0 rfl (OW.nil NX.calm)) ?_
        refine XW.val rfl rfl (fun zw hz => OW.load1 rfl ct3 rfl (((rf.get 0 rfl : Bk _ _ _ _).frame hz id).cell (o := 0) rfl) (OW.nil NX.calm)) ?_
        refine XW.val rfl rfl (fun zw hz => OW.fieldAddr rfl fo137_0 rfl (OW.nil NX.calm)) ?_
        refine XW.val rfl rfl (fun zw hz => OW.load1 rfl ct3 rfl (((rf.get 0 rfl : Bk _ _ _ _).frame hz id).cell (o := 0) rfl) (OW.nil NX.calm)) ?_
        refine XW.val rfl rfl (fun zw hz => OW.gtr rfl rfl rfl (OW.nil NX.calm)) ?_
        refine XW.val rfl rfl (fun zw hz => OW.assign rfl rfl (OW.nil NX.calm)) ?_
        refine XW.tail ?_
        refine OW.assign rfl rfl ?_
        refine OW.nil ?_
        refine NX.seq ?_
        refine CW.ret ?_
        refine NX.scopeRet ?_
        exact NX.ret2 rfl rfl rfl (⟨⟨b, htop, rfl⟩, gf.trans hz2⟩)
      · have r2 := r.fr0 hz1
        have g2 := run0 r2
        refine CW.skip ?_
        refine NX.seq ?_
        refine CW.seq ?_
        refine CW.drawY [(0, false), (1, false), (2, false), (3, false), (4, false), (5, false), (6, false), (7, false), (8, false), (9, true)] [10, 11] (fun z => Fr0 z1 z) MIX (by kernel_rfl) (fun _ h => h) ?_
        intro z2 hz2
        refine XW.val rfl rfl (fun zw hz => OW.move rfl rfl (OW.nil NX.calm)) ?_
        refine XW.val rfl rfl (fun zw hz => OW.nilCheck rfl rfl (OW.nil NX.calm)) ?_
        refine XW.val rfl rfl (fun zw hz => OW.fieldAddr rfl fo133_1 rfl (OW.nil NX.calm)) ?_
        refine XW.val rfl rfl (fun zw hz => OW.load1 rfl ct131 rfl (((hbx.frame g2 id).frame hz id).cell (o := 11) rfl) (OW.nil NX.calm)) ?_
        refine XW.val rfl rfl (fun zw hz => OW.loadA rfl ag31 rfl (((r2.get 1 rfl : Bk _ _ _ _).frame hz id).seg) (rfl) (OW.nil NX.calm)) ?_
        refine XW.val rfl rfl (fun zw hz => OW.move rfl rfl (OW.nil NX.calm)) ?_
        refine XW.val rfl rfl (fun zw hz => OW.nilCheck rfl rfl (OW.nil NX.calm)) ?_
        refine XW.val rfl rfl (fun zw hz => OW.fieldAddr rfl fo133_0 rfl (OW.nil NX.calm)) ?_
        refine XW.val rfl rfl (fun zw hz => OW.loadA rfl ag31 rfl (((hbx.frame g2 id).frame hz id).segAt 0 x.mask.cells (fun j v e => Tb.row_mask j v e)) (rfl) (OW.nil NX.calm)) ?_
        refine XW.does ?_
        refine OW.call rfl rfl cl71 (Tb.under_does hh (hmw x hxm).1 _) ?_
        rintro _ w5 ⟨rfl, f5⟩
        refine OW.nil (NX.does (hz2.trans f5) ?_)
        refine XW.tail ?_
        have g5 : Fr0 w w5 := g2.trans (hz2.trans f5)
        have r3 := r2.fr0 (hz2.trans f5)
        refine OW.lookup (under h x.mask) rfl mp131 Td.hdrKey' zr135 rfl rfl (Hdr.lits_wf (under_wf hh)) (fun p hp => by
            obtain ⟨b, hb, rfl⟩ := List.mem_map.1 hp
            exact Hdr.lits_wf ((hmw x hxm).2 b hb)) (hmx.frame g5 id) ?_
        refine OW.slot (s := 43) rfl (show _ = ((kvGetG (under h x.mask) x.bks).getD nilB).v from Td.bkt_v _) ?_
        rcases hg : kvGetG (under h x.mask) x.bks with _ | bk
        · refine OW.assign rfl rfl ?_
          refine OW.nil ?_
          refine NX.seq ?_
          refine CW.seq ?_
          refine CW.seq ?_
          refine CW.region ?_
          refine OW.move rfl rfl ?_
          refine OW.len rfl el135 rfl ?_
          refine OW.eql rfl rfl rfl ?_
          refine OW.nil ?_
          refine NX.seq ?_
          refine CW.cond rfl (fun hl0 => ?_) (fun hl0 => ?_)
          · refine CW.exit ?_
            refine NX.thenExit ?_
            refine NX.blockEq ?_
            refine NX.seq ?_
            refine CW.region ?_
            refine OW.add rfl rfl rfl (by omega) ?_
            refine OW.move rfl rfl ?_
            refine OW.nil ?_
            exact NX.loop ((j + 1, b)) ((Sub.cons rfl (Sub.cons rfl (Sub.cons rfl (Sub.cons rfl (Sub.cons rfl (Sub.cons rfl (Sub.nil _)))))))) (⟨hjl, r3, by simp only; rw [htk]; exact top_none inv hxm hg ht⟩) (by simp only; omega)
          · exact absurd rfl hl0
        · have hbo : OwnSl 137 2 inR (fun _ => False) w bk.v bk.l := hrow x hxm (star (x.bks.map bkA)) (by simp [rowPieces]) (bkA (under h x.mask, bk)) (List.mem_map.2 ⟨_, kvGetG_mem hg, rfl⟩)
          obtain ⟨hne, _, _⟩ := (inv.rows x hxm).bucket _ (kvGetG_mem hg)
          simp only at hne
          obtain ⟨pb, cb, hbv, hcb⟩ := hbo.shape
          have hbr := hbo.rd
          have h0l : 0 < bk.l.length := List.length_pos_iff.2 hne
          obtain ⟨f, hf1, hf2⟩ := getL h0l
          rw [hbv] at hbr
          obtain ⟨bb, ob, hpb, hrb⟩ := hbr.at' h0l
          subst hpb
          obtain ⟨_, sgf, rfl, hfo⟩ := hrb 0 f hf2
          refine OW.slot (s := 43) rfl (show _ = Value.slice (some ⟨bb, ob, none⟩) bk.l.length cb from hbv) ?_
          refine OW.assign rfl rfl ?_
          refine OW.nil ?_
          refine NX.seq ?_
          refine CW.seq ?_
          refine CW.seq ?_
          refine CW.region ?_
          refine OW.move rfl rfl ?_
          refine OW.len rfl el135 rfl ?_
          refine OW.eql rfl rfl rfl ?_
          refine OW.nil ?_
          refine NX.seq ?_
          refine CW.cond rfl (fun hl0 => ?_) (fun hl0 => ?_)
          · omega
          · refine CW.skip ?_
            refine NX.seq ?_
            refine CW.seq ?_
            refine CW.drawY [(0, false), (1, false), (2, false), (3, false), (4, false), (5, false), (6, false), (7, false), (8, false), (9, false), (10, false), (11, false), (12, false), (13, false), (14, false), (15, false), (16, false), (17, false), (18, false), (19, false), (20, false), (21, false), (22, false), (23, false), (24, false), (25, false), (26, false)] [27, 28, 29] (fun z => Fr0 w5 z) MIX (by kernel_rfl) (fun _ h => h) ?_
            intro z3 hz3
            refine XW.val rfl rfl (fun zw hz => OW.fieldAddr rfl fo137_0 rfl (OW.nil NX.calm)) ?_
            refine XW.val rfl rfl (fun zw hz => OW.load1 rfl ct3 rfl (((r3.get 0 rfl : Bk _ _ _ _).frame hz id).cell (o := 0) rfl) (OW.nil NX.calm)) ?_
            refine XW.val rfl rfl (fun zw hz => OW.eql rfl rfl rfl (OW.nil NX.calm)) ?_
            refine XW.val rfl rfl (fun zw hz => OW.move rfl rfl (OW.nil NX.calm)) ?_
            refine XW.ways (s := 50) rfl (fun hk0 => ?_) (fun hk0 => ?_)
            · refine XW.gno rfl rfl rfl rfl ?_
              refine XW.gno rfl rfl rfl rfl ?_
              refine XW.gno rfl rfl rfl rfl ?_
              refine XW.gno rfl rfl rfl rfl ?_
              refine XW.gno rfl rfl rfl rfl ?_
              refine XW.gno rfl rfl rfl rfl ?_
              refine XW.gno rfl rfl rfl rfl ?_
              refine XW.val rfl rfl (fun zw hz => OW.pickT rfl rfl rfl (OW.nil NX.calm)) ?_
              refine XW.val rfl rfl (fun zw hz => OW.move rfl rfl (OW.nil NX.calm)) ?_
              refine XW.gno rfl rfl rfl rfl ?_
              refine XW.gno rfl rfl rfl rfl ?_
              refine XW.gno rfl rfl rfl rfl ?_
              refine XW.gno rfl rfl rfl rfl ?_
              refine XW.gno rfl rfl rfl rfl ?_
              refine XW.gno rfl rfl rfl rfl ?_
              refine XW.gno rfl rfl rfl rfl ?_
              refine XW.gno rfl rfl rfl rfl ?_
              refine XW.gnoU rfl rfl rfl ?_
              refine XW.gnoU rfl rfl rfl ?_
              refine XW.gnoU rfl rfl rfl ?_
              refine XW.gnoU rfl rfl rfl ?_
              refine XW.gnoU rfl rfl rfl ?_
              refine XW.gnoU rfl rfl rfl ?_
              refine XW.tail ?_
              refine OW.gnoU rfl rfl rfl ?_
              refine OW.gnoD rfl rfl rfl rfl ?_
              refine OW.pickT rfl rfl rfl ?_
              refine OW.nil ?_
              refine NX.seq ?_
              refine CW.condT rfl ?_
              have r4 := r3.fr0 hz3
              have g6 := run0 r4
              refine CW.region ?_
              refine OW.move rfl rfl ?_
              refine OW.indexAddr rfl el135 rfl rfl (⟨by decide, by omega⟩) ?_
              refine OW.loadA rfl ag137 rfl (sgf.frame g6 id) (rfl) ?_
              refine OW.store rfl rfl sz137 ((r4.get 0 rfl : Bk _ _ _ _)) (Nat.le_of_ble_eq_true rfl) (fun x hx => by simp [Value.cells] at hx; rcases hx with rfl | rfl <;> rfl) ?_
              intro w7 f7 s7 b7
              have r5 := r4.put 0 rfl (Moves.pts (cs' := [.int .i64 f.id, .int .i64 f.rank]) f7 b7)
              refine OW.nil ?_
              refine NX.blockN ?_
              refine NX.seq ?_
              refine CW.region ?_
              refine OW.add rfl rfl rfl (by omega) ?_
              refine OW.move rfl rfl ?_
              refine OW.nil ?_
              exact NX.loop ((j + 1, f)) ((Sub.cons rfl (Sub.cons rfl (Sub.cons rfl (Sub.cons rfl (Sub.cons rfl (Sub.cons rfl (Sub.nil _)))))))) (⟨hjl, r5, by simp only; rw [htk]; exact top_new inv hxm hg hf2 ht (.inl hk0)⟩) (by simp only; omega)
            · refine XW.val rfl rfl (fun zw hz => OW.gyes rfl rfl (OW.move rfl rfl (OW.nil NX.calm))) ?_
              refine XW.val rfl rfl (fun zw hz => OW.gyes rfl rfl (OW.indexAddr rfl el135 rfl rfl (⟨by decide, by omega⟩) (OW.nil NX.calm))) ?_
              refine XW.val rfl rfl (fun zw hz => OW.gyes rfl rfl (OW.fieldAddr rfl fo137_1 rfl (OW.nil NX.calm))) ?_
              refine XW.val rfl rfl (fun zw hz => OW.gyes rfl rfl (OW.load1 rfl ct3 rfl (first_rank ((sgf.frame g5 id).frame hz id)) (OW.nil NX.calm))) ?_
              refine XW.val rfl rfl (fun zw hz => OW.gyes rfl rfl (OW.fieldAddr rfl fo137_1 rfl (OW.nil NX.calm))) ?_
              refine XW.val rfl rfl (fun zw hz => OW.gyes rfl rfl (OW.load1 rfl ct3 rfl (((r3.get 0 rfl : Bk _ _ _ _).frame hz id).cell (o := 1) rfl) (OW.nil NX.calm))) ?_
              refine XW.val rfl rfl (fun zw hz => OW.gyes rfl rfl (OW.gtr rfl rfl rfl (OW.nil NX.calm))) ?_
              refine XW.val rfl rfl (fun zw hz => OW.pickF rfl rfl rfl (OW.nil NX.calm)) ?_
              refine XW.val rfl rfl (fun zw hz => OW.move rfl rfl (OW.nil NX.calm)) ?_
              refine XW.ways (s := 59) rfl (fun hk1 => ?_) (fun hk1 => ?_)
              · refine XW.gno rfl rfl rfl rfl ?_
                refine XW.gno rfl rfl rfl rfl ?_
                refine XW.gno rfl rfl rfl rfl ?_
                refine XW.gno rfl rfl rfl rfl ?_
                refine XW.gno rfl rfl rfl rfl ?_
                refine XW.gno rfl rfl rfl rfl ?_
                refine XW.gno rfl rfl rfl rfl ?_
                refine XW.gno rfl rfl rfl rfl ?_
                refine XW.gnoU rfl rfl rfl ?_
                refine XW.gnoU rfl rfl rfl ?_
                refine XW.gnoU rfl rfl rfl ?_
                refine XW.gnoU rfl rfl rfl ?_
                refine XW.gnoU rfl rfl rfl ?_
                refine XW.gnoU rfl rfl rfl ?_
                refine XW.tail ?_
                refine OW.gnoU rfl rfl rfl ?_
                refine OW.gnoD rfl rfl rfl rfl ?_
                refine OW.pickT rfl rfl rfl ?_
                refine OW.nil ?_
                refine NX.seq ?_
                refine CW.condT rfl ?_
                have r4 := r3.fr0 hz3
                have g6 := run0 r4
                refine CW.region ?_
                refine OW.move rfl rfl ?_
                refine OW.indexAddr rfl el135 rfl rfl (⟨by decide, by omega⟩) ?_
                refine OW.loadA rfl ag137 rfl (sgf.frame g6 id) (rfl) ?_
                refine OW.store rfl rfl sz137 ((r4.get 0 rfl : Bk _ _ _ _)) (Nat.le_of_ble_eq_true rfl) (fun x hx => by simp [Value.cells] at hx; rcases hx with rfl | rfl <;> rfl) ?_
                intro w7 f7 s7 b7
                have r5 := r4.put 0 rfl (Moves.pts (cs' := [.int .i64 f.id, .int .i64 f.rank]) f7 b7)
                refine OW.nil ?_
                refine NX.blockN ?_
                refine NX.seq ?_
                refine CW.region ?_
                refine OW.add rfl rfl rfl (by omega) ?_
                refine OW.move rfl rfl ?_
                refine OW.nil ?_
                exact NX.loop ((j + 1, f)) ((Sub.cons rfl (Sub.cons rfl (Sub.cons rfl (Sub.cons rfl (Sub.cons rfl (Sub.cons rfl (Sub.nil _)))))))) (⟨hjl, r5, by simp only; rw [htk]; exact top_new inv hxm hg hf2 ht (.inr (.inl hk1))⟩) (by simp only; omega)
              · refine XW.val rfl rfl (fun zw hz => OW.gyes rfl rfl (OW.move rfl rfl (OW.nil NX.calm))) ?_
                refine XW.val rfl rfl (fun zw hz => OW.gyes rfl rfl (OW.indexAddr rfl el135 rfl rfl (⟨by decide, by omega⟩) (OW.nil NX.calm))) ?_
                refine XW.val rfl rfl (fun zw hz => OW.gyes rfl rfl (OW.fieldAddr rfl fo137_1 rfl (OW.nil NX.calm))) ?_
                refine XW.val rfl rfl (fun zw hz => OW.gyes rfl rfl (OW.load1 rfl ct3 rfl (first_rank ((sgf.frame g5 id).frame hz id)) (OW.nil NX.calm))) ?_
                refine XW.val rfl rfl (fun zw hz => OW.gyes rfl rfl (OW.fieldAddr rfl fo137_1 rfl (OW.nil NX.calm))) ?_
                refine XW.val rfl rfl (fun zw hz => OW.gyes rfl rfl (OW.load1 rfl ct3 rfl (((r3.get 0 rfl : Bk _ _ _ _).frame hz id).cell (o := 1) rfl) (OW.nil NX.calm))) ?_
                refine XW.val rfl rfl (fun zw hz => OW.gyes rfl rfl (OW.eql rfl rfl rfl (OW.nil NX.calm))) ?_
                refine XW.val rfl rfl (fun zw hz => OW.gyes rfl rfl (OW.move rfl rfl (OW.nil NX.calm))) ?_
                refine XW.ways (s := 67) rfl (fun hk2 => ?_) (fun hk2 => ?_)
                · refine XW.val rfl rfl (fun zw hz => OW.gyes rfl rfl (OW.move rfl rfl (OW.nil NX.calm))) ?_
                  refine XW.val rfl rfl (fun zw hz => OW.gyes rfl rfl (OW.indexAddr rfl el135 rfl rfl (⟨by decide, by omega⟩) (OW.nil NX.calm))) ?_
                  refine XW.val rfl rfl (fun zw hz => OW.gyes rfl rfl (OW.fieldAddr rfl fo137_0 rfl (OW.nil NX.calm))) ?_
                  refine XW.val rfl rfl (fun zw hz => OW.gyes rfl rfl (OW.load1 rfl ct3 rfl (first_id ((sgf.frame g5 id).frame hz id)) (OW.nil NX.calm))) ?_
                  refine XW.val rfl rfl (fun zw hz => OW.gyes rfl rfl (OW.fieldAddr rfl fo137_0 rfl (OW.nil NX.calm))) ?_
                  refine XW.val rfl rfl (fun zw hz => OW.gyes rfl rfl (OW.load1 rfl ct3 rfl (((r3.get 0 rfl : Bk _ _ _ _).frame hz id).cell (o := 0) rfl) (OW.nil NX.calm))) ?_
                  refine XW.tail ?_
                  refine OW.gyes rfl rfl ?_
                  refine OW.lss rfl rfl rfl ?_
                  refine OW.gyes rfl rfl ?_
                  refine OW.pickT rfl rfl rfl ?_
                  refine OW.pickF rfl rfl rfl ?_
                  refine OW.nil ?_
                  refine NX.seq ?_
                  refine CW.cond rfl (fun hk3 => ?_) (fun hk3 => ?_)
                  · have r4 := r3.fr0 hz3
                    have g6 := run0 r4
                    refine CW.region ?_
                    refine OW.move rfl rfl ?_
                    refine OW.indexAddr rfl el135 rfl rfl (⟨by decide, by omega⟩) ?_
                    refine OW.loadA rfl ag137 rfl (sgf.frame g6 id) (rfl) ?_
                    refine OW.store rfl rfl sz137 ((r4.get 0 rfl : Bk _ _ _ _)) (Nat.le_of_ble_eq_true rfl) (fun x hx => by simp [Value.cells] at hx; rcases hx with rfl | rfl <;> rfl) ?_
                    intro w7 f7 s7 b7
                    have r5 := r4.put 0 rfl (Moves.pts (cs' := [.int .i64 f.id, .int .i64 f.rank]) f7 b7)
                    refine OW.nil ?_
                    refine NX.blockN ?_
                    refine NX.seq ?_
                    refine CW.region ?_
                    refine OW.add rfl rfl rfl (by omega) ?_
                    refine OW.move rfl rfl ?_
                    refine OW.nil ?_
                    exact NX.loop ((j + 1, f)) ((Sub.cons rfl (Sub.cons rfl (Sub.cons rfl (Sub.cons rfl (Sub.cons rfl (Sub.cons rfl (Sub.nil _)))))))) (⟨hjl, r5, by simp only; rw [htk]; exact top_new inv hxm hg hf2 ht (.inr (.inr ⟨hk2, hk3⟩))⟩) (by simp only; omega)
                  · refine CW.skip ?_
                    refine NX.blockN ?_
                    refine NX.seq ?_
                    refine CW.region ?_
                    refine OW.add rfl rfl rfl (by omega) ?_
                    refine OW.move rfl rfl ?_
                    refine OW.nil ?_
                    exact NX.loop ((j + 1, b)) ((Sub.cons rfl (Sub.cons rfl (Sub.cons rfl (Sub.cons rfl (Sub.cons rfl (Sub.cons rfl (Sub.nil _)))))))) (⟨hjl, r3.fr0 hz3, by simp only; rw [htk]; exact top_old inv hxm hg hf2 ht hk0 (by omega) (by omega)⟩) (by simp only; omega)
                · refine XW.gno rfl rfl rfl rfl ?_
                  refine XW.gno rfl rfl rfl rfl ?_
                  refine XW.gno rfl rfl rfl rfl ?_
                  refine XW.gno rfl rfl rfl rfl ?_
                  refine XW.gno rfl rfl rfl rfl ?_
                  refine XW.gno rfl rfl rfl rfl ?_
                  refine XW.tail ?_
                  refine OW.gnoD rfl rfl rfl rfl ?_
                  refine OW.gyes rfl rfl ?_
                  refine OW.pickF rfl rfl rfl ?_
                  refine OW.pickF rfl rfl rfl ?_
                  refine OW.nil ?_
                  refine NX.seq ?_
                  refine CW.condF rfl ?_
                  refine CW.skip ?_
                  refine NX.blockN ?_
                  refine NX.seq ?_
                  refine CW.region ?_
                  refine OW.add rfl rfl rfl (by omega) ?_
                  refine OW.move rfl rfl ?_
                  refine OW.nil ?_
                  exact NX.loop ((j + 1, b)) ((Sub.cons rfl (Sub.cons rfl (Sub.cons rfl (Sub.cons rfl (Sub.cons rfl (Sub.cons rfl (Sub.nil _)))))))) (⟨hjl, r3.fr0 hz3, by simp only; rw [htk]; exact top_old inv hxm hg hf2 ht hk0 (by omega) (by omega)⟩) (by simp only; omega)
    · refine XW.gno rfl rfl rfl rfl ?_
      refine XW.gno rfl rfl rfl rfl ?_
      refine XW.gno rfl rfl rfl rfl ?_
      refine XW.gno rfl rfl rfl rfl ?_
      refine XW.gno rfl rfl rfl rfl ?_
      refine XW.gno rfl rfl rfl rfl ?_
      refine XW.tail ?_
      refine OW.gnoD rfl rfl rfl rfl ?_
      refine OW.pickF rfl rfl rfl ?_
      refine OW.nil ?_
      refine NX.seq ?_
      refine CW.condF rfl ?_
      have r2 := r.fr0 hz1
      have g2 := run0 r2
      refine CW.skip ?_
      refine NX.seq ?_
      refine CW.seq ?_
      refine CW.drawY [(0, false), (1, false), (2, false), (3, false), (4, false), (5, false), (6, false), (7, false), (8, false), (9, true)] [10, 11] (fun z => Fr0 z1 z) MIX (by kernel_rfl) (fun _ h => h) ?_
      intro z2 hz2
      refine XW.val rfl rfl (fun zw hz => OW.move rfl rfl (OW.nil NX.calm)) ?_
      refine XW.val rfl rfl (fun zw hz => OW.nilCheck rfl rfl (OW.nil NX.calm)) ?_
      refine XW.val rfl rfl (fun zw hz => OW.fieldAddr rfl fo133_1 rfl (OW.nil NX.calm)) ?_
      refine XW.val rfl rfl (fun zw hz => OW.load1 rfl ct131 rfl (((hbx.frame g2 id).frame hz id).cell (o := 11) rfl) (OW.nil NX.calm)) ?_
      refine XW.val rfl rfl (fun zw hz => OW.loadA rfl ag31 rfl (((r2.get 1 rfl : Bk _ _ _ _).frame hz id).seg) (rfl) (OW.nil NX.calm)) ?_
      refine XW.val rfl rfl (fun zw hz => OW.move rfl rfl (OW.nil NX.calm)) ?_
      refine XW.val rfl rfl (fun zw hz => OW.nilCheck rfl rfl (OW.nil NX.calm)) ?_
      refine XW.val rfl rfl (fun zw hz => OW.fieldAddr rfl fo133_0 rfl (OW.nil NX.calm)) ?_
      refine XW.val rfl rfl (fun zw hz => OW.loadA rfl ag31 rfl (((hbx.frame g2 id).frame hz id).segAt 0 x.mask.cells (fun j v e => Tb.row_mask j v e)) (rfl) (OW.nil NX.calm)) ?_
      refine XW.does ?_
      refine OW.call rfl rfl cl71 (Tb.under_does hh (hmw x hxm).1 _) ?_
      rintro _ w5 ⟨rfl, f5⟩
      refine OW.nil (NX.does (hz2.trans f5) ?_)
      refine XW.tail ?_
      have g5 : Fr0 w w5 := g2.trans (hz2.trans f5)
      have r3 := r2.fr0 (hz2.trans f5)
      refine OW.lookup (under h x.mask) rfl mp131 Td.hdrKey' zr135 rfl rfl (Hdr.lits_wf (under_wf hh)) (fun p hp => by
          obtain ⟨b, hb, rfl⟩ := List.mem_map.1 hp
          exact Hdr.lits_wf ((hmw x hxm).2 b hb)) (hmx.frame g5 id) ?_
      refine OW.slot (s := 43) rfl (show _ = ((kvGetG (under h x.mask) x.bks).getD nilB).v from Td.bkt_v _) ?_
      rcases hg : kvGetG (under h x.mask) x.bks with _ | bk
      · refine OW.assign rfl rfl ?_
        refine OW.nil ?_
        refine NX.seq ?_
        refine CW.seq ?_
        refine CW.seq ?_
        refine CW.region ?_
        refine OW.move rfl rfl ?_
        refine OW.len rfl el135 rfl ?_
        refine OW.eql rfl rfl rfl ?_
        refine OW.nil ?_
        refine NX.seq ?_
        refine CW.cond rfl (fun hl0 => ?_) (fun hl0 => ?_)
        · refine CW.exit ?_
          refine NX.thenExit ?_
          refine NX.blockEq ?_
          refine NX.seq ?_
          refine CW.region ?_
          refine OW.add rfl rfl rfl (by omega) ?_
          refine OW.move rfl rfl ?_
          refine OW.nil ?_
          exact NX.loop ((j + 1, b)) ((Sub.cons rfl (Sub.cons rfl (Sub.cons rfl (Sub.cons rfl (Sub.cons rfl (Sub.cons rfl (Sub.nil _)))))))) (⟨hjl, r3, by simp only; rw [htk]; exact top_none inv hxm hg ht⟩) (by simp only; omega)
        · exact absurd rfl hl0
      · have hbo : OwnSl 137 2 inR (fun _ => False) w bk.v bk.l := hrow x hxm (star (x.bks.map bkA)) (by simp [rowPieces]) (bkA (under h x.mask, bk)) (List.mem_map.2 ⟨_, kvGetG_mem hg, rfl⟩)
        obtain ⟨hne, _, _⟩ := (inv.rows x hxm).bucket _ (kvGetG_mem hg)
        simp only at hne
        obtain ⟨pb, cb, hbv, hcb⟩ := hbo.shape
        have hbr := hbo.rd
        have h0l : 0 < bk.l.length := List.length_pos_iff.2 hne
        obtain ⟨f, hf1, hf2⟩ := getL h0l
        rw [hbv] at hbr
        obtain ⟨bb, ob, hpb, hrb⟩ := hbr.at' h0l
        subst hpb
        obtain ⟨_, sgf, rfl, hfo⟩ := hrb 0 f hf2
        refine OW.slot (s := 43) rfl (show _ = Value.slice (some ⟨bb, ob, none⟩) bk.l.length cb from hbv) ?_
        refine OW.assign rfl rfl ?_
        refine OW.nil ?_
        refine NX.seq ?_
        refine CW.seq ?_
        refine CW.seq ?_
        refine CW.region ?_
        refine OW.move rfl rfl ?_
        refine OW.len rfl el135 rfl ?_
        refine OW.eql rfl rfl rfl ?_
        refine OW.nil ?_
        refine NX.seq ?_
        refine CW.cond rfl (fun hl0 => ?_) (fun hl0 => ?_)
        · omega
        · refine CW.skip ?_
          refine NX.seq ?_
          refine CW.seq ?_
          refine CW.drawY [(0, false), (1, false), (2, false), (3, false), (4, false), (5, false), (6, false), (7, false), (8, false), (9, false), (10, false), (11, false), (12, false), (13, false), (14, false), (15, false), (16, false), (17, false), (18, false), (19, false), (20, false), (21, false), (22, false), (23, false), (24, false), (25, false), (26, false)] [27, 28, 29] (fun z => Fr0 w5 z) MIX (by kernel_rfl) (fun _ h => h) ?_
          intro z3 hz3
          refine XW.val rfl rfl (fun zw hz => OW.fieldAddr rfl fo137_0 rfl (OW.nil NX.calm)) ?_
          refine XW.val rfl rfl (fun zw hz => OW.load1 rfl ct3 rfl (((r3.get 0 rfl : Bk _ _ _ _).frame hz id).cell (o := 0) rfl) (OW.nil NX.calm)) ?_
          refine XW.val rfl rfl (fun zw hz => OW.eql rfl rfl rfl (OW.nil NX.calm)) ?_
          refine XW.val rfl rfl (fun zw hz => OW.move rfl rfl (OW.nil NX.calm)) ?_
          refine XW.ways (s := 50) rfl (fun hk0 => ?_) (fun hk0 => ?_)
          · refine XW.gno rfl rfl rfl rfl ?_
            refine XW.gno rfl rfl rfl rfl ?_
            refine XW.gno rfl rfl rfl rfl ?_
            refine XW.gno rfl rfl rfl rfl ?_
            refine XW.gno rfl rfl rfl rfl ?_
            refine XW.gno rfl rfl rfl rfl ?_
            refine XW.gno rfl rfl rfl rfl ?_
            refine XW.val rfl rfl (fun zw hz => OW.pickT rfl rfl rfl (OW.nil NX.calm)) ?_
            refine XW.val rfl rfl (fun zw hz => OW.move rfl rfl (OW.nil NX.calm)) ?_
            refine XW.gno rfl rfl rfl rfl ?_
            refine XW.gno rfl rfl rfl rfl ?_
            refine XW.gno rfl rfl rfl rfl ?_
            refine XW.gno rfl rfl rfl rfl ?_
            refine XW.gno rfl rfl rfl rfl ?_
            refine XW.gno rfl rfl rfl rfl ?_
            refine XW.gno rfl rfl rfl rfl ?_
            refine XW.gno rfl rfl rfl rfl ?_
            refine XW.gnoU rfl rfl rfl ?_
            refine XW.gnoU rfl rfl rfl ?_
            refine XW.gnoU rfl rfl rfl ?_
            refine XW.gnoU rfl rfl rfl ?_
            refine XW.gnoU rfl rfl rfl ?_
            refine XW.gnoU rfl rfl rfl ?_
            refine XW.tail ?_
            refine OW.gnoU rfl rfl rfl ?_
            refine OW.gnoD rfl rfl rfl rfl ?_
            refine OW.pickT rfl rfl rfl ?_
            refine OW.nil ?_
            refine NX.seq ?_
            refine CW.condT rfl ?_
            have r4 := r3.fr0 hz3
            have g6 := run0 r4
            refine CW.region ?_
            refine OW.move rfl rfl ?_
            refine OW.indexAddr rfl el135 rfl rfl (⟨by decide, by omega⟩) ?_
            refine OW.loadA rfl ag137 rfl (sgf.frame g6 id) (rfl) ?_
            refine OW.store rfl rfl sz137 ((r4.get 0 rfl : Bk _ _ _ _)) (Nat.le_of_ble_eq_true rfl) (fun x hx => by simp [Value.cells] at hx; rcases hx with rfl | rfl <;> rfl) ?_
            intro w7 f7 s7 b7
            have r5 := r4.put 0 rfl (Moves.pts (cs' := [.int .i64 f.id, .int .i64 f.rank]) f7 b7)
            refine OW.nil ?_
            refine NX.blockN ?_
            refine NX.seq ?_
            refine CW.region ?_
            refine OW.add rfl rfl rfl (by omega) ?_
            refine OW.move rfl rfl ?_
            refine OW.nil ?_
            exact NX.loop ((j + 1, f)) ((Sub.cons rfl (Sub.cons rfl (Sub.cons rfl (Sub.cons rfl (Sub.cons rfl (Sub.cons rfl (Sub.nil _)))))))) (⟨hjl, r5, by simp only; rw [htk]; exact top_new inv hxm hg hf2 ht (.inl hk0)⟩) (by simp only; omega)
          · refine XW.val rfl rfl (fun zw hz => OW.gyes rfl rfl (OW.move rfl rfl (OW.nil NX.calm))) ?_
            refine XW.val rfl rfl (fun zw hz => OW.gyes rfl rfl (OW.indexAddr rfl el135 rfl rfl (⟨by decide, by omega⟩) (OW.nil NX.calm))) ?_
            refine XW.val rfl rfl (fun zw hz => OW.gyes rfl rfl (OW.fieldAddr rfl fo137_1 rfl (OW.nil NX.calm))) ?_
            refine XW.val rfl rfl (fun zw hz => OW.gyes rfl rfl (OW.load1 rfl ct3 rfl (first_rank ((sgf.frame g5 id).frame hz id)) (OW.nil NX.calm))) ?_
            refine XW.val rfl rfl (fun zw hz => OW.gyes rfl rfl (OW.fieldAddr rfl fo137_1 rfl (OW.nil NX.calm))) ?_
            refine XW.val rfl rfl (fun zw hz => OW.gyes rfl rfl (OW.load1 rfl ct3 rfl (((r3.get 0 rfl : Bk _ _ _ _).frame hz id).cell (o := 1) rfl) (OW.nil NX.calm))) ?_
            refine XW.val rfl rfl (fun zw hz => OW.gyes rfl rfl (OW.gtr rfl rfl rfl (OW.nil NX.calm))) ?_
            refine XW.val rfl rfl (fun zw hz => OW.pickF rfl rfl rfl (OW.nil NX.calm)) ?_
            refine XW.val rfl rfl (fun zw hz => OW.move rfl rfl (OW.nil NX.calm)) ?_
            refine XW.ways (s := 59) rfl (fun hk1 => ?_) (fun hk1 => ?_)
            · refine XW.gno rfl rfl rfl rfl ?_
              refine XW.gno rfl rfl rfl rfl ?_
              refine XW.gno rfl rfl rfl rfl ?_
              refine XW.gno rfl rfl rfl rfl ?_
              refine XW.gno rfl rfl rfl rfl ?_
              refine XW.gno rfl rfl rfl rfl ?_
              refine XW.gno rfl rfl rfl rfl ?_
              refine XW.gno rfl rfl rfl rfl ?_
              refine XW.gnoU rfl rfl rfl ?_
              refine XW.gnoU rfl rfl rfl ?_
              refine XW.gnoU rfl rfl rfl ?_
              refine XW.gnoU rfl rfl rfl ?_
              refine XW.gnoU rfl rfl rfl ?_
              refine XW.gnoU rfl rfl rfl ?_
              refine XW.tail ?_
              refine OW.gnoU rfl rfl rfl ?_
              refine OW.gnoD rfl rfl rfl rfl ?_
              refine OW.pickT rfl rfl rfl ?_
              refine OW.nil ?_
              refine NX.seq ?_
              refine CW.condT rfl ?_
              have r4 := r3.fr0 hz3
              have g6 := run0 r4
              refine CW.region ?_
              refine OW.move rfl rfl ?_
              refine OW.indexAddr rfl el135 rfl rfl (⟨by decide, by omega⟩) ?_
              refine OW.loadA rfl ag137 rfl (sgf.frame g6 id) (rfl) ?_
              refine OW.store rfl rfl sz137 ((r4.get 0 rfl : Bk _ _ _ _)) (Nat.le_of_ble_eq_true rfl) (fun x hx => by simp [Value.cells] at hx; rcases hx with rfl | rfl <;> rfl) ?_
              intro w7 f7 s7 b7
              have r5 := r4.put 0 rfl (Moves.pts (cs' := [.int .i64 f.id, .int .i64 f.rank]) f7 b7)
              refine OW.nil ?_
              refine NX.blockN ?_
              refine NX.seq ?_
              refine CW.region ?_
              refine OW.add rfl rfl rfl (by omega) ?_
              refine OW.move rfl rfl ?_
              refine OW.nil ?_
              exact NX.loop ((j + 1, f)) ((Sub.cons rfl (Sub.cons rfl (Sub.cons rfl (Sub.cons rfl (Sub.cons rfl (Sub.cons rfl (Sub.nil _)))))))) (⟨hjl, r5, by simp only; rw [htk]; exact top_new inv hxm hg hf2 ht (.inr (.inl hk1))⟩) (by simp only; omega)
            · refine XW.val rfl rfl (fun zw hz => OW.gyes rfl rfl (OW.move rfl rfl (OW.nil NX.calm))) ?_
              refine XW.val rfl rfl (fun zw hz => OW.gyes rfl rfl (OW.indexAddr rfl el135 rfl rfl (⟨by decide, by omega⟩) (OW.nil NX.calm))) ?_
              refine XW.val rfl rfl (fun zw hz => OW.gyes rfl rfl (OW.fieldAddr rfl fo137_1 rfl (OW.nil NX.calm))) ?_
              refine XW.val rfl rfl (fun zw hz => OW.gyes rfl rfl (OW.load1 rfl ct3 rfl (first_rank ((sgf.frame g5 id).frame hz id)) (OW.nil NX.calm))) ?_
              refine XW.val rfl rfl (fun zw hz => OW.gyes rfl rfl (OW.fieldAddr rfl fo137_1 rfl (OW.nil NX.calm))) ?_
              refine XW.val rfl rfl (fun zw hz => OW.gyes rfl rfl (OW.load1 rfl ct3 rfl (((r3.get 0 rfl : Bk _ _ _ _).frame hz id).cell (o := 1) rfl) (OW.nil NX.calm))) ?_
              refine XW.val rfl rfl (fun zw hz => OW.gyes rfl rfl (OW.eql rfl rfl rfl (OW.nil NX.calm))) ?_
              refine XW.val rfl rfl (fun zw hz => OW.gyes rfl rfl (OW.move rfl rfl (OW.nil NX.calm))) ?_
              refine XW.ways (s := 67) rfl (fun hk2 => ?_) (fun hk2 => ?_)
              · refine XW.val rfl rfl (fun zw hz => OW.gyes rfl rfl (OW.move rfl rfl (OW.nil NX.calm))) ?_
                refine XW.val rfl rfl (fun zw hz => OW.gyes rfl rfl (OW.indexAddr rfl el135 rfl rfl (⟨by decide, by omega⟩) (OW.nil NX.calm))) ?_
                refine XW.val rfl rfl (fun zw hz => OW.gyes rfl rfl (OW.fieldAddr rfl fo137_0 rfl (OW.nil NX.calm))) ?_
                refine XW.val rfl rfl (fun zw hz => OW.gyes rfl rfl (OW.load1 rfl ct3 rfl (first_id ((sgf.frame g5 id).frame hz id)) (OW.nil NX.calm))) ?_
                refine XW.val rfl rfl (fun zw hz => OW.gyes rfl rfl (OW.fieldAddr rfl fo137_0 rfl (OW.nil NX.calm))) ?_
                refine XW.val rfl rfl (fun zw hz => OW.gyes rfl rfl (OW.load1 rfl ct3 rfl (((r3.get 0 rfl : Bk _ _ _ _).frame hz id).cell (o := 0) rfl) (OW.nil NX.calm))) ?_
                refine XW.tail ?_
                refine OW.gyes rfl rfl ?_
                refine OW.lss rfl rfl rfl ?_
                refine OW.gyes rfl rfl ?_
                refine OW.pickT rfl rfl rfl ?_
                refine OW.pickF rfl rfl rfl ?_
                refine OW.nil ?_
                refine NX.seq ?_
                refine CW.cond rfl (fun hk3 => ?_) (fun hk3 => ?_)
                · have r4 := r3.fr0 hz3
                  have g6 := run0 r4
                  refine CW.region ?_
                  refine OW.move rfl rfl ?_
                  refine OW.indexAddr rfl el135 rfl rfl (⟨by decide, by omega⟩) ?_
                  refine OW.loadA rfl ag137 rfl (sgf.frame g6 id) (rfl) ?_
                  refine OW.store rfl rfl sz137 ((r4.get 0 rfl : Bk _ _ _ _)) (Nat.le_of_ble_eq_true rfl) (fun x hx => by simp [Value.cells] at hx; rcases hx with rfl | rfl <;> rfl) ?_
                  intro w7 f7 s7 b7
                  have r5 := r4.put 0 rfl (Moves.pts (cs' := [.int .i64 f.id, .int .i64 f.rank]) f7 b7)
                  refine OW.nil ?_
                  refine NX.blockN ?_
                  refine NX.seq ?_
                  refine CW.region ?_
                  refine OW.add rfl rfl rfl (by omega) ?_
                  refine OW.move rfl rfl ?_
                  refine OW.nil ?_
                  exact NX.loop ((j + 1, f)) ((Sub.cons rfl (Sub.cons rfl (Sub.cons rfl (Sub.cons rfl (Sub.cons rfl (Sub.cons rfl (Sub.nil _)))))))) (⟨hjl, r5, by simp only; rw [htk]; exact top_new inv hxm hg hf2 ht (.inr (.inr ⟨hk2, hk3⟩))⟩) (by simp only; omega)
                · refine CW.skip ?_
                  refine NX.blockN ?_
                  refine NX.seq ?_
                  refine CW.region ?_
                  refine OW.add rfl rfl rfl (by omega) ?_
                  refine OW.move rfl rfl ?_
                  refine OW.nil ?_
                  exact NX.loop ((j + 1, b)) ((Sub.cons rfl (Sub.cons rfl (Sub.cons rfl (Sub.cons rfl (Sub.cons rfl (Sub.cons rfl (Sub.nil _)))))))) (⟨hjl, r3.fr0 hz3, by simp only; rw [htk]; exact top_old inv hxm hg hf2 ht hk0 (by omega) (by omega)⟩) (by simp only; omega)
              · refine XW.gno rfl rfl rfl rfl ?_
                refine XW.gno rfl rfl rfl rfl ?_
                refine XW.gno rfl rfl rfl rfl ?_
                refine XW.gno rfl rfl rfl rfl ?_
                refine XW.gno rfl rfl rfl rfl ?_
                refine XW.gno rfl rfl rfl rfl ?_
                refine XW.tail ?_
                refine OW.gnoD rfl rfl rfl rfl ?_
                refine OW.gyes rfl rfl ?_
                refine OW.pickF rfl rfl rfl ?_
                refine OW.pickF rfl rfl rfl ?_
                refine OW.nil ?_
                refine NX.seq ?_
                refine CW.condF rfl ?_
                refine CW.skip ?_
                refine NX.blockN ?_
                refine NX.seq ?_
                refine CW.region ?_
                refine OW.add rfl rfl rfl (by omega) ?_
                refine OW.move rfl rfl ?_
                refine OW.nil ?_
                exact NX.loop ((j + 1, b)) ((Sub.cons rfl (Sub.cons rfl (Sub.cons rfl (Sub.cons rfl (Sub.cons rfl (Sub.cons rfl (Sub.nil _)))))))) (⟨hjl, r3.fr0 hz3, by simp only; rw [htk]; exact top_old inv hxm hg hf2 ht hk0 (by omega) (by omega)⟩) (by simp only; omega)
  · have htop : Top T.atl h (fun _ => True) b := top_end inv (by simp only at hj hlt ht; rwa [List.take_of_length_le (by omega)] at ht)
    have rf := r
    have gf := run0 rf
    refine CW.exit ?_
    refine NX.thenExit ?_
    refine NX.thenExit ?_
    refine NX.blockEq ?_
    refine NX.seq ?_
    refine CW.seq ?_
    refine CW.drawY [(0, false), (1, false), (2, false), (3, false), (4, false), (5, false)] [6] (fun z => Fr0 U z) MIX (by kernel_rfl) (fun _ h => h) ?_
    intro z1 hz1
    refine XW.val rfl rfl (fun zw hz => OW.fieldAddr rfl fo137_0 rfl (OW.nil NX.calm)) ?_
    refine XW.val rfl rfl (fun zw hz => OW.load1 rfl ct3 rfl (((rf.get 0 rfl : Bk _ _ _ _).frame hz id).cell (o := 0) rfl) (OW.nil NX.calm)) ?_
    refine XW.val rfl rfl (fun zw hz => OW.fieldAddr rfl fo137_0 rfl (OW.nil NX.calm)) ?_
    refine XW.val rfl rfl (fun zw hz => OW.load1 rfl ct3 rfl (((rf.get 0 rfl : Bk _ _ _ _).frame hz id).cell (o := 0) rfl) (OW.nil NX.calm)) ?_
    refine XW.val rfl rfl (fun zw hz => OW.gtr rfl rfl rfl (OW.nil NX.calm)) ?_
    refine XW.val rfl rfl (fun zw hz => OW.assign rfl rfl (OW.nil NX.calm)) ?_
    refine XW.tail ?_
    refine OW.assign rfl rfl ?_
    refine OW.nil ?_
    refine NX.seq ?_
    refine CW.ret ?_
    refine NX.scopeRet ?_
    exact NX.ret2 rfl rfl rfl (⟨⟨b, htop, rfl⟩, gf.trans hz1⟩)

end Go.Eng.Te
