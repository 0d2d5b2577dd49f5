/-
  Add of package tuples, stepped through.
  No condition.
-/
import Derived.Test.YtmdhbgkmkmmmpaaTc
import Derived.Test.YtmdhbgkmkmmmpaaProg
import Derived.KernelRfl
namespace Go.Eng.Td
open Go Go.Eng Go.Proofs
theorem MIX : Try.prog.follows .mixedOrders = true := by kernel_rfl

theorem ag31 : aggSz Try.prog 31 = some 11 := by kernel_rfl
theorem ag33 : aggSz Try.prog 33 = some 22 := by kernel_rfl
theorem ag36 : aggSz Try.prog 36 = some 25 := by kernel_rfl
theorem ap125 : apdIs Try.prog 125 = some (130, 1, 8) := by kernel_rfl
theorem ap135 : apdIs Try.prog 135 = some (137, 2, 16) := by kernel_rfl
theorem cl63 : callable Try.prog 63 = true := by kernel_rfl
theorem cl64 : callable Try.prog 64 = true := by kernel_rfl
theorem cl65 : callable Try.prog 65 = true := by kernel_rfl
theorem cl66 : callable Try.prog 66 = true := by kernel_rfl
theorem cl70 : callable Try.prog 70 = true := by kernel_rfl
theorem ct124 : cellTy Try.prog 124 = true := by kernel_rfl
theorem ct125 : cellTy Try.prog 125 = true := by kernel_rfl
theorem ct130 : cellTy Try.prog 130 = true := by kernel_rfl
theorem ct131 : cellTy Try.prog 131 = true := by kernel_rfl
theorem ct3 : cellTy Try.prog 3 = true := by kernel_rfl
theorem el125 : elemIs Try.prog 125 = some (130, 1) := by kernel_rfl
theorem el135 : elemIs Try.prog 135 = some (137, 2) := by kernel_rfl
theorem fo127_0 : fieldOff Try.prog 127 0 = some 0 := by kernel_rfl
theorem fo127_1 : fieldOff Try.prog 127 1 = some 1 := by kernel_rfl
theorem fo127_2 : fieldOff Try.prog 127 2 = some 2 := by kernel_rfl
theorem fo133_1 : fieldOff Try.prog 133 1 = some 11 := by kernel_rfl
theorem fo133_2 : fieldOff Try.prog 133 2 = some 12 := by kernel_rfl
theorem fo133_3 : fieldOff Try.prog 133 3 = some 13 := by kernel_rfl
theorem fo33_0 : fieldOff Try.prog 33 0 = some 0 := by kernel_rfl
theorem fo33_1 : fieldOff Try.prog 33 1 = some 11 := by kernel_rfl
theorem fo36_0 : fieldOff Try.prog 36 0 = some 0 := by kernel_rfl
theorem fo36_1 : fieldOff Try.prog 36 1 = some 1 := by kernel_rfl
theorem fo36_2 : fieldOff Try.prog 36 2 = some 23 := by kernel_rfl
theorem mp124 : Try.prog.underlying 124 = some (.map 3 36) := by kernel_rfl
theorem mp131 : Try.prog.underlying 131 = some (.map 31 135) := by kernel_rfl
theorem pl133 : placesIs Try.prog 133 = some [(0, 11), (11, 1), (12, 1), (13, 1)] := by kernel_rfl
theorem pl137 : placesIs Try.prog 137 = some [(0, 1), (1, 1)] := by kernel_rfl
theorem sz125 : sizeIs Try.prog 125 = some 1 := by kernel_rfl
theorem sz3 : sizeIs Try.prog 3 = some 1 := by kernel_rfl
theorem sz34 : sizeIs Try.prog 34 = some 1 := by kernel_rfl
theorem u_57 : Try.prog.underlying 57 = some (.pointer 127) := by kernel_rfl
theorem zr130 : zeroIs Try.prog 130 = some (.pointer none) := by kernel_rfl
theorem zr133 : zeroIs Try.prog 133 = some (.agg #[.int .u64 0, .int .u64 0, .int .u64 0, .int .u64 0, .int .u64 0, .int .u64 0, .int .u64 0, .int .u64 0, .int .u64 0, .int .u64 0, .int .u64 0, .map none, .int .i64 0, .int .i64 0]) := by kernel_rfl
theorem zr135 : zeroIs Try.prog 135 = some (.slice none 0 0) := by kernel_rfl
theorem zr137 : zeroIs Try.prog 137 = some (.agg #[.int .i64 0, .int .i64 0]) := by kernel_rfl

def r0 (r : Rule) : Rule := { r with cps := [] }
structure RowUp (x x' : RowSt) (val : Hdr) (it : In) : Prop where
  ptr : x'.ptr = x.ptr
  mp : x'.mp = x.mp
  mask : x'.mask = x.mask
  bks : ∃ v', x'.bks = kvSetG val ⟨v', isort Tc.inLe (((kvGetG val x.bks).getD nilB).l ++ [it])⟩ x.bks
  great : x'.greatest = max x.greatest it.rank
  many : x'.many = x.many + 1
/-- the row into which a rule comes: one that is there, or a new one -/
def RowFor (rows : List RowSt) (ru : Rule) (rows1 : List RowSt) (i : Nat) (x : RowSt) : Prop :=
  rows1[i]? = some x ∧ x.mask = ru.mat.mask ∧ (rows1 = rows ∨ ((∀ y ∈ rows, y.mask ≠ ru.mat.mask) ∧ rows1 = rows ++ [x] ∧ x.bks = [] ∧ x.greatest = ru.rank ∧ x.many = 0))
def AddRel (T : TabSt) (ru : Rule) (T' : TabSt) : Prop :=
  T'.bt = T.bt ∧ T'.mt = T.mt ∧ T'.last = T.last + 1 ∧ T'.atl = kvSetG (T.last + 1) (r0 ru) T.atl ∧
  ∃ rows1 i x x', RowFor T.rows ru rows1 i x ∧ RowUp x x' ru.mat.val ⟨T.last + 1, ru.rank⟩ ∧ T'.rows = isort Tc.rowLe (rows1.set i x')
structure AddPre (T : TabSt) : Prop where
  last : 0 ≤ T.last ∧ T.last < 4611686018427387904
  rows : T.rows.length ≤ 100000
  bks : ∀ x ∈ T.rows, x.mask.wf ∧ i64Ok x.greatest ∧ x.many ≤ 100000 ∧ (x.bks.map (·.1)).Nodup ∧ ∀ b ∈ x.bks, b.1.wf ∧ b.2.l.length ≤ 100000
theorem idKey : KeyEq Try.prog 3 idK (fun _ => True) := KeyEq.int (f := fun i : Int => i) (by kernel_rfl) (fun _ _ h => h)
theorem hdrKey' : KeyEq Try.prog 31 hdrK (fun h : Hdr => intsWf h.lits) := hdrKey Tb.hdrFlat
theorem bkt_v {val : Hdr} (bks : List (Hdr × Bkt)) : (kvGet val (bkMap bks)).getD (.slice none 0 0) = ((kvGetG val bks).getD nilB).v := by
  unfold bkMap
  rw [kvGet_mapG Bkt.v]
  cases kvGetG val bks <;> rfl
theorem single {w w' : World} {a b : Asn} (r : Run w w' [a] [b]) : Moves w w' a b := by
  have e : ∀ a : Asn, (star [a]).fp = a.fp := fun a => by simp [star, fps]
  refine ⟨r.fr.mono fun k _ c => by rw [e] at c; exact c, r.ok b (by simp), fun k hk => ?_, ?_, fun k hk => r.lt k (by rw [e]; exact hk)⟩
  · have := r.sub k (by rw [e]; exact hk)
    rw [e] at this; exact this
  · have := r.nodup
    rw [e] at this; exact this
theorem own_tl {w w' : World} {a : Asn} {As Bs : List Asn} (r : Run w w' As (a :: Bs)) : Run w w' As (Bs ++ [a]) := r.perm (List.perm_append_singleton a Bs).symm

theorem new_row {w w1 : World} {As : List Asn} {x : RowSt} {rows : List RowSt} {a b c d : Asn} (hb : x.bks = []) (r : Run w w1 As [a, pts x.ptr 133 (rowCells x), mapA x.mp hdrK [], b, c, d, star (rows.map rowA)]) : Run w w1 As (star ((rows ++ [x]).map rowA) :: [a, b, c, d]) := by
  have r2 := (r.perm (Cs := [pts x.ptr 133 (rowCells x), mapA x.mp hdrK [], star (rows.map rowA), a, b, c, d]) ?_)
  · have r3 := (r2.void (a := star ([] : List Asn)) (by intro a ha; cases ha) rfl)
    have r4 := r3.perm (Cs := [pts x.ptr 133 (rowCells x), mapA x.mp hdrK [], star [], star (rows.map rowA), a, b, c, d]) ?_
    · have r5 := Run.join (Bs := [pts x.ptr 133 (rowCells x), mapA x.mp hdrK [], star []]) (Cs := [star (rows.map rowA), a, b, c, d]) r4
      have e : rowA x = star [pts x.ptr 133 (rowCells x), mapA x.mp hdrK [], star []] := by unfold rowA rowPieces; rw [hb]; rfl
      rw [← e] at r5
      refine r5.cons.starPerm ?_
      rw [List.map_append]
      exact (List.perm_append_singleton _ _).symm
    · exact (List.Perm.swap _ _ _).trans ((List.Perm.swap _ _ _).cons _)
  · exact perm7
where
  perm7 {a b c d e f g : Asn} : [a, e, f, b, c, d, g].Perm [e, f, g, a, b, c, d] := by
    refine (List.perm_middle (l₁ := [a]) (a := e) (l₂ := [f, b, c, d, g])).trans (List.Perm.cons _ ?_)
    refine (List.perm_middle (l₁ := [a]) (a := f) (l₂ := [b, c, d, g])).trans (List.Perm.cons _ ?_)
    exact (List.perm_middle (l₁ := [a, b, c, d]) (a := g) (l₂ := []))

theorem bk_wf {bks : List (Hdr × Bkt)} (h : ∀ b ∈ bks, b.1.wf ∧ b.2.l.length ≤ 100000) : ∀ p ∈ bkMap bks, intsWf p.1.lits := by
  intro p hp
  obtain ⟨b, hb, rfl⟩ := List.mem_map.1 hp
  exact Hdr.lits_wf (h b hb).1

theorem add_does {T : TabSt} {ru : Rule} {X : Nat → Prop} {rc : List Value} (w : World) (h : Holds w [tabA T]) (hp : AddPre T) (hru : ruleR X w rc ru) :
    Does Try.prog 28 [.pointer (some ⟨T.bt, 0, none⟩), .agg rc.toArray] w fun v w' => (matOk ru.mat = false ∧ v = .tuple #[.int .i64 0, .int .i64 20] ∧ Fr0 w w') ∨ (matOk ru.mat = true ∧ 1024 ≤ T.atl.length ∧ v = .tuple #[.int .i64 0, .int .i64 4] ∧ Fr0 w w') ∨
      (matOk ru.mat = true ∧ T.atl.length < 1024 ∧ v = .tuple #[.int .i64 (T.last + 1), .int .i64 0] ∧ ∃ T', AddRel T ru T' ∧ Moves w w' (tabA T) (tabA T')) := by
  obtain ⟨cv, rfl, hcps, hwf⟩ := hru
  obtain ⟨bt, mt, vr, rows, atl, last⟩ := T
  obtain ⟨hlast, hrows, hbks⟩ := hp
  simp only at hlast hrows hbks
  refine Does.enter Try.func28 rfl rfl ?_
  show CW _ _ _ _ 128 [] [(0, .pointer (some ⟨bt, 0, none⟩)), (1, .agg (ruleCells ru.rank ru.mat cv ru.cookie).toArray)] w
  have r1 : Run w w [tabA ⟨bt, mt, vr, rows, atl, last⟩] [pts bt 127 (tabCells vr mt last), mapA mt idK (atMap atl), ownA 130 1 ptrR ptrR_ok vr (rows.map (·.ptr)), star (rows.map rowA)] := (Run.start h).split
  refine CW.seq ?_
  refine CW.region ?_
  refine OW.boxA rfl rfl ?_
  intro br w1 n1
  have r2 := r1.newPts n1
  refine OW.assign rfl rfl ?_
  refine OW.assign rfl rfl ?_
  refine OW.nil ?_
  refine NX.seq ?_
  refine CW.seq ?_
  refine CW.seq ?_
  refine CW.region ?_
  refine OW.move rfl rfl ?_
  refine OW.eqlPtrNil rfl u_57 rfl rfl ?_
  refine OW.slot (s := 11) rfl (show _ = Value.bool false from rfl) ?_
  refine OW.nil ?_
  refine NX.seq ?_
  refine CW.condF rfl ?_
  refine CW.skip ?_
  refine NX.seq ?_
  refine CW.seq ?_
  refine CW.seq ?_
  refine CW.region ?_
  refine OW.fieldAddr rfl fo36_1 rfl ?_
  refine OW.loadA rfl ag33 rfl ((r2.get 0 rfl : Bk _ _ _ _).segAt 1 ru.mat.cells (fun j v e => Dg.ruleCells_mat j v e)) (rfl) ?_
  refine OW.call rfl rfl cl63 (Ta.check_does hwf.2.2.1 _) ?_
  rintro _ w2 ⟨rfl, f2⟩
  have r3 := r2.fr0 f2
  have f0 : Fr0 w w2 := n1.fr.trans f2
  rcases hok : matOk ru.mat
  · simp only [Bool.false_eq_true, if_false]
    refine OW.assign rfl rfl ?_
    refine OW.nil ?_
    refine NX.seq ?_
    refine CW.seq ?_
    refine CW.region ?_
    refine OW.move rfl rfl ?_
    refine OW.neq rfl rfl rfl ?_
    refine OW.nil ?_
    refine NX.seq ?_
    refine CW.cond rfl (fun hc => ?_) (fun hc => ?_)
    · refine CW.seq ?_
      refine CW.region ?_
      refine OW.move rfl rfl ?_
      refine OW.assign rfl rfl ?_
      refine OW.assign rfl rfl ?_
      refine OW.nil ?_
      refine NX.seq ?_
      refine CW.ret ?_
      refine NX.thenRet ?_
      exact NX.ret2 rfl rfl rfl ((.inl ⟨trivial, rfl, f0⟩))
    · exact absurd (by decide) hc
  · simp only [if_true]
    refine OW.assign rfl rfl ?_
    refine OW.nil ?_
    refine NX.seq ?_
    refine CW.seq ?_
    refine CW.region ?_
    refine OW.move rfl rfl ?_
    refine OW.neq rfl rfl rfl ?_
    refine OW.nil ?_
    refine NX.seq ?_
    refine CW.cond rfl (fun hc => ?_) (fun hc => ?_)
    · exact absurd hc (by decide)
    · refine CW.skip ?_
      refine NX.seq ?_
      refine CW.seq ?_
      refine CW.seq ?_
      refine CW.region ?_
      refine OW.move rfl rfl ?_
      refine OW.nilCheck rfl rfl ?_
      refine OW.fieldAddr rfl fo127_1 rfl ?_
      refine OW.load1 rfl ct124 rfl ((r3.get 1 rfl : Bk _ _ _ _).cell (o := 1) rfl) ?_
      refine OW.lenMap rfl mp124 rfl (r3.get 2 rfl) ?_
      have hal : (atMap atl).length = atl.length := by simp [atMap]
      refine OW.geq rfl rfl rfl ?_
      refine OW.nil ?_
      refine NX.seq ?_
      refine CW.cond rfl (fun hfull => ?_) (fun hfull => ?_)
      · refine CW.seq ?_
        refine CW.region ?_
        refine OW.assign rfl rfl ?_
        refine OW.assign rfl rfl ?_
        refine OW.nil ?_
        refine NX.seq ?_
        refine CW.ret ?_
        refine NX.thenRet ?_
        exact NX.ret2 rfl rfl rfl ((.inr (.inl ⟨trivial, by show 1024 ≤ atl.length; omega, rfl, f0⟩)))
      · refine CW.skip ?_
        refine NX.seq ?_
        refine CW.seq ?_
        refine CW.region ?_
        refine OW.move rfl rfl ?_
        refine OW.nilCheck rfl rfl ?_
        refine OW.fieldAddr rfl fo127_2 rfl ?_
        refine OW.load1 rfl ct3 rfl ((r3.get 1 rfl : Bk _ _ _ _).cell (o := 2) rfl) ?_
        refine OW.add rfl rfl rfl (by omega) ?_
        refine OW.nilCheck rfl rfl ?_
        refine OW.fieldAddr rfl fo127_2 rfl ?_
        refine OW.store rfl rfl sz3 ((r3.get 1 rfl : Bk _ _ _ _)) (Nat.le_of_ble_eq_true rfl) (fun x hx => by simp [Value.cells] at hx; subst hx; rfl) ?_
        intro w3 f3 s3 b3
        have r4 := r3.put 1 rfl (Moves.pts (cs' := tabCells vr mt (last + 1)) f3 b3)
        refine OW.nil ?_
        refine NX.seq ?_
        refine CW.seq ?_
        refine CW.region ?_
        refine OW.fieldAddr rfl fo36_2 rfl ?_
        refine OW.store rfl rfl sz34 ((r4.get 0 rfl : Bk _ _ _ _)) (Nat.le_of_ble_eq_true rfl) (fun x hx => by simp [Value.cells] at hx; subst hx; rfl) ?_
        intro w4 f4 s4 b4
        have r5 := r4.put 0 rfl (Moves.pts (cs' := ruleCells ru.rank ru.mat (.slice none 0 0) ru.cookie) f4 b4)
        refine OW.nil ?_
        refine NX.seq ?_
        refine CW.seq ?_
        refine CW.drawY [(0, false), (1, false), (2, false), (3, false), (4, false), (5, false), (6, false), (7, false), (8, false)] [9] (fun z => Fr0 w4 z) MIX (by kernel_rfl) (fun _ h => h) ?_
        intro z1 hz1
        refine XW.val rfl rfl (fun zw hz => OW.move rfl rfl (OW.nil NX.calm)) ?_
        refine XW.val rfl rfl (fun zw hz => OW.nilCheck rfl rfl (OW.nil NX.calm)) ?_
        refine XW.val rfl rfl (fun zw hz => OW.fieldAddr rfl fo127_1 rfl (OW.nil NX.calm)) ?_
        refine XW.val rfl rfl (fun zw hz => OW.load1 rfl ct124 rfl (((r5.get 1 rfl : Bk _ _ _ _).frame hz id).cell (o := 1) rfl) (OW.nil NX.calm)) ?_
        refine XW.val rfl rfl (fun zw hz => OW.move rfl rfl (OW.nil NX.calm)) ?_
        refine XW.val rfl rfl (fun zw hz => OW.nilCheck rfl rfl (OW.nil NX.calm)) ?_
        refine XW.val rfl rfl (fun zw hz => OW.fieldAddr rfl fo127_2 rfl (OW.nil NX.calm)) ?_
        refine XW.val rfl rfl (fun zw hz => OW.load1 rfl ct3 rfl (((r5.get 1 rfl : Bk _ _ _ _).frame hz id).cell (o := 2) rfl) (OW.nil NX.calm)) ?_
        refine XW.val rfl rfl (fun zw hz => OW.loadA rfl ag36 rfl (((r5.get 0 rfl : Bk _ _ _ _).frame hz id).seg) (rfl) (OW.nil NX.calm)) ?_
        refine XW.tail ?_
        have r6 := r5.fr0 hz1
        refine OW.mapUpdate (last + 1) mp124 idKey rfl rfl rfl trivial (fun _ _ => trivial) (r6.get 2 rfl) ?_
        intro w5 f5 s5 m5
        have m5' : MapBk w5 mt idK (atMap (kvSetG (last + 1) (r0 ru) atl)) := by
          have := kvSet_mapG (k := last + 1) ruleV (r0 ru) atl
          unfold atMap
          rw [← this]; exact m5
        have r7 := r6.put 2 rfl (Moves.map f5 m5')
        have ho5 := Tc.own_rows.1 (r7.get 3 rfl)
        refine OW.nil ?_
        refine NX.seq ?_
        refine CW.seq ?_
        refine CW.region ?_
        refine OW.move rfl rfl ?_
        refine OW.nilCheck rfl rfl ?_
        refine OW.fieldAddr rfl fo127_0 rfl ?_
        refine OW.load1 rfl ct125 rfl ((r7.get 1 rfl : Bk _ _ _ _).cell (o := 0) rfl) ?_
        refine OW.makeFunc (us := []) (vs := [.pointer (some ⟨br, 0, none⟩)]) rfl rfl rfl ?_
        have hrw : ∀ (x : RowSt) (w1 : World), x ∈ rows → Fr0 w5 w1 → Bk w1 x.ptr 133 (rowCells x) := fun x w1 hx f => by
          have h1 : (rowA x).ok w5 := (r7.get 4 rfl) (rowA x) (List.mem_map.2 ⟨x, hx, rfl⟩)
          have h2 : Bk w5 x.ptr 133 (rowCells x) := h1 _ (List.mem_cons_self ..)
          exact h2.frame f id
        have hbr := (r7.get 0 rfl : Bk _ _ _ _)
        refine OW.call rfl rfl cl64 (Tb.idxRows_does Tc.rowPR_ok (first := #[]) (cap := #[.pointer (some ⟨br, 0, none⟩)]) (pr := fun x : RowSt => decide (x.mask = ru.mat.mask)) ho5 cl65 (by omega) (fun x c w1 hx f hc => by
            have hc : [c] = [_] := hc
            cases hc
            exact Tb.isRow_does w1 (hrw x w1 hx f) (hbks x hx).1 hwf.2.2.1.2 (hbr.frame f id))) ?_
        rintro _ w6 ⟨rfl, f6⟩
        have r8 := r7.fr0 f6
        refine OW.assign rfl rfl ?_
        refine OW.nil ?_
        refine NX.seq ?_
        refine CW.mid (α := Nat × Value × List RowSt) (fun s : Nat × Value × List RowSt => [(0, .pointer (some ⟨bt, 0, none⟩)), (3, .pointer (some ⟨br, 0, none⟩)), (7, .int .i64 ((s.1 : Nat) : Int))]) (fun (s : Nat × Value × List RowSt) U => Run w U [tabA ⟨bt, mt, vr, rows, atl, last⟩] [pts br 36 (ruleCells ru.rank ru.mat (.slice none 0 0) ru.cookie), pts bt 127 (tabCells s.2.1 mt (last + 1)), mapA mt idK (atMap (kvSetG (last + 1) (r0 ru) atl)), ownA 130 1 ptrR ptrR_ok s.2.1 (s.2.2.map (·.ptr)), star (s.2.2.map rowA)] ∧ ∃ x, RowFor rows ru s.2.2 s.1 x) ?_ ?_
        · rcases hfi : rows.findIdx? (fun x : RowSt => decide (x.mask = ru.mat.mask)) with _ | i
          · have hidx : Tb.idxI (fun x : RowSt => decide (x.mask = ru.mat.mask)) rows = -1 := by unfold Tb.idxI; rw [hfi]
            rw [hidx]
            rw [List.findIdx?_eq_none_iff] at hfi
            refine CW.seq ?_
            refine CW.region ?_
            refine OW.move rfl rfl ?_
            refine OW.lss rfl rfl rfl ?_
            refine OW.nil ?_
            refine NX.seq ?_
            refine CW.cond rfl (fun hneg => ?_) (fun hneg => ?_)
            · obtain ⟨pv, cw, hv, hcap⟩ := (Tc.own_rows.1 (r8.get 3 rfl)).shape
              subst hv
              refine CW.seq ?_
              refine CW.region ?_
              refine OW.move rfl rfl ?_
              refine OW.nilCheck rfl rfl ?_
              refine OW.fieldAddr rfl fo127_0 rfl ?_
              refine OW.load1 rfl ct125 rfl ((r8.get 1 rfl : Bk _ _ _ _).cell (o := 0) rfl) ?_
              have hne1 : ¬ (.slice pv rows.length cw : Value).ownBlock = some bt := fun c => r8.holds.apart (i := 3) (j := 1) rfl rfl (by decide) (k := bt) (by simp [ownA, c]) (by simp [pts])
              have hne2 : ¬ (.slice pv rows.length cw : Value).ownBlock = some br := fun c => r8.holds.apart (i := 3) (j := 0) rfl rfl (by decide) (k := br) (by simp [ownA, c]) (by simp [pts])
              refine OW.len rfl el125 rfl ?_
              refine OW.assign rfl rfl ?_
              refine OW.nil ?_
              refine NX.seq ?_
              refine CW.drawY [(0, false), (1, false), (2, false), (3, false), (4, false), (5, false), (6, false), (7, false), (9, false), (10, false), (8, true), (11, false), (12, true), (13, true), (14, true)] [15, 16, 17] (fun z => Fr (fun k => (.slice pv rows.length cw : Value).ownBlock = some k) w6 z) MIX (by kernel_rfl) (fun _ h => h.any) ?_
              intro z2 hz2
              refine XW.val rfl rfl (fun zw hz => OW.move rfl rfl (OW.nil NX.calm)) ?_
              refine XW.val rfl rfl (fun zw hz => OW.move rfl rfl (OW.nil NX.calm)) ?_
              refine XW.val rfl rfl (fun zw hz => OW.nilCheck rfl rfl (OW.nil NX.calm)) ?_
              refine XW.val rfl rfl (fun zw hz => OW.fieldAddr rfl fo127_0 rfl (OW.nil NX.calm)) ?_
              refine XW.val rfl rfl (fun zw hz => OW.load1 rfl ct125 rfl (((r8.get 1 rfl : Bk _ _ _ _).frame hz hne1).cell (o := 0) rfl) (OW.nil NX.calm)) ?_
              refine XW.val rfl rfl (fun zw hz => OW.fieldAddr rfl fo36_1 rfl (OW.nil NX.calm)) ?_
              refine XW.val rfl rfl (fun zw hz => OW.fieldAddr rfl fo33_1 rfl (OW.nil NX.calm)) ?_
              refine XW.val rfl rfl (fun zw hz => OW.loadA rfl ag31 rfl (((r8.get 0 rfl : Bk _ _ _ _).frame hz hne2).segAt 12 ru.mat.mask.cells (fun j v e => Tb.hdr_in_rule j v e)) (rfl) (OW.nil NX.calm)) ?_
              refine XW.val rfl rfl (fun zw hz => OW.fieldAddr rfl fo36_0 rfl (OW.nil NX.calm)) ?_
              refine XW.val rfl rfl (fun zw hz => OW.load1 rfl ct3 rfl (((r8.get 0 rfl : Bk _ _ _ _).frame hz hne2).cell (o := 0) rfl) (OW.nil NX.calm)) ?_
              have r9 := r8.fr0 hz2
              refine XW.does ?_
              refine OW.makeMap rfl ?_
              intro bm w8 n8
              have r10 := r9.newMap hdrK n8
              refine OW.nil (NX.does ((hz2.trans n8.fr).any) ?_)
              refine XW.val rfl rfl (fun zw hz => OW.build (z := (List.replicate 11 (Value.int .u64 0)) ++ [.map none, .int .i64 0, .int .i64 0]) rfl pl133 zr133 rfl rfl (OW.nil NX.calm)) ?_
              refine XW.does ?_
              refine OW.boxA (vs := rowCells ⟨0, bm, ru.mat.mask, [], ru.rank, 0⟩) rfl rfl ?_
              intro bx w9 n9
              have r11 := r10.newPts n9
              have g9 : Fr0 w6 w9 := (hz2.trans n8.fr).trans n9.fr
              refine OW.nil (NX.does (g9.any) ?_)
              refine XW.does ?_
              refine OW.buildOne (c := [.pointer (some ⟨bx, 0, none⟩)]) rfl el125 zr130 rfl rfl rfl rfl rfl rfl ?_
              intro b7 w10 n10
              have r12 := r11.fr0 n10.fr
              have g10 : Fr0 w6 w10 := g9.trans n10.fr
              refine OW.nil (NX.does (g10.any) ?_)
              refine XW.does ?_
              refine OW.appendOne (R := ptrR) (X := fun _ => False) (el := bx) ptrR_ok rfl ap125 rfl rfl (r12.get 5 rfl) (Seg.ofNew n10) rfl (by simp only [List.length_map]; omega) (by simp only [List.length_map]; omega) (fun k hk => hk.elim) ?_
              intro v8 w11 o8 f8 g8
              have r13 := r12.put 5 rfl (Moves.own f8 o8 g8)
              refine OW.nil (NX.does (Fr.trans g10.any f8) ?_)
              refine XW.tail ?_
              refine OW.nilCheck rfl rfl ?_
              refine OW.fieldAddr rfl fo127_0 rfl ?_
              refine OW.store (v := v8) rfl rfl (by rw [o8.cells1]; exact sz125) ((r13.get 3 rfl : Bk _ _ _ _)) (by rw [o8.cells1]; exact Nat.le_of_ble_eq_true rfl) (fun x hx => by rw [o8.cells1] at hx; simp at hx; subst hx; exact o8.one) ?_
              intro w12 f12 s12 b12
              have b12' : Bk w12 bt 127 (tabCells v8 mt (last + 1)) := by
                rw [o8.cells1] at b12; exact b12
              have r14 := r13.put 3 rfl (Moves.pts f12 b12')
              obtain ⟨x, hx⟩ : ∃ x : RowSt, x = ⟨bx, bm, ru.mat.mask, [], ru.rank, 0⟩ := ⟨_, rfl⟩
              have r15 := r14.front 2 rfl
              have hrow := new_row (x := x) (rows := rows) (by rw [hx]) (by rw [hx]; exact r15)
              refine OW.nil ?_
              exact NX.mid ((rows.length, v8, rows ++ [x])) ((Sub.cons rfl (Sub.cons rfl (Sub.cons rfl (Sub.nil _))))) (⟨by have := own_tl hrow; simpa [hx] using this, x, by simp, by rw [hx], .inr ⟨fun y hy => by have := hfi y hy; simpa using this, rfl, by rw [hx], by rw [hx], by rw [hx]⟩⟩)
            · omega
          · have hidx : Tb.idxI (fun x : RowSt => decide (x.mask = ru.mat.mask)) rows = (i : Nat) := by unfold Tb.idxI; rw [hfi]
            rw [hidx]
            obtain ⟨hil, hpi, _⟩ := List.findIdx?_eq_some_iff_getElem.1 hfi
            refine CW.seq ?_
            refine CW.region ?_
            refine OW.move rfl rfl ?_
            refine OW.lss rfl rfl rfl ?_
            refine OW.nil ?_
            refine NX.seq ?_
            refine CW.cond rfl (fun hneg => ?_) (fun hneg => ?_)
            · omega
            · refine CW.skip ?_
              exact NX.mid ((i, vr, rows)) ((Sub.cons rfl (Sub.cons rfl (Sub.cons rfl (Sub.nil _))))) (⟨r8, rows[i], List.getElem?_eq_getElem hil, by simpa using hpi, .inl rfl⟩)
        · rintro ⟨i, vr1, rows1⟩ W ⟨rr, x, hfor⟩
          obtain ⟨hix, hxm, hor⟩ := hfor
          simp only at hix hxm hor rr
          have hil : i < rows1.length := by
            rcases Nat.lt_or_ge i rows1.length with c | c
            · exact c
            · rw [List.getElem?_eq_none c] at hix; cases hix
          obtain ⟨pv, cw, hv, hcap⟩ := (Tc.own_rows.1 (rr.get 3 rfl)).shape
          subst hv
          have hrd := (Tc.own_rows.1 (rr.get 3 rfl)).rd
          obtain ⟨bs, os, hps, hrs⟩ := hrd.at' hil
          subst hps
          obtain ⟨_, sgx, rfl⟩ := hrs i x hix
          have hxp : x.mask.wf ∧ i64Ok x.greatest ∧ x.many ≤ 100000 ∧ (x.bks.map (·.1)).Nodup ∧ ∀ b ∈ x.bks, b.1.wf ∧ b.2.l.length ≤ 100000 := by
            rcases hor with e | ⟨_, _, h2, h3, h4⟩
            · rw [e] at hix; exact hbks x (List.mem_of_getElem? hix)
            · exact ⟨hxm ▸ hwf.2.2.1.2, by rw [h3]; exact ⟨hwf.1, hwf.2.1⟩, by omega, by rw [h2]; exact List.nodup_nil, by rw [h2]; simp⟩
          have hr1 : rows1.length ≤ 100001 := by
            rcases hor with e | ⟨_, e, _⟩
            · rw [e]; omega
            · rw [e, List.length_append]; simp; omega
          refine CW.seq ?_
          refine CW.region ?_
          refine OW.move rfl rfl ?_
          refine OW.nilCheck rfl rfl ?_
          refine OW.fieldAddr rfl fo127_0 rfl ?_
          refine OW.load1 rfl ct125 rfl ((rr.get 1 rfl : Bk _ _ _ _).cell (o := 0) rfl) ?_
          refine OW.move rfl rfl ?_
          refine OW.indexAddr rfl el125 rfl rfl (⟨by omega, by omega⟩) ?_
          refine OW.load1 rfl ct130 rfl (sgx.one 0 rfl) ?_
          have r21 := rr.front 4 rfl
          have r22 := r21.rowOut hix
          have r23 := Run.split (Bs := rowPieces x) r22
          have r24 := r23.front 2 rfl
          have r25 := r24.bktOut ru.mat.val
          obtain ⟨cb, hcb⟩ : ∃ cb, cb = (kvGetG ru.mat.val x.bks).getD nilB := ⟨_, rfl⟩
          have hcl : cb.l.length ≤ 100000 := by
            rw [hcb]
            cases hg : kvGetG ru.mat.val x.bks with
            | none => simp [nilB]
            | some b => exact (hxp.2.2.2.2 _ (kvGetG_mem hg)).2
          rw [← hcb] at r25
          refine OW.assign rfl rfl ?_
          refine OW.nil ?_
          refine NX.seq ?_
          refine CW.seq ?_
          refine CW.drawY [(0, false), (1, false), (2, false), (3, false), (4, false), (5, false), (6, false), (7, false), (8, false), (9, false), (10, false), (11, false), (12, false), (13, false), (14, false), (15, true)] [16, 17] (fun z => Fr0 W z) MIX (by kernel_rfl) (fun _ h => h) ?_
          intro z2 hz2
          refine XW.val rfl rfl (fun zw hz => OW.move rfl rfl (OW.nil NX.calm)) ?_
          refine XW.val rfl rfl (fun zw hz => OW.nilCheck rfl rfl (OW.nil NX.calm)) ?_
          refine XW.val rfl rfl (fun zw hz => OW.fieldAddr rfl fo133_1 rfl (OW.nil NX.calm)) ?_
          refine XW.val rfl rfl (fun zw hz => OW.load1 rfl ct131 rfl (((r25.get 2 rfl : Bk _ _ _ _).frame hz id).cell (o := 11) rfl) (OW.nil NX.calm)) ?_
          refine XW.val rfl rfl (fun zw hz => OW.fieldAddr rfl fo36_1 rfl (OW.nil NX.calm)) ?_
          refine XW.val rfl rfl (fun zw hz => OW.fieldAddr rfl fo33_0 rfl (OW.nil NX.calm)) ?_
          refine XW.val rfl rfl (fun zw hz => OW.loadA rfl ag31 rfl (((r25.get 5 rfl : Bk _ _ _ _).frame hz id).segAt 1 ru.mat.val.cells (fun j v e => Tb.val_in_rule j v e)) (rfl) (OW.nil NX.calm)) ?_
          refine XW.val rfl rfl (fun zw hz => OW.lookup ru.mat.val rfl mp131 hdrKey' zr135 rfl rfl (Hdr.lits_wf hwf.2.2.1.1) (bk_wf hxp.2.2.2.2) (MapBk.frame (r25.get 3 rfl) hz id) (OW.nil NX.calm)) ?_
          refine XW.slot (s := 85) rfl (show _ = cb.v from by rw [bkt_v, ← hcb]) ?_
          refine XW.val rfl rfl (fun zw hz => OW.move rfl rfl (OW.nil NX.calm)) ?_
          refine XW.val rfl rfl (fun zw hz => OW.nilCheck rfl rfl (OW.nil NX.calm)) ?_
          refine XW.val rfl rfl (fun zw hz => OW.fieldAddr rfl fo127_2 rfl (OW.nil NX.calm)) ?_
          refine XW.val rfl rfl (fun zw hz => OW.load1 rfl ct3 rfl (((r25.get 6 rfl : Bk _ _ _ _).frame hz id).cell (o := 2) rfl) (OW.nil NX.calm)) ?_
          refine XW.val rfl rfl (fun zw hz => OW.fieldAddr rfl fo36_0 rfl (OW.nil NX.calm)) ?_
          refine XW.val rfl rfl (fun zw hz => OW.load1 rfl ct3 rfl (((r25.get 5 rfl : Bk _ _ _ _).frame hz id).cell (o := 0) rfl) (OW.nil NX.calm)) ?_
          refine XW.val rfl rfl (fun zw hz => OW.build (z := [.int .i64 0, .int .i64 0]) rfl pl137 zr137 rfl rfl (OW.nil NX.calm)) ?_
          refine XW.does ?_
          refine OW.buildOne (c := [.int .i64 (last + 1), .int .i64 ru.rank]) rfl el135 zr137 rfl rfl rfl rfl rfl rfl ?_
          intro b7 w13 n13
          have r26 := r25.fr0 (hz2.trans n13.fr)
          refine OW.nil (NX.does (hz2.trans n13.fr) ?_)
          refine XW.tail ?_
          refine OW.appendOne (R := inR) (X := fun _ => False) (el := ⟨last + 1, ru.rank⟩) inR_ok rfl ap135 rfl rfl (r26.get 0 rfl) (Seg.ofNew n13) ⟨rfl, by unfold i64Ok; simp only; omega, hwf.1, hwf.2.1⟩ (by have : (ru.mat.val, cb).2.l.length = cb.l.length := rfl; omega) (by have : (ru.mat.val, cb).2.l.length = cb.l.length := rfl; omega) (fun k hk => hk.elim) ?_
          intro v8 w14 o8 f8 g8
          have r27 := r26.put 0 rfl (Moves.own (hR := inR_ok) f8 o8 g8 : Moves _ _ (bkA (ru.mat.val, cb)) (bkA (ru.mat.val, ⟨v8, cb.l ++ [⟨last + 1, ru.rank⟩]⟩)))
          refine OW.assign rfl rfl ?_
          refine OW.nil ?_
          refine NX.seq ?_
          refine CW.seq ?_
          refine CW.region ?_
          refine OW.move rfl rfl ?_
          refine OW.call rfl rfl cl66 (Tc.sortIns_does o8 (by rw [List.length_append]; simp; omega)) ?_
          rintro _ w15 ⟨o15, f15⟩
          have r28 := r27.put 0 rfl (Moves.own (hR := inR_ok) f15 o15 (fun k hk => .inl hk) : Moves _ _ (bkA (ru.mat.val, ⟨v8, cb.l ++ [⟨last + 1, ru.rank⟩]⟩)) (bkA (ru.mat.val, ⟨v8, isort Tc.inLe (cb.l ++ [⟨last + 1, ru.rank⟩])⟩)))
          obtain ⟨nb, hnb⟩ : ∃ nb : Bkt, nb = ⟨v8, isort Tc.inLe (cb.l ++ [⟨last + 1, ru.rank⟩])⟩ := ⟨_, rfl⟩
          rw [← hnb] at r28
          refine OW.nil ?_
          refine NX.seq ?_
          refine CW.seq ?_
          refine CW.drawY [(0, false), (1, false), (2, false), (3, false), (4, false), (5, false), (6, false), (7, false)] [8] (fun z => Fr0 w15 z) MIX (by kernel_rfl) (fun _ h => h) ?_
          intro z3 hz3
          refine XW.val rfl rfl (fun zw hz => OW.move rfl rfl (OW.nil NX.calm)) ?_
          refine XW.val rfl rfl (fun zw hz => OW.nilCheck rfl rfl (OW.nil NX.calm)) ?_
          refine XW.val rfl rfl (fun zw hz => OW.fieldAddr rfl fo133_1 rfl (OW.nil NX.calm)) ?_
          refine XW.val rfl rfl (fun zw hz => OW.load1 rfl ct131 rfl (((r28.get 2 rfl : Bk _ _ _ _).frame hz id).cell (o := 11) rfl) (OW.nil NX.calm)) ?_
          refine XW.val rfl rfl (fun zw hz => OW.fieldAddr rfl fo36_1 rfl (OW.nil NX.calm)) ?_
          refine XW.val rfl rfl (fun zw hz => OW.fieldAddr rfl fo33_0 rfl (OW.nil NX.calm)) ?_
          refine XW.val rfl rfl (fun zw hz => OW.loadA rfl ag31 rfl (((r28.get 5 rfl : Bk _ _ _ _).frame hz id).segAt 1 ru.mat.val.cells (fun j v e => Tb.val_in_rule j v e)) (rfl) (OW.nil NX.calm)) ?_
          refine XW.val rfl rfl (fun zw hz => OW.move rfl rfl (OW.nil NX.calm)) ?_
          refine XW.tail ?_
          have r29 := r28.fr0 hz3
          refine OW.mapUpdate ru.mat.val mp131 hdrKey' rfl rfl rfl (Hdr.lits_wf hwf.2.2.1.1) (bk_wf hxp.2.2.2.2) (r29.get 3 rfl) ?_
          intro w16 f16 s16 m16
          have m16' : MapBk w16 x.mp hdrK (bkMap (kvSetG ru.mat.val nb x.bks)) := by
            have := kvSet_mapG (k := ru.mat.val) Bkt.v nb x.bks
            unfold bkMap
            rw [← this, hnb]; exact m16
          have r30 := r29.put 3 rfl (Moves.map f16 m16')
          refine OW.nil ?_
          refine NX.seq ?_
          refine CW.seq ?_
          refine CW.drawY [(0, false), (1, false), (2, false), (3, false), (4, false), (5, false), (6, false), (7, true)] [8, 9, 10] (fun z => Fr0 w16 z) MIX (by kernel_rfl) (fun _ h => h) ?_
          intro z4 hz4
          refine XW.val rfl rfl (fun zw hz => OW.move rfl rfl (OW.nil NX.calm)) ?_
          refine XW.val rfl rfl (fun zw hz => OW.move rfl rfl (OW.nil NX.calm)) ?_
          refine XW.val rfl rfl (fun zw hz => OW.nilCheck rfl rfl (OW.nil NX.calm)) ?_
          refine XW.val rfl rfl (fun zw hz => OW.fieldAddr rfl fo133_2 rfl (OW.nil NX.calm)) ?_
          refine XW.val rfl rfl (fun zw hz => OW.load1 rfl ct3 rfl (((r30.get 2 rfl : Bk _ _ _ _).frame hz id).cell (o := 12) rfl) (OW.nil NX.calm)) ?_
          refine XW.val rfl rfl (fun zw hz => OW.fieldAddr rfl fo36_0 rfl (OW.nil NX.calm)) ?_
          refine XW.val rfl rfl (fun zw hz => OW.load1 rfl ct3 rfl (((r30.get 5 rfl : Bk _ _ _ _).frame hz id).cell (o := 0) rfl) (OW.nil NX.calm)) ?_
          refine XW.does ?_
          refine OW.max2 rfl rfl rfl ?_
          refine OW.nil (NX.does (hz4) ?_)
          have r31 := r30.fr0 hz4
          refine XW.tail ?_
          refine OW.nilCheck rfl rfl ?_
          refine OW.fieldAddr rfl fo133_2 rfl ?_
          refine OW.store rfl rfl sz3 ((r31.get 2 rfl : Bk _ _ _ _)) (Nat.le_of_ble_eq_true rfl) (fun x hx => by simp [Value.cells] at hx; subst hx; rfl) ?_
          intro w17 f17 s17 b17
          have r32 := r31.put 2 rfl (Moves.pts (cs' := x.mask.cells ++ [.map (some x.mp), .int .i64 (max x.greatest ru.rank), .int .i64 (x.many : Nat)]) f17 b17)
          refine OW.nil ?_
          refine NX.seq ?_
          refine CW.seq ?_
          refine CW.region ?_
          refine OW.move rfl rfl ?_
          refine OW.nilCheck rfl rfl ?_
          refine OW.fieldAddr rfl fo133_3 rfl ?_
          refine OW.load1 rfl ct3 rfl ((r32.get 2 rfl : Bk _ _ _ _).cell (o := 13) rfl) ?_
          refine OW.add rfl rfl rfl (by omega) ?_
          refine OW.nilCheck rfl rfl ?_
          refine OW.fieldAddr rfl fo133_3 rfl ?_
          refine OW.store rfl rfl sz3 ((r32.get 2 rfl : Bk _ _ _ _)) (Nat.le_of_ble_eq_true rfl) (fun x hx => by simp [Value.cells] at hx; subst hx; rfl) ?_
          intro w18 f18 s18 b18
          obtain ⟨x', hx'⟩ : ∃ x' : RowSt, x' = ⟨x.ptr, x.mp, x.mask, kvSetG ru.mat.val nb x.bks, max x.greatest ru.rank, x.many + 1⟩ := ⟨_, rfl⟩
          have b18' : Bk w18 x'.ptr 133 (rowCells x') := by rw [hx']; exact b18
          have r33 := r32.put 2 rfl ((by rw [hx'] at b18' ⊢; exact Moves.pts f18 b18' : Moves _ _ _ (pts x'.ptr 133 (rowCells x'))))
          have r34 := r33.bktIn hxp.2.2.2.1
          have r35 := r34.perm (List.perm_middle (l₁ := [_, _]) (l₂ := [_, _, _, _, _]) (a := _)).symm
          have r35' : Run w w18 [tabA ⟨bt, mt, vr, rows, atl, last⟩] (rowPieces x' ++ [star ((rows1.eraseIdx i).map rowA), pts br 36 (ruleCells ru.rank ru.mat (.slice none 0 0) ru.cookie), pts bt 127 (tabCells (.slice (some ⟨bs, os, none⟩) rows1.length cw) mt (last + 1)), mapA mt idK (atMap (kvSetG (last + 1) (r0 ru) atl)), ownA 130 1 ptrR ptrR_ok (.slice (some ⟨bs, os, none⟩) rows1.length cw) (rows1.map (·.ptr))]) := by
            unfold rowPieces
            rw [hx'] at r35 ⊢
            exact r35
          have r90 : Run w w18 [tabA ⟨bt, mt, vr, rows, atl, last⟩] (rowA x' :: _) := r35'.join
          have r91 := r90.rowIn hil
          have hptr : (rows1.set i x').map (·.ptr) = rows1.map (·.ptr) := by
            rw [List.map_set, hx']
            apply List.ext_getElem?
            intro j
            rw [List.getElem?_set]
            split
            · rename_i e; subst e; simp [hil, (List.getElem?_eq_some_iff.1 hix).2]
            · rfl
          have hlen : (rows1.set i x').length = rows1.length := List.length_set
          obtain ⟨rows2, hr2⟩ : ∃ rows2, rows2 = rows1.set i x' := ⟨_, rfl⟩
          rw [← hr2] at r91 hptr hlen
          rw [← hptr] at r91
          have ho2 := Tc.own_rows.1 (r91.get 4 rfl)
          have hb2 : ∀ y ∈ rows2, Bk w18 y.ptr 133 (rowCells y) := fun y hy => (show (rowA y).ok w18 from (r91.get 0 rfl) (rowA y) (List.mem_map.2 ⟨y, hy, rfl⟩)) _ (List.mem_cons_self ..)
          have hd2 : ∀ y ∈ rows2, ¬ (Value.slice (some ⟨bs, os, none⟩) rows1.length cw).ownBlock = some y.ptr := fun y hy c => r91.holds.apart (i := 4) (j := 0) rfl rfl (by decide) (k := y.ptr) (by simp [ownA, c]) (List.mem_flatMap.2 ⟨rowA y, List.mem_map.2 ⟨y, hy, rfl⟩, by simp [rowA, star, fps, rowPieces, pts]⟩)
          refine OW.nil ?_
          refine NX.seq ?_
          refine CW.seq ?_
          refine CW.region ?_
          refine OW.move rfl rfl ?_
          refine OW.call rfl rfl cl70 (Tc.order_does (r91.get 2 rfl : Bk _ _ _ _) ho2 (by omega) hb2 hd2) ?_
          rintro _ w19 ⟨o19, f19⟩
          have o19' := Tc.own_rows.2 o19
          have r92 := r91.put 4 rfl (Moves.own (hR := ptrR_ok) f19 o19' (fun k hk => .inl hk))
          have r93 := Run.starPerm r92 ((isort_perm Tc.rowLe rows2).symm.map rowA)
          refine OW.nil ?_
          refine NX.seq ?_
          refine CW.seq ?_
          refine CW.region ?_
          refine OW.move rfl rfl ?_
          refine OW.nilCheck rfl rfl ?_
          refine OW.fieldAddr rfl fo127_2 rfl ?_
          refine OW.load1 rfl ct3 rfl ((r93.get 2 rfl : Bk _ _ _ _).cell (o := 2) rfl) ?_
          have r94 := (r93.front 1 rfl).drop
          have r95 := own_tl r94
          have r96 : Run w w19 [tabA ⟨bt, mt, vr, rows, atl, last⟩] (tabPieces ⟨bt, mt, .slice (some ⟨bs, os, none⟩) rows1.length cw, isort Tc.rowLe rows2, kvSetG (last + 1) (r0 ru) atl, last + 1⟩ ++ []) := r95
          have r97 := single r96.join
          refine OW.assign rfl rfl ?_
          refine OW.assign rfl rfl ?_
          refine OW.nil ?_
          refine NX.seq ?_
          refine CW.ret ?_
          exact NX.ret2 rfl rfl rfl ((.inr (.inr ⟨trivial, by show atl.length < 1024; omega, rfl, ⟨bt, mt, .slice (some ⟨bs, os, none⟩) rows1.length cw, isort Tc.rowLe rows2, kvSetG (last + 1) (r0 ru) atl, last + 1⟩, ⟨rfl, rfl, rfl, rfl, rows1, i, x, x', ⟨hix, hxm, hor⟩, ⟨by rw [hx'], by rw [hx'], by rw [hx'], ⟨v8, by rw [hx', hnb, hcb]⟩, by rw [hx'], by rw [hx']⟩, by rw [hr2]⟩, r97⟩)))

end Go.Eng.Td
