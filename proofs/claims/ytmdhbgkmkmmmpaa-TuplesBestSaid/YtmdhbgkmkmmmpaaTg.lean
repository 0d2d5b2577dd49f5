/-
  TuplesBest, stepped through.
  No condition.
-/
import Derived.Test.YtmdhbgkmkmmmpaaTe
import Derived.Test.YtmdhbgkmkmmmpaaTupM
import Derived.Test.YtmdhbgkmkmmmpaaEngY
import Derived.Test.YtmdhbgkmkmmmpaaProg
import Derived.KernelRfl
import Derived.Test.YtmdhbgkmkmmmpaaTf
namespace Go.Eng.Tg
open Go Go.Eng Go.Proofs
theorem MIX : Try.prog.follows .mixedOrders = true := by kernel_rfl

theorem ag31 : aggSz Try.prog 31 = some 11 := by kernel_rfl
theorem ag33 : aggSz Try.prog 33 = some 22 := by kernel_rfl
theorem ag36 : aggSz Try.prog 36 = some 25 := by kernel_rfl
theorem ap22 : apdIs Try.prog 22 = some (36, 25, 216) := by kernel_rfl
theorem cl27 : callable Try.prog 27 = true := by kernel_rfl
theorem cl28 : callable Try.prog 28 = true := by kernel_rfl
theorem cl29 : callable Try.prog 29 = true := by kernel_rfl
theorem cl30 : callable Try.prog 30 = true := by kernel_rfl
theorem cl31 : callable Try.prog 31 = true := by kernel_rfl
theorem ct3 : cellTy Try.prog 3 = true := by kernel_rfl
theorem el22 : elemIs Try.prog 22 = some (36, 25) := by kernel_rfl
theorem fo36_0 : fieldOff Try.prog 36 0 = some 0 := by kernel_rfl
theorem fo36_1 : fieldOff Try.prog 36 1 = some 1 := by kernel_rfl
theorem sz36 : sizeIs Try.prog 36 = some 25 := by kernel_rfl
theorem u_57 : Try.prog.underlying 57 = some (.pointer 127) := by kernel_rfl
theorem zr36 : zeroIs Try.prog 36 = some (.agg #[.int .i64 0, .int .u64 0, .int .u64 0, .int .u64 0, .int .u64 0, .int .u64 0, .int .u64 0, .int .u64 0, .int .u64 0, .int .u64 0, .int .u64 0, .int .u64 0, .int .u64 0, .int .u64 0, .int .u64 0, .int .u64 0, .int .u64 0, .int .u64 0, .int .u64 0, .int .u64 0, .int .u64 0, .int .u64 0, .int .u64 0, .slice none 0 0, .int .u64 0]) := by kernel_rfl

def entOf (l : List Rule) : List Ent := l.mapIdx fun i r => (((i : Nat) : Int) + 1, Td.r0 r)
theorem entOf_snoc (l : List Rule) (r : Rule) : entOf (l ++ [r]) = entOf l ++ [(((l.length : Nat) : Int) + 1, Td.r0 r)] := by
  unfold entOf; rw [List.mapIdx_append]; simp
theorem entOf_get {l : List Rule} {i : Nat} {r : Rule} (h : l[i]? = some r) : (((i : Nat) : Int) + 1, Td.r0 r) ∈ entOf l := by
  have : (entOf l)[i]? = some (((i : Nat) : Int) + 1, Td.r0 r) := by unfold entOf; rw [List.getElem?_mapIdx, h]; rfl
  exact List.mem_of_getElem? this
theorem entOf_mem {l : List Rule} {x : Ent} (h : x ∈ entOf l) : ∃ (i : Nat) (r : Rule), l[i]? = some r ∧ x = (((i : Nat) : Int) + 1, Td.r0 r) := by
  obtain ⟨i, hi⟩ := List.mem_iff_getElem?.1 h
  unfold entOf at hi
  rw [List.getElem?_mapIdx] at hi
  simp only [Option.map_eq_some_iff] at hi
  obtain ⟨r, h1, h2⟩ := hi
  exact ⟨i, r, h1, h2.symm⟩
theorem entOf_len (l : List Rule) : (entOf l).length = l.length := by simp [entOf]
theorem top_at {l : List Rule} {h : Hdr} {b : In} (t : Top (entOf l) h (fun _ => True) b) (hb : b.id > 0) : ∃ (i : Nat) (r : Rule), l[i]? = some r ∧ b.id = ((i : Nat) : Int) + 1 ∧ b.rank = r.rank ∧ hits r.mat h = true ∧ ∀ (j : Nat) (s : Rule), l[j]? = some s → hits s.mat h = true → s.rank < r.rank ∨ (s.rank = r.rank ∧ i ≤ j) := by
  rcases t with ⟨h1, _⟩ | ⟨_, x, hx, h2, h3, h4, h5⟩
  · omega
  · obtain ⟨i, r, hi, rfl⟩ := entOf_mem hx
    refine ⟨i, r, hi, h2.symm, h3.symm, h4, fun j s hj hs => ?_⟩
    have := h5 _ (entOf_get hj) trivial hs
    unfold Better at this
    simp only [Td.r0] at this
    omega
theorem top_no {l : List Rule} {h : Hdr} {b : In} (t : Top (entOf l) h (fun _ => True) b) (hb : ¬ b.id > 0) {j : Nat} {s : Rule} (hj : l[j]? = some s) : hits s.mat h = false := by
  rcases t with ⟨_, h2⟩ | ⟨h1, _⟩
  · exact h2 _ (entOf_get hj) trivial
  · omega

theorem seg_to {w : World} {b o o' : Nat} {c : List Value} (h : Seg w b o c) (e : o = o') : Seg w b o' c := e ▸ h
theorem rank_to {w : World} {b o o' : Nat} {v : Value} {c : List Value} (h : Seg w b o (v :: c)) (e : o = o') : w.cell? ⟨b, o', none⟩ = some v := (e ▸ h : Seg w b o' (v :: c)).one 0 rfl

theorem best_does {l : List Rule} {h : Hdr} {va : Value} (w : World) (hx : rulesR (Bel w) w va l) (hh : h.wf) : Does Try.prog 10 [va, .agg (h.cells).toArray] w fun v w' => v = .bool true ∧ Fr0 w w' := by
  obtain ⟨pa, ca, cs, rfl, hla, ba, oa, hpa, hel⟩ := SlR.pick hx
  refine Does.enter Try.func10 rfl rfl ?_
  show CW _ _ _ _ 117 [] [(0, .slice pa l.length ca), (1, .agg (h.cells).toArray)] w
  refine CW.seq ?_
  refine CW.region ?_
  refine OW.boxA rfl rfl ?_
  intro b3 w1 n1
  refine OW.assign rfl rfl ?_
  refine OW.nil ?_
  refine NX.seq ?_
  refine CW.seq ?_
  refine CW.region ?_
  refine OW.call rfl rfl cl27 (Tc.new_does w1) ?_
  rintro _ w2 ⟨T0, rfl, ⟨e1, e2, e3⟩, ⟨hh0, hfr⟩, f2⟩
  have r1 := (Run.start (Holds.nil (w := w))).newPts (T := 31) (cs := h.cells) n1
  have r2 := r1.adopt f2 hh0 hfr
  have r3 := (r2.void (a := ownB 36 25 ruleR (Bel w) w (.slice none 0 0) []) OwnAt.nil rfl)
  have i0 := new_inv e1 e2 e3
  refine OW.assign rfl rfl ?_
  refine OW.nil ?_
  refine NX.seq ?_
  refine CW.seq ?_
  refine CW.seq ?_
  refine CW.region ?_
  refine OW.move rfl rfl ?_
  refine OW.eqlPtrNil rfl u_57 rfl rfl ?_
  refine OW.slot (s := 17) rfl (show _ = Value.bool false from rfl) ?_
  refine OW.nil ?_
  refine NX.seq ?_
  refine CW.condF rfl ?_
  refine CW.skip ?_
  refine NX.seq ?_
  refine CW.seq ?_
  refine CW.region ?_
  refine OW.assign rfl rfl ?_
  refine OW.nil ?_
  refine NX.seq ?_
  refine CW.mid (α := TabSt × Value × List Rule) (fun s : TabSt × Value × List Rule => [(3, .pointer (some ⟨b3, 0, none⟩)), (5, .pointer (some ⟨T0.bt, 0, none⟩)), (6, s.2.1)]) (fun (s : TabSt × Value × List Rule) U => s.1.bt = T0.bt ∧ Run w U [] [ownB 36 25 ruleR (Bel w) w s.2.1 s.2.2, tabA s.1, pts b3 31 h.cells] ∧ TInv s.1 ∧ s.1.atl = entOf s.2.2 ∧ s.1.last = ((s.2.2.length : Nat) : Int) ∧ s.2.2.length ≤ 60) ?_ ?_
  · refine CW.seq ?_
    refine CW.region ?_
    refine OW.move rfl rfl ?_
    refine OW.len rfl el22 rfl ?_
    refine OW.move rfl rfl ?_
    refine OW.nil ?_
    refine NX.seq ?_
    refine CW.block ?_
    refine CW.loop (α := Nat × TabSt × Value × List Rule) (fun t : Nat × TabSt × Value × List Rule => [(3, .pointer (some ⟨b3, 0, none⟩)), (5, .pointer (some ⟨T0.bt, 0, none⟩)), (6, t.2.2.1), (18, .slice pa l.length ca), (19, .int .i64 ((l.length : Nat) : Int)), (20, .int .i64 ((t.1 : Nat) : Int))]) (fun (t : Nat × TabSt × Value × List Rule) U => t.1 ≤ l.length ∧ t.2.2.2.length ≤ t.1 ∧ t.1 ≤ 60 ∧ (fun (s : TabSt × Value × List Rule) => s.1.bt = T0.bt ∧ Run w U [] [ownB 36 25 ruleR (Bel w) w s.2.1 s.2.2, tabA s.1, pts b3 31 h.cells] ∧ TInv s.1 ∧ s.1.atl = entOf s.2.2 ∧ s.1.last = ((s.2.2.length : Nat) : Int) ∧ s.2.2.length ≤ 60) t.2) (fun t => l.length - t.1) (0, T0, .slice none 0 0, []) (Sub.cons rfl (Sub.cons rfl (Sub.cons rfl (Sub.cons rfl (Sub.cons rfl (Sub.cons rfl (Sub.nil _))))))) ⟨Nat.zero_le _, Nat.le_refl _, by omega, rfl, r3, i0, e2, e3, by simp⟩ ?_
    rintro ⟨i, T, vi, ins⟩ U ⟨hi, hil60, hi60, hbt, r, inv, hat, hlast, hln⟩
    simp only at hi hil60 hi60 hbt r inv hat hlast hln
    refine CW.seq ?_
    refine CW.region ?_
    refine OW.lss rfl rfl rfl ?_
    refine OW.nil ?_
    refine NX.seq ?_
    refine CW.seq ?_
    refine CW.cond rfl (fun hlt => ?_) (fun hlt => ?_)
    · have hil : i < l.length := by omega
      obtain ⟨x, hx1, hx2⟩ := getL hil
      obtain ⟨sgx, hrx⟩ := hel i x hx2
      have hcx := ruleR_ok.len hrx
      have g := run0 r
      refine CW.skip ?_
      refine NX.seq ?_
      refine CW.seq ?_
      refine CW.block ?_
      refine CW.seq ?_
      refine CW.region ?_
      refine OW.move rfl rfl ?_
      refine OW.indexAddr (b := ba) (o := oa) rfl el22 (by rw [← (hpa (by omega))]; rfl) rfl (⟨by omega, by omega⟩) ?_
      refine OW.loadA rfl ag36 rfl (sgx.frame g id) (hcx) ?_
      refine OW.alloc rfl zr36 ?_
      intro b8 w5 n5
      have r5 := r.newPts (cs := ruleCells 0 ⟨fun _ => 0, fun _ => 0⟩ (.slice none 0 0) 0) n5
      refine OW.assign rfl rfl ?_
      refine OW.store (v := .agg (cs i).toArray) rfl rfl (show _ = some (cs i).toArray.size from by rw [List.size_toArray, hcx]; exact sz36) (r5.get 0 rfl : Bk _ _ _ _) (by show 0 + (cs i).toArray.size ≤ _; rw [List.size_toArray, hcx]; exact Nat.le_refl _) (fun x hx => ruleR_ok.one hrx x (by simpa [Value.cells] using hx)) ?_
      intro w6 f6 s6 b6
      have b6' : Bk w6 b8 36 (cs i) := by
        have e : upd (ruleCells 0 ⟨fun _ => 0, fun _ => 0⟩ (.slice none 0 0) 0) 0 (cs i) = cs i := upd_all (by rw [hcx]; rfl)
        rw [← e]; exact b6
      have r6 := r5.put 0 rfl (Moves.pts f6 b6')
      refine OW.nil ?_
      refine NX.seq ?_
      refine CW.seq ?_
      refine CW.seq ?_
      refine CW.region ?_
      refine OW.move rfl rfl ?_
      refine OW.geq rfl rfl rfl ?_
      refine OW.nil ?_
      refine NX.seq ?_
      refine CW.cond rfl (fun h60 => ?_) (fun h60 => ?_)
      · refine CW.exit ?_
        refine NX.thenExit ?_
        refine NX.blockNe rfl ?_
        refine NX.thenExit ?_
        refine NX.thenExit ?_
        refine NX.blockEq ?_
        exact NX.mid ((T, vi, ins)) ((Sub.cons rfl (Sub.cons rfl (Sub.cons rfl (Sub.nil _))))) (⟨hbt, r6.drop, inv, hat, hlast, hln⟩)
      · refine CW.skip ?_
        refine NX.seq ?_
        refine CW.seq ?_
        refine CW.region ?_
        refine OW.move rfl rfl ?_
        refine OW.loadA rfl ag36 rfl ((r6.get 0 rfl : Bk _ _ _ _).seg) (hcx) ?_
        have g6 := run0 r6
        rw [← hbt]
        refine OW.call rfl rfl cl28 (Tf.add_spec (ru := x) (X := Bel w) w6 (r6.alone 2 rfl) inv (by rw [hat, entOf_len]; omega) (by rw [hlast]; omega) (rf hrx ruleR_ok g6)) ?_
        rintro v7 w7 ⟨T', inv', hbt', m7, ho⟩
        have r7 := r6.put 2 rfl m7
        rcases ho with ⟨_, rfl, rfl⟩ | ⟨_, _, rfl, rfl⟩ | ⟨hok, _, rfl, ha', hl'⟩
        · refine OW.move rfl rfl ?_
          refine OW.extract rfl rfl rfl ?_
          refine OW.extract rfl rfl rfl ?_
          refine OW.assign rfl rfl ?_
          refine OW.assign rfl rfl ?_
          refine OW.nil ?_
          refine NX.seq ?_
          refine CW.seq ?_
          refine CW.region ?_
          refine OW.move rfl rfl ?_
          refine OW.eql rfl rfl rfl ?_
          refine OW.nil ?_
          refine NX.seq ?_
          refine CW.cond rfl (fun he => ?_) (fun he => ?_)
          · exact absurd he (by decide)
          · refine CW.skip ?_
            refine NX.blockN ?_
            refine NX.seq ?_
            refine CW.region ?_
            refine OW.add rfl rfl rfl (by omega) ?_
            refine OW.move rfl rfl ?_
            refine OW.nil ?_
            exact NX.loop ((i + 1, T', vi, ins)) ((Sub.cons rfl (Sub.cons rfl (Sub.cons rfl (Sub.cons rfl (Sub.cons rfl (Sub.cons rfl (Sub.nil _)))))))) (⟨by show i + 1 ≤ _; omega, by show ins.length ≤ i + 1; omega, by show i + 1 ≤ 60; omega, rfl, r7.drop, inv, hat, hlast, hln⟩) (by show l.length - (i + 1) < l.length - i; omega)
        · refine OW.move rfl rfl ?_
          refine OW.extract rfl rfl rfl ?_
          refine OW.extract rfl rfl rfl ?_
          refine OW.assign rfl rfl ?_
          refine OW.assign rfl rfl ?_
          refine OW.nil ?_
          refine NX.seq ?_
          refine CW.seq ?_
          refine CW.region ?_
          refine OW.move rfl rfl ?_
          refine OW.eql rfl rfl rfl ?_
          refine OW.nil ?_
          refine NX.seq ?_
          refine CW.cond rfl (fun he => ?_) (fun he => ?_)
          · exact absurd he (by decide)
          · refine CW.skip ?_
            refine NX.blockN ?_
            refine NX.seq ?_
            refine CW.region ?_
            refine OW.add rfl rfl rfl (by omega) ?_
            refine OW.move rfl rfl ?_
            refine OW.nil ?_
            exact NX.loop ((i + 1, T', vi, ins)) ((Sub.cons rfl (Sub.cons rfl (Sub.cons rfl (Sub.cons rfl (Sub.cons rfl (Sub.cons rfl (Sub.nil _)))))))) (⟨by show i + 1 ≤ _; omega, by show ins.length ≤ i + 1; omega, by show i + 1 ≤ 60; omega, rfl, r7.drop, inv, hat, hlast, hln⟩) (by show l.length - (i + 1) < l.length - i; omega)
        · refine OW.move rfl rfl ?_
          refine OW.extract rfl rfl rfl ?_
          refine OW.extract rfl rfl rfl ?_
          refine OW.assign rfl rfl ?_
          refine OW.assign rfl rfl ?_
          refine OW.nil ?_
          refine NX.seq ?_
          refine CW.seq ?_
          refine CW.region ?_
          refine OW.move rfl rfl ?_
          refine OW.eql rfl rfl rfl ?_
          refine OW.nil ?_
          refine NX.seq ?_
          refine CW.cond rfl (fun he => ?_) (fun he => ?_)
          · refine CW.seq ?_
            refine CW.region ?_
            refine OW.move rfl rfl ?_
            refine OW.loadA rfl ag36 rfl ((r7.get 0 rfl : Bk _ _ _ _).seg) (hcx) ?_
            refine OW.buildOne (c := cs i) rfl el22 zr36 rfl rfl rfl rfl hcx rfl ?_
            intro b9 w9 n9
            have r9 := r7.fr0 n9.fr
            refine OW.appendAt (R := ruleR) (X := Bel w) (wb := w) (el := x) ruleR_ok rfl ap22 rfl rfl (r9.get 1 rfl : OwnAt _ _ _ _ _ _ _ _) (Seg.ofNew n9) hrx (by omega) (by omega) ?_
            intro v10 w10 o10 f10 g10
            have r10 := r9.put 1 rfl (Moves.ownB f10 o10 g10)
            obtain ⟨pi, ci, hvi, hci⟩ := o10.shape
            subst hvi
            refine OW.assign rfl rfl ?_
            refine OW.nil ?_
            refine NX.seq ?_
            refine CW.seq ?_
            refine CW.region ?_
            refine OW.move rfl rfl ?_
            refine OW.move rfl rfl ?_
            refine OW.len rfl el22 rfl ?_
            refine OW.neq rfl rfl rfl ?_
            refine OW.nil ?_
            refine NX.seq ?_
            refine CW.cond rfl (fun hne => ?_) (fun hne => ?_)
            · exact absurd (by rw [hlast]; simp) hne
            · refine CW.skip ?_
              refine NX.blockN ?_
              refine NX.seq ?_
              refine CW.region ?_
              refine OW.add rfl rfl rfl (by omega) ?_
              refine OW.move rfl rfl ?_
              refine OW.nil ?_
              exact NX.loop ((i + 1, T', .slice pi (ins ++ [x]).length ci, ins ++ [x])) ((Sub.cons rfl (Sub.cons rfl (Sub.cons rfl (Sub.cons rfl (Sub.cons rfl (Sub.cons rfl (Sub.nil _)))))))) (⟨by show i + 1 ≤ _; omega, by show (ins ++ [x]).length ≤ i + 1; simp; omega, by show i + 1 ≤ 60; omega, hbt', r10.drop, inv', by show T'.atl = _; rw [ha', hat, hlast, entOf_snoc], by show T'.last = _; rw [hl', hlast]; simp, by show (ins ++ [x]).length ≤ 60; simp; omega⟩) (by show l.length - (i + 1) < l.length - i; omega)
          · exact absurd rfl he
    · refine CW.exit ?_
      refine NX.thenExit ?_
      refine NX.thenExit ?_
      refine NX.blockEq ?_
      exact NX.mid ((T, vi, ins)) ((Sub.cons rfl (Sub.cons rfl (Sub.cons rfl (Sub.nil _))))) (⟨hbt, r, inv, hat, hlast, hln⟩)
  · rintro ⟨T, vi, ins⟩ W ⟨hbt, r, inv, hat, hlast, hln⟩
    simp only at hbt r inv hat hlast hln
    obtain ⟨pi, ci, hvi, hci⟩ := (r.get 0 rfl : OwnAt _ _ _ _ _ _ _ _).shape
    subst hvi
    refine CW.seq ?_
    refine CW.region ?_
    refine OW.move rfl rfl ?_
    refine OW.loadA rfl ag31 rfl ((r.get 2 rfl : Bk _ _ _ _).seg) (rfl) ?_
    rw [← hbt]
    refine OW.call rfl rfl cl29 (Tf.find_spec (h := h) W hh (r.alone 1 rfl) inv (by rw [hat, entOf_len]; omega)) ?_
    rintro _ w4 ⟨⟨b, ht, rfl⟩, f4⟩
    rw [hat] at ht
    have r4 := r.fr0 f4
    have hi4 : OwnAt 36 25 ruleR (Bel w) w w4 (.slice pi ins.length ci) ins := r4.get 0 rfl
    refine OW.move rfl rfl ?_
    refine OW.extract rfl rfl rfl ?_
    refine OW.extract rfl rfl rfl ?_
    refine OW.assign rfl rfl ?_
    refine OW.assign rfl rfl ?_
    refine OW.nil ?_
    refine NX.seq ?_
    refine CW.seq ?_
    refine CW.seq ?_
    refine CW.drawY [(0, false), (1, false), (2, false), (3, false), (4, false), (5, false), (6, false), (7, false), (8, false), (9, false), (10, false), (11, false), (12, false), (13, false), (14, false), (15, false), (16, false), (17, false)] [18, 19, 20, 21] (fun z => Fr0 w4 z) MIX (by kernel_rfl) (fun _ h => h) ?_
    intro z1 hz1
    refine XW.val rfl rfl (fun zw hz => OW.move rfl rfl (OW.nil NX.calm)) ?_
    refine XW.val rfl rfl (fun zw hz => OW.move rfl rfl (OW.nil NX.calm)) ?_
    refine XW.ways (s := 51) rfl (fun hb => ?_) (fun hb => ?_)
    · obtain ⟨i, x, hix, hbi, hbr, hhit, hbest⟩ := top_at ht hb
      have hil : i < ins.length := by
        rcases Nat.lt_or_ge i ins.length with c | c
        · exact c
        · rw [List.getElem?_eq_none c] at hix; cases hix
      obtain ⟨bi, oi, hpi, hri⟩ := hi4.at' hil
      subst hpi
      obtain ⟨c, sgx, cvx, rfl, hcp, hwx⟩ := hri i x hix
      refine XW.val rfl rfl (fun zw hz => OW.gyes rfl rfl (OW.move rfl rfl (OW.nil NX.calm))) ?_
      refine XW.val rfl rfl (fun zw hz => OW.gyes rfl rfl (OW.lss rfl rfl rfl (OW.nil NX.calm))) ?_
      refine XW.val rfl rfl (fun zw hz => OW.gyes rfl rfl (OW.move rfl rfl (OW.nil NX.calm))) ?_
      refine XW.ways (s := 54) rfl (fun hb1 => ?_) (fun hb1 => ?_)
      · omega
      · refine XW.val rfl rfl (fun zw hz => OW.gyes rfl rfl (OW.move rfl rfl (OW.nil NX.calm))) ?_
        refine XW.val rfl rfl (fun zw hz => OW.gyes rfl rfl (OW.move rfl rfl (OW.nil NX.calm))) ?_
        refine XW.gyes rfl rfl ?_
        refine XW.len rfl el22 rfl ?_
        refine XW.val rfl rfl (fun zw hz => OW.gyes rfl rfl (OW.gtr rfl rfl rfl (OW.nil NX.calm))) ?_
        refine XW.val rfl rfl (fun zw hz => OW.gyes rfl rfl (OW.pickF rfl rfl rfl (OW.nil NX.calm))) ?_
        refine XW.val rfl rfl (fun zw hz => OW.gyes rfl rfl (OW.move rfl rfl (OW.nil NX.calm))) ?_
        refine XW.ways (s := 60) rfl (fun hb2 => ?_) (fun hb2 => ?_)
        · omega
        · have hto : (b.id - 1).toNat = i := by omega
          refine XW.val rfl rfl (fun zw hz => OW.gyes rfl rfl (OW.move rfl rfl (OW.nil NX.calm))) ?_
          refine XW.val rfl rfl (fun zw hz => OW.gyes rfl rfl (OW.move rfl rfl (OW.nil NX.calm))) ?_
          refine XW.val rfl rfl (fun zw hz => OW.gyes rfl rfl (OW.sub' rfl rfl rfl (by omega) (OW.nil NX.calm))) ?_
          refine XW.val rfl rfl (fun zw hz => OW.gyes rfl rfl (OW.indexAddr rfl el22 rfl rfl (⟨by omega, by omega⟩) (OW.nil NX.calm))) ?_
          refine XW.val rfl rfl (fun zw hz => OW.gyes rfl rfl (OW.fieldAddr rfl fo36_1 rfl (OW.nil NX.calm))) ?_
          refine XW.val rfl rfl (fun zw hz => OW.gyes rfl rfl (OW.loadA rfl ag33 rfl (((seg_to sgx (by rw [hto])).frame hz id).sub 1 (fun j v e => Dg.ruleCells_mat j v e)) (rfl) (OW.nil NX.calm))) ?_
          refine XW.val rfl rfl (fun zw hz => OW.gyes rfl rfl (OW.loadA rfl ag31 rfl (((r4.get 2 rfl : Bk _ _ _ _).frame hz id).seg) (rfl) (OW.nil NX.calm))) ?_
          refine XW.tail ?_
          refine OW.gyes rfl rfl ?_
          refine OW.call rfl rfl cl30 (Ta.hits_does hwx.2.2.1 hh _) ?_
          rintro _ w5 ⟨rfl, f5⟩
          refine OW.gyes rfl rfl ?_
          refine OW.not rfl rfl ?_
          refine OW.gyes rfl rfl ?_
          refine OW.pickF rfl rfl rfl ?_
          refine OW.pickT rfl rfl rfl ?_
          refine OW.nil ?_
          refine NX.seq ?_
          rw [hhit]
          have r5 := r4.fr0 (hz1.trans f5)
          refine CW.slot (s := 71) rfl (show _ = Value.bool false from rfl) ?_
          refine CW.condF rfl ?_
          refine CW.skip ?_
          refine NX.seq ?_
          refine CW.seq ?_
          refine CW.seq ?_
          refine CW.region ?_
          refine OW.move rfl rfl ?_
          refine OW.len rfl el22 rfl ?_
          refine OW.move rfl rfl ?_
          refine OW.nil ?_
          refine NX.seq ?_
          refine CW.block ?_
          refine CW.loop (α := Nat) (fun t => [(3, .pointer (some ⟨b3, 0, none⟩)), (6, .slice (some ⟨bi, oi, none⟩) ins.length ci), (11, .int .i64 b.id), (12, .bool (decide (b.id > 0))), (72, .slice (some ⟨bi, oi, none⟩) ins.length ci), (73, .int .i64 ((ins.length : Nat) : Int)), (74, .int .i64 ((t : Nat) : Int))]) (fun t U => t ≤ ins.length ∧ Run w U [] [ownB 36 25 ruleR (Bel w) w (.slice (some ⟨bi, oi, none⟩) ins.length ci) ins, tabA T, pts b3 31 h.cells]) (fun t => ins.length - t) 0 (Sub.cons rfl (Sub.cons rfl (Sub.cons rfl (Sub.cons rfl (Sub.cons rfl (Sub.cons rfl (Sub.cons rfl (Sub.nil _)))))))) ⟨Nat.zero_le _, r5⟩ ?_
          rintro t U ⟨htl, r⟩
          refine CW.seq ?_
          refine CW.region ?_
          refine OW.lss rfl rfl rfl ?_
          refine OW.nil ?_
          refine NX.seq ?_
          refine CW.seq ?_
          refine CW.cond rfl (fun hlt => ?_) (fun hlt => ?_)
          · have htl2 : t < ins.length := by omega
            obtain ⟨y, hy1, hy2⟩ := getL htl2
            obtain ⟨b7, o7, hp7, hr7⟩ := (r.get 0 rfl : OwnAt _ _ _ _ _ _ _ _).at' htl2
            obtain ⟨cy, sgy, hry⟩ := hr7 t y hy2
            have hcy := ruleR_ok.len hry
            cases hp7
            refine CW.skip ?_
            refine NX.seq ?_
            refine CW.seq ?_
            refine CW.block ?_
            refine CW.seq ?_
            refine CW.region ?_
            refine OW.move rfl rfl ?_
            refine OW.indexAddr rfl el22 rfl rfl (⟨by omega, by omega⟩) ?_
            refine OW.loadA rfl ag36 rfl (sgy) (hcy) ?_
            refine OW.alloc rfl zr36 ?_
            intro b14 w7 n7
            have r7 := r.newPts (cs := ruleCells 0 ⟨fun _ => 0, fun _ => 0⟩ (.slice none 0 0) 0) n7
            refine OW.assign rfl rfl ?_
            refine OW.store (v := .agg cy.toArray) rfl rfl (show _ = some cy.toArray.size from by rw [List.size_toArray, hcy]; exact sz36) (r7.get 0 rfl : Bk _ _ _ _) (by show 0 + cy.toArray.size ≤ _; rw [List.size_toArray, hcy]; exact Nat.le_refl _) (fun x hx => ruleR_ok.one hry x (by simpa [Value.cells] using hx)) ?_
            intro w8 f8 s8 b8
            have b8' : Bk w8 b14 36 cy := by
              have e : upd (ruleCells 0 ⟨fun _ => 0, fun _ => 0⟩ (.slice none 0 0) 0) 0 cy = cy := upd_all (by rw [hcy]; rfl)
              rw [← e]; exact b8
            have r8 := r7.put 0 rfl (Moves.pts f8 b8')
            obtain ⟨cvy, ecy, hcpy, hwy⟩ := hry
            subst ecy
            refine OW.nil ?_
            refine NX.seq ?_
            refine CW.seq ?_
            refine CW.drawY [(0, false), (1, false), (2, false), (3, true), (4, false), (5, false), (6, false), (7, false), (8, false), (9, false), (10, false), (11, false), (12, false), (13, false), (14, false), (15, false), (16, false), (17, false), (18, false), (19, false), (20, false), (21, false), (22, false), (23, false), (24, false), (25, false), (26, false), (27, false), (28, false), (29, false), (30, false), (31, false)] [32, 33, 34, 35] (fun z => Fr0 w8 z) MIX (by kernel_rfl) (fun _ h => h) ?_
            intro z2 hz2
            refine XW.val rfl rfl (fun zw hz => OW.fieldAddr rfl fo36_1 rfl (OW.nil NX.calm)) ?_
            refine XW.val rfl rfl (fun zw hz => OW.loadA rfl ag33 rfl (((r8.get 0 rfl : Bk _ _ _ _).frame hz id).segAt 1 y.mat.cells (fun j v e => Dg.ruleCells_mat j v e)) (rfl) (OW.nil NX.calm)) ?_
            refine XW.val rfl rfl (fun zw hz => OW.loadA rfl ag31 rfl (((r8.get 3 rfl : Bk _ _ _ _).frame hz id).seg) (rfl) (OW.nil NX.calm)) ?_
            refine XW.does ?_
            refine OW.call rfl rfl cl30 (Ta.hits_does hwy.2.2.1 hh _) ?_
            rintro _ w9 ⟨rfl, f9⟩
            refine OW.nil (NX.does (hz2.trans f9) ?_)
            have r9 := r8.fr0 (hz2.trans f9)
            refine XW.val rfl rfl (fun zw hz => OW.move rfl rfl (OW.nil NX.calm)) ?_
            refine XW.waysB (s := 83) rfl (fun hhy => ?_) (fun hhy => ?_)
            · refine XW.val rfl rfl (fun zw hz => OW.gyes rfl rfl (OW.move rfl rfl (OW.nil NX.calm))) ?_
              refine XW.val rfl rfl (fun zw hz => OW.gyes rfl rfl (OW.not rfl rfl (OW.nil NX.calm))) ?_
              refine XW.val rfl rfl (fun zw hz => OW.gyes rfl rfl (OW.move rfl rfl (OW.nil NX.calm))) ?_
              refine XW.slot (s := 86) rfl (show _ = Value.bool false from congrArg (fun z => Value.bool (!z)) (decide_eq_true hb)) ?_
              have hbt2 := hbest t y hy2 hhy
              have hto : (b.id - 1).toNat = i := by omega
              obtain ⟨c2, sg2, cv2, rfl, _, _⟩ := (show ∃ c, Seg w8 bi (oi + i * 25) c ∧ ruleR (Bel w) w c x from by
                obtain ⟨b2, o2, hp2, hr2⟩ := (r8.get 1 rfl : OwnAt _ _ _ _ _ _ _ _).at' hil
                cases hp2
                exact hr2 i x hix)
              refine XW.val rfl rfl (fun zw hz => OW.gyes rfl rfl (OW.fieldAddr rfl fo36_0 rfl (OW.nil NX.calm))) ?_
              refine XW.val rfl rfl (fun zw hz => OW.gyes rfl rfl (OW.load1 rfl ct3 rfl (((r8.get 0 rfl : Bk _ _ _ _).frame hz id).cell (o := 0) rfl) (OW.nil NX.calm))) ?_
              refine XW.val rfl rfl (fun zw hz => OW.gyes rfl rfl (OW.move rfl rfl (OW.nil NX.calm))) ?_
              refine XW.val rfl rfl (fun zw hz => OW.gyes rfl rfl (OW.move rfl rfl (OW.nil NX.calm))) ?_
              refine XW.val rfl rfl (fun zw hz => OW.gyes rfl rfl (OW.sub' rfl rfl rfl (by omega) (OW.nil NX.calm))) ?_
              refine XW.val rfl rfl (fun zw hz => OW.gyes rfl rfl (OW.indexAddr rfl el22 rfl rfl (⟨by omega, by omega⟩) (OW.nil NX.calm))) ?_
              refine XW.val rfl rfl (fun zw hz => OW.gyes rfl rfl (OW.fieldAddr rfl fo36_0 rfl (OW.nil NX.calm))) ?_
              refine XW.val rfl rfl (fun zw hz => OW.gyes rfl rfl (OW.load1 rfl ct3 rfl (rank_to (sg2.frame hz id) (by rw [hto, Nat.add_zero])) (OW.nil NX.calm))) ?_
              refine XW.val rfl rfl (fun zw hz => OW.gyes rfl rfl (OW.gtr rfl rfl rfl (OW.nil NX.calm))) ?_
              refine XW.val rfl rfl (fun zw hz => OW.gyes rfl rfl (OW.pickF rfl rfl rfl (OW.nil NX.calm))) ?_
              refine XW.val rfl rfl (fun zw hz => OW.gyes rfl rfl (OW.move rfl rfl (OW.nil NX.calm))) ?_
              refine XW.ways (s := 97) rfl (fun hg1 => ?_) (fun hg1 => ?_)
              · omega
              · refine XW.val rfl rfl (fun zw hz => OW.gyes rfl rfl (OW.fieldAddr rfl fo36_0 rfl (OW.nil NX.calm))) ?_
                refine XW.val rfl rfl (fun zw hz => OW.gyes rfl rfl (OW.load1 rfl ct3 rfl (((r8.get 0 rfl : Bk _ _ _ _).frame hz id).cell (o := 0) rfl) (OW.nil NX.calm))) ?_
                refine XW.val rfl rfl (fun zw hz => OW.gyes rfl rfl (OW.move rfl rfl (OW.nil NX.calm))) ?_
                refine XW.val rfl rfl (fun zw hz => OW.gyes rfl rfl (OW.move rfl rfl (OW.nil NX.calm))) ?_
                refine XW.val rfl rfl (fun zw hz => OW.gyes rfl rfl (OW.sub' rfl rfl rfl (by omega) (OW.nil NX.calm))) ?_
                refine XW.val rfl rfl (fun zw hz => OW.gyes rfl rfl (OW.indexAddr rfl el22 rfl rfl (⟨by omega, by omega⟩) (OW.nil NX.calm))) ?_
                refine XW.val rfl rfl (fun zw hz => OW.gyes rfl rfl (OW.fieldAddr rfl fo36_0 rfl (OW.nil NX.calm))) ?_
                refine XW.val rfl rfl (fun zw hz => OW.gyes rfl rfl (OW.load1 rfl ct3 rfl (rank_to (sg2.frame hz id) (by rw [hto, Nat.add_zero])) (OW.nil NX.calm))) ?_
                refine XW.val rfl rfl (fun zw hz => OW.gyes rfl rfl (OW.eql rfl rfl rfl (OW.nil NX.calm))) ?_
                refine XW.val rfl rfl (fun zw hz => OW.gyes rfl rfl (OW.move rfl rfl (OW.nil NX.calm))) ?_
                refine XW.ways (s := 107) rfl (fun hg2 => ?_) (fun hg2 => ?_)
                · refine XW.val rfl rfl (fun zw hz => OW.gyes rfl rfl (OW.move rfl rfl (OW.nil NX.calm))) ?_
                  refine XW.val rfl rfl (fun zw hz => OW.gyes rfl rfl (OW.move rfl rfl (OW.nil NX.calm))) ?_
                  refine XW.val rfl rfl (fun zw hz => OW.gyes rfl rfl (OW.sub' rfl rfl rfl (by omega) (OW.nil NX.calm))) ?_
                  refine XW.tail ?_
                  refine OW.gyes rfl rfl ?_
                  refine OW.lss rfl rfl rfl ?_
                  refine OW.gyes rfl rfl ?_
                  refine OW.pickT rfl rfl rfl ?_
                  refine OW.gyes rfl rfl ?_
                  refine OW.pickF rfl rfl rfl ?_
                  refine OW.pickT rfl rfl rfl ?_
                  refine OW.nil ?_
                  refine NX.seq ?_
                  refine CW.cond rfl (fun hg3 => ?_) (fun hg3 => ?_)
                  · omega
                  · refine CW.skip ?_
                    refine NX.blockN ?_
                    refine NX.seq ?_
                    refine CW.region ?_
                    refine OW.add rfl rfl rfl (by omega) ?_
                    refine OW.move rfl rfl ?_
                    refine OW.nil ?_
                    exact NX.loop (t + 1) ((Sub.cons rfl (Sub.cons rfl (Sub.cons rfl (Sub.cons rfl (Sub.cons rfl (Sub.cons rfl (Sub.cons rfl (Sub.nil _))))))))) (⟨by omega, r9.drop⟩) (by omega)
                · refine XW.gno rfl rfl rfl rfl ?_
                  refine XW.gno rfl rfl rfl rfl ?_
                  refine XW.gno rfl rfl rfl rfl ?_
                  refine XW.tail ?_
                  refine OW.gnoD rfl rfl rfl rfl ?_
                  refine OW.gyes rfl rfl ?_
                  refine OW.pickF rfl rfl rfl ?_
                  refine OW.gyes rfl rfl ?_
                  refine OW.pickF rfl rfl rfl ?_
                  refine OW.pickT rfl rfl rfl ?_
                  refine OW.nil ?_
                  refine NX.seq ?_
                  refine CW.condF rfl ?_
                  refine CW.skip ?_
                  refine NX.blockN ?_
                  refine NX.seq ?_
                  refine CW.region ?_
                  refine OW.add rfl rfl rfl (by omega) ?_
                  refine OW.move rfl rfl ?_
                  refine OW.nil ?_
                  exact NX.loop (t + 1) ((Sub.cons rfl (Sub.cons rfl (Sub.cons rfl (Sub.cons rfl (Sub.cons rfl (Sub.cons rfl (Sub.cons rfl (Sub.nil _))))))))) (⟨by omega, r9.drop⟩) (by omega)
            · refine XW.gno rfl rfl rfl rfl ?_
              refine XW.gno rfl rfl rfl rfl ?_
              refine XW.gno rfl rfl rfl rfl ?_
              refine XW.gnoU rfl rfl rfl ?_
              refine XW.gnoU rfl rfl rfl ?_
              refine XW.gnoU rfl rfl rfl ?_
              refine XW.gnoU rfl rfl rfl ?_
              refine XW.gnoU rfl rfl rfl ?_
              refine XW.gnoU rfl rfl rfl ?_
              refine XW.gnoU rfl rfl rfl ?_
              refine XW.gnoU rfl rfl rfl ?_
              refine XW.gnoU rfl rfl rfl ?_
              refine XW.gno rfl rfl rfl rfl ?_
              refine XW.gno rfl rfl rfl rfl ?_
              refine XW.gnoU rfl rfl rfl ?_
              refine XW.gnoU rfl rfl rfl ?_
              refine XW.gnoU rfl rfl rfl ?_
              refine XW.gnoU rfl rfl rfl ?_
              refine XW.gnoU rfl rfl rfl ?_
              refine XW.gnoU rfl rfl rfl ?_
              refine XW.gnoU rfl rfl rfl ?_
              refine XW.gnoU rfl rfl rfl ?_
              refine XW.gnoU rfl rfl rfl ?_
              refine XW.gnoU rfl rfl rfl ?_
              refine XW.gnoU rfl rfl rfl ?_
              refine XW.gnoU rfl rfl rfl ?_
              refine XW.gnoU rfl rfl rfl ?_
              refine XW.tail ?_
              refine OW.gnoU rfl rfl rfl ?_
              refine OW.gnoU rfl rfl rfl ?_
              refine OW.gnoD rfl rfl rfl rfl ?_
              refine OW.pickF rfl rfl rfl ?_
              refine OW.nil ?_
              refine NX.seq ?_
              refine CW.condF rfl ?_
              refine CW.skip ?_
              refine NX.blockN ?_
              refine NX.seq ?_
              refine CW.region ?_
              refine OW.add rfl rfl rfl (by omega) ?_
              refine OW.move rfl rfl ?_
              refine OW.nil ?_
              exact NX.loop (t + 1) ((Sub.cons rfl (Sub.cons rfl (Sub.cons rfl (Sub.cons rfl (Sub.cons rfl (Sub.cons rfl (Sub.cons rfl (Sub.nil _))))))))) (⟨by omega, r9.drop⟩) (by omega)
          · refine CW.exit ?_
            refine NX.thenExit ?_
            refine NX.thenExit ?_
            refine NX.blockEq ?_
            refine NX.seq ?_
            refine CW.seq ?_
            refine CW.region ?_
            refine OW.call rfl rfl cl31 (Tf.wakes_does U) ?_
            rintro _ w10 ⟨rfl, f10⟩
            refine OW.assign rfl rfl ?_
            refine OW.nil ?_
            refine NX.seq ?_
            refine CW.ret ?_
            exact NX.ret1 rfl rfl (⟨rfl, run0 (r.fr0 f10)⟩)
    · have r5 := r4.fr0 hz1
      refine XW.gno rfl rfl rfl rfl ?_
      refine XW.gno rfl rfl rfl rfl ?_
      refine XW.gno rfl rfl rfl rfl ?_
      refine XW.gnoU rfl rfl rfl ?_
      refine XW.gnoU rfl rfl rfl ?_
      refine XW.gnoU rfl rfl rfl ?_
      refine XW.gnoU rfl rfl rfl ?_
      refine XW.gno rfl rfl rfl rfl ?_
      refine XW.gno rfl rfl rfl rfl ?_
      refine XW.gnoU rfl rfl rfl ?_
      refine XW.gnoU rfl rfl rfl ?_
      refine XW.gnoU rfl rfl rfl ?_
      refine XW.gnoU rfl rfl rfl ?_
      refine XW.gnoU rfl rfl rfl ?_
      refine XW.gnoU rfl rfl rfl ?_
      refine XW.gnoU rfl rfl rfl ?_
      refine XW.tail ?_
      refine OW.gnoU rfl rfl rfl ?_
      refine OW.gnoU rfl rfl rfl ?_
      refine OW.gnoD rfl rfl rfl rfl ?_
      refine OW.pickF rfl rfl rfl ?_
      refine OW.nil ?_
      refine NX.seq ?_
      refine CW.condF rfl ?_
      refine CW.skip ?_
      refine NX.seq ?_
      refine CW.seq ?_
      refine CW.seq ?_
      refine CW.region ?_
      refine OW.move rfl rfl ?_
      refine OW.len rfl el22 rfl ?_
      refine OW.move rfl rfl ?_
      refine OW.nil ?_
      refine NX.seq ?_
      refine CW.block ?_
      refine CW.loop (α := Nat) (fun t => [(3, .pointer (some ⟨b3, 0, none⟩)), (6, .slice pi ins.length ci), (11, .int .i64 b.id), (12, .bool (decide (b.id > 0))), (72, .slice pi ins.length ci), (73, .int .i64 ((ins.length : Nat) : Int)), (74, .int .i64 ((t : Nat) : Int))]) (fun t U => t ≤ ins.length ∧ Run w U [] [ownB 36 25 ruleR (Bel w) w (.slice pi ins.length ci) ins, tabA T, pts b3 31 h.cells]) (fun t => ins.length - t) 0 (Sub.cons rfl (Sub.cons rfl (Sub.cons rfl (Sub.cons rfl (Sub.cons rfl (Sub.cons rfl (Sub.cons rfl (Sub.nil _)))))))) ⟨Nat.zero_le _, r5⟩ ?_
      rintro t U ⟨htl, r⟩
      refine CW.seq ?_
      refine CW.region ?_
      refine OW.lss rfl rfl rfl ?_
      refine OW.nil ?_
      refine NX.seq ?_
      refine CW.seq ?_
      refine CW.cond rfl (fun hlt => ?_) (fun hlt => ?_)
      · have htl2 : t < ins.length := by omega
        obtain ⟨y, hy1, hy2⟩ := getL htl2
        obtain ⟨b7, o7, hp7, hr7⟩ := (r.get 0 rfl : OwnAt _ _ _ _ _ _ _ _).at' htl2
        obtain ⟨cy, sgy, hry⟩ := hr7 t y hy2
        have hcy := ruleR_ok.len hry
        refine CW.skip ?_
        refine NX.seq ?_
        refine CW.seq ?_
        refine CW.block ?_
        refine CW.seq ?_
        refine CW.region ?_
        refine OW.move rfl rfl ?_
        refine OW.indexAddr (b := b7) (o := o7) rfl el22 (by rw [← hp7]; rfl) rfl (⟨by omega, by omega⟩) ?_
        refine OW.loadA rfl ag36 rfl (sgy) (hcy) ?_
        refine OW.alloc rfl zr36 ?_
        intro b14 w7 n7
        have r7 := r.newPts (cs := ruleCells 0 ⟨fun _ => 0, fun _ => 0⟩ (.slice none 0 0) 0) n7
        refine OW.assign rfl rfl ?_
        refine OW.store (v := .agg cy.toArray) rfl rfl (show _ = some cy.toArray.size from by rw [List.size_toArray, hcy]; exact sz36) (r7.get 0 rfl : Bk _ _ _ _) (by show 0 + cy.toArray.size ≤ _; rw [List.size_toArray, hcy]; exact Nat.le_refl _) (fun x hx => ruleR_ok.one hry x (by simpa [Value.cells] using hx)) ?_
        intro w8 f8 s8 b8
        have b8' : Bk w8 b14 36 cy := by
          have e : upd (ruleCells 0 ⟨fun _ => 0, fun _ => 0⟩ (.slice none 0 0) 0) 0 cy = cy := upd_all (by rw [hcy]; rfl)
          rw [← e]; exact b8
        have r8 := r7.put 0 rfl (Moves.pts f8 b8')
        obtain ⟨cvy, ecy, hcpy, hwy⟩ := hry
        subst ecy
        refine OW.nil ?_
        refine NX.seq ?_
        refine CW.seq ?_
        refine CW.drawY [(0, false), (1, false), (2, false), (3, true), (4, false), (5, false), (6, false), (7, false), (8, false), (9, false), (10, false), (11, false), (12, false), (13, false), (14, false), (15, false), (16, false), (17, false), (18, false), (19, false), (20, false), (21, false), (22, false), (23, false), (24, false), (25, false), (26, false), (27, false), (28, false), (29, false), (30, false), (31, false)] [32, 33, 34, 35] (fun z => Fr0 w8 z) MIX (by kernel_rfl) (fun _ h => h) ?_
        intro z2 hz2
        refine XW.val rfl rfl (fun zw hz => OW.fieldAddr rfl fo36_1 rfl (OW.nil NX.calm)) ?_
        refine XW.val rfl rfl (fun zw hz => OW.loadA rfl ag33 rfl (((r8.get 0 rfl : Bk _ _ _ _).frame hz id).segAt 1 y.mat.cells (fun j v e => Dg.ruleCells_mat j v e)) (rfl) (OW.nil NX.calm)) ?_
        refine XW.val rfl rfl (fun zw hz => OW.loadA rfl ag31 rfl (((r8.get 3 rfl : Bk _ _ _ _).frame hz id).seg) (rfl) (OW.nil NX.calm)) ?_
        refine XW.does ?_
        refine OW.call rfl rfl cl30 (Ta.hits_does hwy.2.2.1 hh _) ?_
        rintro _ w9 ⟨rfl, f9⟩
        refine OW.nil (NX.does (hz2.trans f9) ?_)
        have r9 := r8.fr0 (hz2.trans f9)
        refine XW.val rfl rfl (fun zw hz => OW.move rfl rfl (OW.nil NX.calm)) ?_
        refine XW.waysB (s := 83) rfl (fun hhy => ?_) (fun hhy => ?_)
        · exact absurd (top_no ht hb hy2) (by rw [hhy]; simp)
        · refine XW.gno rfl rfl rfl rfl ?_
          refine XW.gno rfl rfl rfl rfl ?_
          refine XW.gno rfl rfl rfl rfl ?_
          refine XW.gnoU rfl rfl rfl ?_
          refine XW.gnoU rfl rfl rfl ?_
          refine XW.gnoU rfl rfl rfl ?_
          refine XW.gnoU rfl rfl rfl ?_
          refine XW.gnoU rfl rfl rfl ?_
          refine XW.gnoU rfl rfl rfl ?_
          refine XW.gnoU rfl rfl rfl ?_
          refine XW.gnoU rfl rfl rfl ?_
          refine XW.gnoU rfl rfl rfl ?_
          refine XW.gno rfl rfl rfl rfl ?_
          refine XW.gno rfl rfl rfl rfl ?_
          refine XW.gnoU rfl rfl rfl ?_
          refine XW.gnoU rfl rfl rfl ?_
          refine XW.gnoU rfl rfl rfl ?_
          refine XW.gnoU rfl rfl rfl ?_
          refine XW.gnoU rfl rfl rfl ?_
          refine XW.gnoU rfl rfl rfl ?_
          refine XW.gnoU rfl rfl rfl ?_
          refine XW.gnoU rfl rfl rfl ?_
          refine XW.gnoU rfl rfl rfl ?_
          refine XW.gnoU rfl rfl rfl ?_
          refine XW.gnoU rfl rfl rfl ?_
          refine XW.gnoU rfl rfl rfl ?_
          refine XW.gnoU rfl rfl rfl ?_
          refine XW.tail ?_
          refine OW.gnoU rfl rfl rfl ?_
          refine OW.gnoU rfl rfl rfl ?_
          refine OW.gnoD rfl rfl rfl rfl ?_
          refine OW.pickF rfl rfl rfl ?_
          refine OW.nil ?_
          refine NX.seq ?_
          refine CW.condF rfl ?_
          refine CW.skip ?_
          refine NX.blockN ?_
          refine NX.seq ?_
          refine CW.region ?_
          refine OW.add rfl rfl rfl (by omega) ?_
          refine OW.move rfl rfl ?_
          refine OW.nil ?_
          exact NX.loop (t + 1) ((Sub.cons rfl (Sub.cons rfl (Sub.cons rfl (Sub.cons rfl (Sub.cons rfl (Sub.cons rfl (Sub.cons rfl (Sub.nil _))))))))) (⟨by omega, r9.drop⟩) (by omega)
      · refine CW.exit ?_
        refine NX.thenExit ?_
        refine NX.thenExit ?_
        refine NX.blockEq ?_
        refine NX.seq ?_
        refine CW.seq ?_
        refine CW.region ?_
        refine OW.call rfl rfl cl31 (Tf.wakes_does U) ?_
        rintro _ w10 ⟨rfl, f10⟩
        refine OW.assign rfl rfl ?_
        refine OW.nil ?_
        refine NX.seq ?_
        refine CW.ret ?_
        exact NX.ret1 rfl rfl (⟨rfl, run0 (r.fr0 f10)⟩)

end Go.Eng.Tg
