/-
  DeleteFunc and Delete of slices of package tuples, stepped through.
  No condition.
-/
import Derived.Test.YtmdhbgkmkmmmpaaTc
import Derived.Test.YtmdhbgkmkmmmpaaEngAA
import Derived.Test.YtmdhbgkmkmmmpaaProg
import Derived.KernelRfl
namespace Go.Eng.Th
open Go Go.Eng Go.Proofs
theorem MIX : Try.prog.follows .mixedOrders = true := by kernel_rfl

theorem ag137 : aggSz Try.prog 137 = some 2 := by kernel_rfl
theorem ap125 : apdIs Try.prog 125 = some (130, 1, 8) := by kernel_rfl
theorem cl128 : callable Try.prog 128 = true := by kernel_rfl
theorem ct3 : cellTy Try.prog 3 = true := by kernel_rfl
theorem el125 : elemIs Try.prog 125 = some (130, 1) := by kernel_rfl
theorem el135 : elemIs Try.prog 135 = some (137, 2) := by kernel_rfl
theorem fo137_0 : fieldOff Try.prog 137 0 = some 0 := by kernel_rfl
theorem sl125 : Try.prog.underlying 125 = some (.slice 130) := by kernel_rfl
theorem sl135 : Try.prog.underlying 135 = some (.slice 137) := by kernel_rfl
theorem sz137 : sizeIs Try.prog 137 = some 2 := by kernel_rfl
theorem zr130 : zeroIs Try.prog 130 = some (.pointer none) := by kernel_rfl
theorem zr137 : zeroIs Try.prog 137 = some (.agg #[.int .i64 0, .int .i64 0]) := by kernel_rfl

theorem isIn_does {x : In} {b : Nat} {id : Int} (w : World) (hb : Bk w b 3 [.int .i64 id]) : Does Try.prog 75 [.agg #[.int .i64 x.id, .int .i64 x.rank], .pointer (some ⟨b, 0, none⟩)] w fun v w' => v = .bool (decide (x.id = id)) ∧ Fr0 w w' := by
  refine Does.enter Try.func75 rfl rfl ?_
  show CW _ _ _ _ 8 [] [(0, .agg #[.int .i64 x.id, .int .i64 x.rank]), (1, .pointer (some ⟨b, 0, none⟩))] w
  refine CW.seq ?_
  refine CW.region ?_
  refine OW.boxA (vs := [.int .i64 x.id, .int .i64 x.rank]) rfl rfl ?_
  intro b1 w1 n1
  refine OW.assign rfl rfl ?_
  refine OW.nil ?_
  refine NX.seq ?_
  refine CW.seq ?_
  refine CW.region ?_
  refine OW.fieldAddr rfl fo137_0 rfl ?_
  refine OW.load1 rfl ct3 rfl (n1.bk.cell (o := 0) rfl) ?_
  refine OW.load1 rfl ct3 rfl ((hb.frame n1.fr (fun c => c)).cell (o := 0) rfl) ?_
  refine OW.eql rfl rfl rfl ?_
  refine OW.assign rfl rfl ?_
  refine OW.nil ?_
  refine NX.seq ?_
  refine CW.ret ?_
  exact NX.ret1 rfl rfl (⟨rfl, n1.fr⟩)

theorem idx_none {α : Type} {p : α → Bool} {l : List α} (h : l.findIdx? p = none) : l.filter (fun x => !p x) = l := by
  rw [List.findIdx?_eq_none_iff] at h
  exact List.filter_eq_self.2 fun x hx => by rw [h x hx]; rfl
theorem idx_some {α : Type} {p : α → Bool} {l : List α} {i : Nat} (h : l.findIdx? p = some i) : i < l.length ∧ (l.take (i + 1)).filter (fun x => !p x) = l.take i := by
  obtain ⟨hi, hp, hn⟩ := List.findIdx?_eq_some_iff_getElem.1 h
  refine ⟨hi, ?_⟩
  rw [List.take_succ_eq_append_getElem hi, List.filter_append, List.filter_cons, hp]
  simp only [Bool.not_true, Bool.false_eq_true, if_false, List.filter_nil, List.append_nil]
  refine List.filter_eq_self.2 fun x hx => ?_
  obtain ⟨j, hj, rfl⟩ := List.getElem_of_mem hx
  rw [List.length_take] at hj
  have := hn j (by omega)
  rw [List.getElem_take]; simpa using this
structure Cut {α : Type} (p : α → Bool) (xs ys : List α) (i j : Nat) : Prop where
  ij : i < j
  jn : j ≤ xs.length
  len : ys.length = xs.length
  head : ys.take i = (xs.take j).filter fun x => !p x
  tail : ys.drop j = xs.drop j
theorem Cut.first {α : Type} {p : α → Bool} {xs : List α} {i : Nat} (h : xs.findIdx? p = some i) : Cut p xs xs i (i + 1) :=
  ⟨by omega, (idx_some h).1, rfl, (idx_some h).2.symm, rfl⟩
theorem Cut.at {α : Type} {p : α → Bool} {xs ys : List α} {i j : Nat} (h : Cut p xs ys i j) (hj : j < xs.length) : ys[j]? = some xs[j] := by
  have := congrArg (fun l => l[0]?) h.tail
  simp only [List.getElem?_drop, Nat.add_zero] at this
  rw [this, List.getElem?_eq_getElem hj]
theorem Cut.skip {α : Type} {p : α → Bool} {xs ys : List α} {i j : Nat} (h : Cut p xs ys i j) (hj : j < xs.length) (hp : p xs[j] = true) : Cut p xs ys i (j + 1) := by
  refine ⟨by have := h.ij; omega, hj, h.len, ?_, ?_⟩
  · rw [List.take_succ_eq_append_getElem hj, List.filter_append, List.filter_cons, hp, h.head]
    simp
  · rw [← List.drop_drop, h.tail, List.drop_drop]
theorem Cut.keep {α : Type} {p : α → Bool} {xs ys : List α} {i j : Nat} (h : Cut p xs ys i j) (hj : j < xs.length) (hp : p xs[j] = false) : Cut p xs (ys.set i xs[j]) (i + 1) (j + 1) := by
  have hij := h.ij
  have hl := h.len
  refine ⟨by omega, hj, by simp [h.len], ?_, ?_⟩
  · rw [List.take_succ_eq_append_getElem hj, List.filter_append, List.filter_cons, hp, ← h.head]
    rw [List.take_succ_eq_append_getElem (by rw [List.length_set]; omega), List.take_set_of_le (Nat.le_refl _)]
    simp
  · rw [List.drop_set_of_lt (by omega), ← List.drop_drop, h.tail, List.drop_drop]
theorem Cut.done {α : Type} {p : α → Bool} {xs ys : List α} {i : Nat} (h : Cut p xs ys i xs.length) : ys.take i = xs.filter fun x => !p x := by
  have := h.head
  rwa [List.take_length] at this

theorem delFunc_does {v : Value} {xs : List In} {g : Nat} {first cap : Array Value} {pr : In → Bool} {w : World} (ho : OwnSl 137 2 inR (fun _ => False) w v xs) (hc : callable Try.prog g = true)
    (hn : xs.length ≤ 140737488355328) (hd : ∀ x c w1, x ∈ xs → Fr (fun k => v.ownBlock = some k) w w1 → inR (fun _ => False) w1 c x → Does Try.prog g (first.toList ++ [.agg c.toArray] ++ cap.toList) w1 fun r w' => r = .bool (pr x) ∧ Fr0 w1 w') : Does Try.prog 74 [v, .func (.func g) first cap] w fun r w' => OwnSl 137 2 inR (fun _ => False) w' r (xs.filter fun x => !pr x) ∧ Fr (fun k => v.ownBlock = some k) w w' ∧ (∀ k, r.ownBlock = some k → v.ownBlock = some k) := by
  obtain ⟨pa, ca, rfl, hcap⟩ := ho.shape
  refine Does.enter Try.func74 rfl rfl ?_
  show CW _ _ _ _ 42 [] [(0, .slice pa xs.length ca), (1, .func (.func g) first cap)] w
  refine CW.seq ?_
  refine CW.region ?_
  refine OW.assign rfl rfl ?_
  refine OW.nil ?_
  refine NX.seq ?_
  refine CW.seq ?_
  refine CW.region ?_
  refine OW.move rfl rfl ?_
  refine OW.move rfl rfl ?_
  refine OW.call rfl rfl cl128 (Tb.idxIns_does inR_ok ho hc hn (fun x c w1 hx f hr => hd x c w1 hx f.any hr)) ?_
  rintro _ w1 ⟨rfl, f1⟩
  rcases hfi : xs.findIdx? pr with _ | i0
  · have hidx : Tb.idxI pr xs = -1 := by unfold Tb.idxI; rw [hfi]
    rw [hidx]
    refine OW.assign rfl rfl ?_
    refine OW.nil ?_
    refine NX.seq ?_
    refine CW.seq ?_
    refine CW.seq ?_
    refine CW.region ?_
    refine OW.move rfl rfl ?_
    refine OW.eql rfl rfl rfl ?_
    refine OW.nil ?_
    refine NX.seq ?_
    refine CW.cond rfl (fun hneg => ?_) (fun hneg => ?_)
    · refine CW.seq ?_
      refine CW.region ?_
      refine OW.move rfl rfl ?_
      refine OW.assign rfl rfl ?_
      refine OW.nil ?_
      refine NX.seq ?_
      refine CW.ret ?_
      refine NX.thenRet ?_
      exact NX.ret1 rfl rfl (⟨by rw [idx_none hfi]; exact ho.frame inR_ok f1 (fun k _ c => c) (fun k c => c.elim), f1.any, fun k hk => hk⟩)
    · omega
  · have hidx : Tb.idxI pr xs = ((i0 : Nat) : Int) := by unfold Tb.idxI; rw [hfi]
    rw [hidx]
    obtain ⟨hi0, _⟩ := idx_some hfi
    have ho1 := ho.frame inR_ok f1 (fun k _ c => c) (fun k c => c.elim)
    refine OW.assign rfl rfl ?_
    refine OW.nil ?_
    refine NX.seq ?_
    refine CW.seq ?_
    refine CW.seq ?_
    refine CW.region ?_
    refine OW.move rfl rfl ?_
    refine OW.eql rfl rfl rfl ?_
    refine OW.nil ?_
    refine NX.seq ?_
    refine CW.cond rfl (fun hneg => ?_) (fun hneg => ?_)
    · omega
    · obtain ⟨b, _, rfl, _, hxc, _⟩ := ho1.blk (fun _ => by omega)
      have hown : ∀ k, (Value.slice (some ⟨b, 0, none⟩) xs.length ca).ownBlock = some k ↔ k = b := fun k => ⟨fun h => by cases h; rfl, fun h => by rw [h]; rfl⟩
      refine CW.skip ?_
      refine NX.seq ?_
      refine CW.seq ?_
      refine CW.seq ?_
      refine CW.region ?_
      refine OW.move rfl rfl ?_
      refine OW.add rfl rfl rfl (by omega) ?_
      refine OW.assign rfl rfl ?_
      refine OW.nil ?_
      refine NX.seq ?_
      refine CW.block ?_
      refine CW.loop (α := Nat × Nat × List In) (fun s : Nat × Nat × List In => [(0, .slice (some ⟨b, 0, none⟩) xs.length ca), (1, .func (.func g) first cap), (5, .int .i64 ((s.1 : Nat) : Int)), (6, .int .i64 ((s.2.1 : Nat) : Int))]) (fun (s : Nat × Nat × List In) U => Cut pr xs s.2.2 s.1 s.2.1 ∧ OwnSl 137 2 inR (fun _ => False) U (.slice (some ⟨b, 0, none⟩) xs.length ca) s.2.2 ∧ Fr (fun k => k = b) w U) (fun s : Nat × Nat × List In => xs.length - s.2.1) (i0, i0 + 1, xs) (Sub.cons rfl (Sub.cons rfl (Sub.cons rfl (Sub.cons rfl (Sub.nil _))))) ⟨Cut.first hfi, ho1, f1.any⟩ ?_
      rintro ⟨i, j, ys⟩ U ⟨cut, oU, fU⟩
      simp only at cut oU fU
      show CW _ _ _ _ _ _ [(0, .slice (some ⟨b, 0, none⟩) xs.length ca), (1, .func (.func g) first cap), (5, .int .i64 ((i : Nat) : Int)), (6, .int .i64 ((j : Nat) : Int))] U
      refine CW.seq ?_
      refine CW.seq ?_
      refine CW.region ?_
      refine OW.move rfl rfl ?_
      refine OW.move rfl rfl ?_
      refine OW.len rfl el135 rfl ?_
      refine OW.lss rfl rfl rfl ?_
      refine OW.nil ?_
      refine NX.seq ?_
      refine CW.cond rfl (fun hlt => ?_) (fun hlt => ?_)
      · have hjl : j < xs.length := by omega
        have hij := cut.ij
        have hyl := cut.len
        have oU' : OwnSl 137 2 inR (fun _ => False) U (.slice (some ⟨b, 0, none⟩) ys.length ca) ys := by rw [hyl]; exact oU
        obtain ⟨b2, o2, hpa, hr⟩ := oU'.rd.at' (i := j) (by omega)
        cases hpa
        obtain ⟨x, hx⟩ : ∃ x, x = xs[j] := ⟨_, rfl⟩
        have hxm : x ∈ xs := by rw [hx]; exact List.getElem_mem hjl
        obtain ⟨c, sg, hxc2⟩ := hr j x (by rw [hx]; exact cut.at hjl)
        obtain ⟨rfl, hwf⟩ := hxc2
        refine CW.skip ?_
        refine NX.seq ?_
        refine CW.seq ?_
        refine CW.block ?_
        refine CW.seq ?_
        refine CW.region ?_
        refine OW.move rfl rfl ?_
        refine OW.move rfl rfl ?_
        refine OW.indexAddr rfl el135 rfl rfl (⟨by omega, by omega⟩) ?_
        refine OW.loadA rfl ag137 rfl (sg) (rfl) ?_
        refine OW.alloc rfl zr137 ?_
        intro b7 w7 n7
        refine OW.store rfl rfl sz137 (n7.bk) (Nat.le_of_ble_eq_true rfl) (fun x hx => by simp [Value.cells] at hx; rcases hx with rfl | rfl <;> rfl) ?_
        intro w8 f8 s8 b8
        have b8' : Bk w8 b7 137 [.int .i64 x.id, .int .i64 x.rank] := b8
        have hb7 : b < b7 := Nat.lt_of_lt_of_le (oU.lt rfl) (Nat.le_of_eq n7.fresh.symm)
        have f78 : Fr0 U w8 := n7.fr.trans' f8 (fun k hk c => by subst c; have := n7.fresh; omega)
        refine OW.nil ?_
        refine NX.seq ?_
        refine CW.seq ?_
        refine CW.region ?_
        refine OW.move rfl rfl ?_
        refine OW.loadA rfl ag137 rfl (b8'.seg) (rfl) ?_
        refine OW.callF rfl rfl rfl hc (hd x _ w8 hxm ((fU.trans f78.any).mono fun k _ h => (hown k).2 h) ⟨rfl, hwf⟩) ?_
        rintro _ w9 ⟨rfl, f9⟩
        refine OW.not rfl rfl ?_
        refine OW.nil ?_
        refine NX.seq ?_
        refine CW.condB rfl (fun hpr => ?_) (fun hpr => ?_)
        · refine CW.seq ?_
          refine CW.region ?_
          refine OW.move rfl rfl ?_
          refine OW.move rfl rfl ?_
          refine OW.loadA rfl ag137 rfl ((b8'.frame f9 id).seg) (rfl) ?_
          refine OW.indexAddr rfl el135 rfl rfl (⟨by omega, by omega⟩) ?_
          have o9 : OwnSl 137 2 inR (fun _ => False) w9 (.slice (some ⟨b, 0, none⟩) ys.length ca) ys := oU'.frame inR_ok (f78.trans f9) (fun k _ c => c) (fun k c => c.elim)
          refine OW.storeOwn (b := b) (i := i) (z := x) inR_ok rfl rfl sz137 rfl o9 (by omega) rfl (by simp) ⟨rfl, hwf⟩ (fun c => c) ?_
          intro w10 o10 f10 s10
          rw [hyl] at o10
          refine OW.nil ?_
          refine NX.seq ?_
          refine CW.region ?_
          refine OW.move rfl rfl ?_
          refine OW.add rfl rfl rfl (by omega) ?_
          refine OW.assign rfl rfl ?_
          refine OW.nil ?_
          refine NX.blockN ?_
          refine NX.seq ?_
          refine CW.region ?_
          refine OW.move rfl rfl ?_
          refine OW.add rfl rfl rfl (by omega) ?_
          refine OW.assign rfl rfl ?_
          refine OW.nil ?_
          exact NX.loop ((i + 1, j + 1, ys.set i x)) ((Sub.cons rfl (Sub.cons rfl (Sub.cons rfl (Sub.cons rfl (Sub.nil _)))))) (⟨by rw [hx]; exact cut.keep hjl (by rw [← hx]; simpa using hpr), o10, (fU.trans (f78.trans f9).any).trans f10⟩) ((by show xs.length - (j + 1) < xs.length - j; omega))
        · refine CW.skip ?_
          refine NX.blockN ?_
          refine NX.seq ?_
          refine CW.region ?_
          refine OW.move rfl rfl ?_
          refine OW.add rfl rfl rfl (by omega) ?_
          refine OW.assign rfl rfl ?_
          refine OW.nil ?_
          exact NX.loop ((i, j + 1, ys)) ((Sub.cons rfl (Sub.cons rfl (Sub.cons rfl (Sub.cons rfl (Sub.nil _)))))) (⟨cut.skip hjl (by rw [← hx]; simpa using hpr), oU.frame inR_ok (f78.trans f9) (fun k _ c => c) (fun k c => c.elim), fU.trans (f78.trans f9).any⟩) ((by show xs.length - (j + 1) < xs.length - j; omega))
      · have hj : j = xs.length := by have := cut.jn; omega
        subst hj
        have hij := cut.ij
        have hyl := cut.len
        have oU' : OwnSl 137 2 inR (fun _ => False) U (.slice (some ⟨b, 0, none⟩) ys.length ca) ys := by rw [hyl]; exact oU
        refine CW.exit ?_
        refine NX.thenExit ?_
        refine NX.thenExit ?_
        refine NX.blockEq ?_
        refine NX.seq ?_
        refine CW.seq ?_
        refine CW.region ?_
        refine OW.move rfl rfl ?_
        refine OW.move rfl rfl ?_
        refine OW.sliceL rfl el135 rfl rfl ⟨by omega, by omega⟩ ?_
        refine OW.slot (s := 38) rfl (show _ = Value.slice (some ⟨b, i * 2, none⟩) (xs.length - i) (ca - i) from by
            rw [if_neg (by simp only [Int.toNat_natCast]; omega)]
            simp [Addr.add]
            omega) ?_
        obtain ⟨b', cur, hb', _, _, bkU, hcl, _⟩ := oU'.blk (fun _ => by omega)
        cases hb'
        refine OW.clear (z := (.agg #[.int .i64 0, .int .i64 0])) sl135 zr137 rfl bkU (by rw [hcl]; show i * 2 + (xs.length - i) * 2 ≤ ca * 2; omega) (fun u hu => by simp [Value.cells] at hu; subst hu; rfl) ?_
        intro w2 cs2 f2 s2 bk2 l2 t2
        refine OW.nil ?_
        refine NX.seq ?_
        refine CW.seq ?_
        refine CW.region ?_
        refine OW.move rfl rfl ?_
        refine OW.move rfl rfl ?_
        refine OW.sliceH rfl el135 rfl rfl ⟨by omega, by omega⟩ ?_
        refine OW.slot (s := 41) rfl (show _ = Value.slice (some ⟨b, 0, none⟩) i ca from by
            rw [if_neg (by omega)]
            simp [Addr.add]) ?_
        have op := oU'.pre (i := i) (by omega) (by simp)
        have hti : (ys.take i).length = i := by rw [List.length_take]; omega
        have op' : OwnSl 137 2 inR (fun _ => False) w2 (.slice (some ⟨b, 0, none⟩) (ys.take i).length ca) (ys.take i) := by
          refine OwnSl.rest inR_ok (by rw [hti]; exact op) rfl bkU bk2 l2 ?_ f2 (fun c => c)
          rw [hti]; exact t2
        rw [hti, cut.done] at op'
        refine OW.assign rfl rfl ?_
        refine OW.nil ?_
        refine NX.seq ?_
        refine CW.ret ?_
        exact NX.ret1 rfl rfl (⟨op', (fU.trans f2).mono fun k _ h => (hown k).2 h, fun k hk => hk⟩)

theorem delRow_does {v : Value} {xs : List Nat} {w : World} {i : Nat} (ho : OwnSl 130 1 ptrR (fun _ => False) w v xs) (hi : i < xs.length) (hn : xs.length ≤ 1000000) : Does Try.prog 76 [v, .int .i64 ((i : Nat) : Int), .int .i64 ((i : Nat) + 1 : Int)] w fun r w' => OwnSl 130 1 ptrR (fun _ => False) w' r (xs.eraseIdx i) ∧ Fr (fun k => v.ownBlock = some k) w w' ∧ (∀ k, r.ownBlock = some k → v.ownBlock = some k) := by
  obtain ⟨pa, ca, rfl, hcap⟩ := ho.shape
  obtain ⟨b, _, rfl, _, _⟩ := ho.blk (fun _ => by omega)
  refine Does.enter Try.func76 rfl rfl ?_
  show CW _ _ _ _ 33 [] [(0, .slice (some ⟨b, 0, none⟩) xs.length ca), (1, .int .i64 ((i : Nat) : Int)), (2, .int .i64 ((i : Nat) + 1 : Int))] w
  have hown : ∀ k, (Value.slice (some ⟨b, 0, none⟩) xs.length ca).ownBlock = some k ↔ k = b := fun k => ⟨fun h => by cases h; rfl, fun h => by rw [h]; rfl⟩
  refine CW.seq ?_
  refine CW.region ?_
  refine OW.assign rfl rfl ?_
  refine OW.nil ?_
  refine NX.seq ?_
  refine CW.seq ?_
  refine CW.region ?_
  refine OW.move rfl rfl ?_
  refine OW.move rfl rfl ?_
  refine OW.move rfl rfl ?_
  refine OW.move rfl rfl ?_
  refine OW.len rfl el125 rfl ?_
  refine OW.sliceLHM rfl el125 rfl rfl rfl rfl ⟨by omega, by omega, by omega, by omega⟩ ?_
  refine OW.nil ?_
  refine NX.seq ?_
  refine CW.seq ?_
  refine CW.seq ?_
  refine CW.region ?_
  refine OW.move rfl rfl ?_
  refine OW.move rfl rfl ?_
  refine OW.eql rfl rfl rfl ?_
  refine OW.nil ?_
  refine NX.seq ?_
  refine CW.cond rfl (fun hq => ?_) (fun hq => ?_)
  · omega
  · refine CW.skip ?_
    refine NX.seq ?_
    refine CW.seq ?_
    refine CW.region ?_
    refine OW.move rfl rfl ?_
    refine OW.len rfl el125 rfl ?_
    refine OW.assign rfl rfl ?_
    refine OW.nil ?_
    refine NX.seq ?_
    refine CW.seq ?_
    refine CW.drawY [(0, false), (1, false), (2, false), (3, false), (4, false), (5, false)] [6, 7] (fun z => Fr0 w z) MIX (by kernel_rfl) (fun _ h => h) ?_
    intro z1 hz1
    refine XW.val rfl rfl (fun zw hz => OW.move rfl rfl (OW.nil NX.calm)) ?_
    refine XW.val rfl rfl (fun zw hz => OW.move rfl rfl (OW.nil NX.calm)) ?_
    refine XW.val rfl rfl (fun zw hz => OW.sliceH rfl el125 rfl rfl ⟨by omega, by omega⟩ (OW.nil NX.calm)) ?_
    refine XW.slot (s := 22) rfl (show _ = Value.slice (some ⟨b, 0, none⟩) i ca from by
        rw [if_neg (by omega)]
        simp [Addr.add]) ?_
    refine XW.val rfl rfl (fun zw hz => OW.move rfl rfl (OW.nil NX.calm)) ?_
    refine XW.val rfl rfl (fun zw hz => OW.move rfl rfl (OW.nil NX.calm)) ?_
    refine XW.val rfl rfl (fun zw hz => OW.sliceL rfl el125 rfl rfl ⟨by omega, by omega⟩ (OW.nil NX.calm)) ?_
    obtain ⟨o, hoe, hov⟩ : ∃ o, (i + 1 < xs.length → o = (i + 1) * 1) ∧ (if ca = ((i : Nat) + 1 : Int).toNat then (some ⟨b, 0, none⟩ : Option Addr) else (some ⟨b, 0, none⟩ : Option Addr).map (·.add (((i : Nat) + 1 : Int).toNat * 1))) = some ⟨b, o, none⟩ := by
      by_cases c : ca = ((i : Nat) + 1 : Int).toNat
      · rw [if_pos c]; exact ⟨0, fun h => by omega, rfl⟩
      · rw [if_neg c]
        refine ⟨(i + 1) * 1, fun _ => rfl, ?_⟩
        have e : ((i : Nat) + 1 : Int).toNat = i + 1 := by omega
        rw [e]
        simp [Addr.add]
    refine XW.slot (s := 25) rfl (show _ = Value.slice (some ⟨b, o, none⟩) (xs.length - (i + 1)) (ca - (i + 1)) from by
        rw [hov]
        have e : ((i : Nat) + 1 : Int).toNat = i + 1 := by omega
        rw [e]) ?_
    refine XW.tail ?_
    refine OW.eraseIn (i := i) ptrR_ok rfl ap125 rfl rfl (ho.frame ptrR_ok hz1 (fun k _ c => c) (fun k c => c.elim)) hi rfl hoe (by omega) (by omega) (fun c => c) ?_
    intro w2 o2 f2
    refine OW.assign rfl rfl ?_
    refine OW.nil ?_
    refine NX.seq ?_
    refine CW.seq ?_
    refine CW.region ?_
    refine OW.move rfl rfl ?_
    refine OW.move rfl rfl ?_
    refine OW.len rfl el125 rfl ?_
    refine OW.move rfl rfl ?_
    obtain ⟨b', cur, hb', _, hle, bk2, hcl, _⟩ := o2.blk (fun h => by cases h)
    cases hb'
    have hle2 : (xs.eraseIdx i).length = xs.length - 1 := by rw [List.length_eraseIdx, if_pos hi]
    refine OW.sliceLH rfl el125 rfl rfl rfl ⟨by omega, by omega, by omega⟩ ?_
    refine OW.slot (s := 31) rfl (show _ = Value.slice (some ⟨b, (xs.length - 1) * 1, none⟩) 1 (ca - (xs.length - 1)) from by
        have e : ((xs.length - 1 : Nat) : Int).toNat = xs.length - 1 := by omega
        have e2 : ((xs.length : Nat) : Int).toNat = xs.length := by omega
        rw [e, e2, if_neg (by omega), show xs.length - (xs.length - 1) = 1 by omega]
        simp [Addr.add]
        omega) ?_
    refine OW.clear (z := .pointer none) sl125 zr130 rfl bk2 (by rw [hcl]; show (xs.length - 1) * 1 + 1 * 1 ≤ ca * 1; omega) (fun u hu => by simp [Value.cells] at hu; subst hu; rfl) ?_
    intro w3 cs3 f3 s3 bk3 l3 t3
    rw [← hle2] at o2 ⊢
    have o3 := OwnSl.rest ptrR_ok o2 rfl bk2 bk3 l3 (by rw [hle2]; exact t3) f3 (fun c => c)
    refine OW.nil ?_
    refine NX.seq ?_
    refine CW.seq ?_
    refine CW.region ?_
    refine OW.move rfl rfl ?_
    refine OW.assign rfl rfl ?_
    refine OW.nil ?_
    refine NX.seq ?_
    refine CW.ret ?_
    exact NX.ret1 rfl rfl (⟨o3, ((hz1.any.trans f2).trans f3).mono fun k _ h => (hown k).2 h, fun k hk => hk⟩)

end Go.Eng.Th
