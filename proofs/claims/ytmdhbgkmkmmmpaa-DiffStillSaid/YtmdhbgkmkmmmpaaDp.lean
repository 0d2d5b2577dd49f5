/-
  DiffStill, stepped through.
  No condition.
-/
import Derived.Test.YtmdhbgkmkmmmpaaDn
import Derived.Test.YtmdhbgkmkmmmpaaDo
import Derived.Test.YtmdhbgkmkmmmpaaStl
import Derived.Test.YtmdhbgkmkmmmpaaEngS
import Derived.Test.YtmdhbgkmkmmmpaaProg
import Derived.KernelRfl
namespace Go.Eng.Dp
open Go Go.Eng Go.Proofs
theorem MIX : Try.prog.follows .mixedOrders = true := by kernel_rfl

theorem ag33 : aggSz Try.prog 33 = some 22 := by kernel_rfl
theorem ag36 : aggSz Try.prog 36 = some 25 := by kernel_rfl
theorem ap22 : apdIs Try.prog 22 = some (36, 25, 216) := by kernel_rfl
theorem cl13 : callable Try.prog 13 = true := by kernel_rfl
theorem cl14 : callable Try.prog 14 = true := by kernel_rfl
theorem cl16 : callable Try.prog 16 = true := by kernel_rfl
theorem cl18 : callable Try.prog 18 = true := by kernel_rfl
theorem ct3 : cellTy Try.prog 3 = true := by kernel_rfl
theorem eg33 : Try.prog.eqGuardType Try.prog.depth 33 = false := by kernel_rfl
theorem el22 : elemIs Try.prog 22 = some (36, 25) := by kernel_rfl
theorem el26 : elemIs Try.prog 26 = some (45, 36) := by kernel_rfl
theorem fo36_0 : fieldOff Try.prog 36 0 = some 0 := by kernel_rfl
theorem fo36_1 : fieldOff Try.prog 36 1 = some 1 := by kernel_rfl
theorem fo45_3 : fieldOff Try.prog 45 3 = some 3 := by kernel_rfl
theorem zr36 : zeroIs Try.prog 36 = some (.agg #[.int .i64 0, .int .u64 0, .int .u64 0, .int .u64 0, .int .u64 0, .int .u64 0, .int .u64 0, .int .u64 0, .int .u64 0, .int .u64 0, .int .u64 0, .int .u64 0, .int .u64 0, .int .u64 0, .int .u64 0, .int .u64 0, .int .u64 0, .int .u64 0, .int .u64 0, .int .u64 0, .int .u64 0, .int .u64 0, .int .u64 0, .slice none 0 0, .int .u64 0]) := by kernel_rfl

theorem rf {α : Type} {R : Rep α} {sz : Nat} {X : Nat → Prop} {w w' : World} {c : List Value} {x : α} (h : R X w c x) (ok : R.Ok sz) (f : Fr0 w w') : R X w' c x := ok.frame h f (fun _ _ h => h)
theorem msgCells_mat {a : Int} {rank : Int} {m : Mat} {cv : Value} {ck : Nat} (j : Nat) (v : Value) (h : m.cells[j]? = some v) : (msgCells a (ruleCells rank m cv ck))[4 + j]? = some v := by
  have h2 := Dg.ruleCells_mat (rk := rank) (cv := cv) (ck := ck) j v h
  have hl : 1 + j < (ruleCells rank m cv ck).length := by
    rcases Nat.lt_or_ge (1 + j) (ruleCells rank m cv ck).length with c | c
    · exact c
    · rw [List.getElem?_eq_none c] at h2; cases h2
  rw [show 4 + j = (1 + j) + 3 by omega]
  show (ruleCells rank m cv ck ++ _)[1 + j]? = some v
  rw [List.getElem?_append_left hl]; exact h2
theorem spare_snoc (was : List Rule) (x : Rule) (j h : Nat) (hjh : j + 1 ≤ h) (hh : h < was.length) :
    (((was.drop (j + 1)).take (h + 1 - (j + 1))).all fun y => decide (plOf y ≠ plOf x)) = ((((was.drop (j + 1)).take (h - (j + 1))).all fun y => decide (plOf y ≠ plOf x)) && decide (plOf was[h] ≠ plOf x)) := by
  rw [show h + 1 - (j + 1) = h - (j + 1) + 1 by omega, List.take_succ_eq_append_getElem (by rw [List.length_drop]; omega), List.all_append]
  congr 1
  simp only [List.all_cons, List.all_nil, Bool.and_true, List.getElem_drop]
  simp only [show j + 1 + (h - (j + 1)) = h from by omega]
theorem spare_ne {x y : Rule} (h : y.rank ≠ x.rank) : true = (true && decide (plOf y ≠ plOf x)) := by
  rw [Bool.true_and]
  exact (decide_eq_true (p := plOf y ≠ plOf x) (fun e => h (by simp only [plOf, Pl.mk.injEq] at e; exact e.1))).symm
theorem spare_eq {x y : Rule} (h : y.rank = x.rank) : decide (y.mat.lits ≠ x.mat.lits) = (true && decide (plOf y ≠ plOf x)) := by
  have e : y.mat.lits = x.mat.lits ↔ plOf y = plOf x := ⟨fun e => by simp only [plOf, h, Mat.lits_inj e], fun e => by simp only [plOf, Pl.mk.injEq] at e; rw [e.2]⟩
  by_cases c : plOf y = plOf x
  · simp [c, e.2 c]
  · have d : ¬ y.mat.lits = x.mat.lits := fun h => c (e.1 h)
    simp [c, d]
theorem spares_here {was now : List Rule} {ms : List RMsg} {m : RMsg} {b x : Rule} {j : Nat} {hj : j < was.length} (hms : ms = betweenS was now) (hm : m ∈ ms) (hb : b ∈ bkS now) (hx : x = was[j]) (hB : (Do.alikeS b x && (was.drop (j + 1)).all fun y => decide (plOf y ≠ plOf x)) = true)
    (hr : m.rule.rank = b.rank) (hmt : m.rule.mat = b.mat) : False := by
  rw [Bool.and_eq_true, List.all_eq_true] at hB
  obtain ⟨h1, h2⟩ := hB
  simp only [Do.alikeS, decide_eq_true_eq] at h1
  subst hms
  have hl : lastOf was (plOf x) = some x := by
    have hd : was = was.take j ++ x :: was.drop (j + 1) := by
      rw [hx]; simp
    have hn : lastOf (was.drop (j + 1)) (plOf x) = none := lastOf_none.2 fun y hy e => by
      have := h2 y hy
      simp [e] at this
    rw [hd]
    have gen : ∀ pre : List Rule, lastOf (pre ++ x :: was.drop (j + 1)) (plOf x) = some x := by
      intro pre
      induction pre with
      | nil => rw [List.nil_append, lastOf_cons, hn, if_pos rfl]; rfl
      | cons p pre ih => rw [List.cons_append, lastOf_cons, ih]; rfl
    exact gen _
  exact between_spares hm (bk_last hb) hl h1.1 h1.2.1 h1.2.2.1 h1.2.2.2 ⟨hr, hmt⟩

theorem bkS_le : ∀ l : List Rule, (bkS l).length ≤ l.length
  | [] => by simp [bkS]
  | x :: xs => by
    have := bkS_le xs
    simp only [bkS]
    split
    · simp; omega
    · simp; omega

theorem late_snoc (now : List Rule) (x : Rule) (i k : Nat) (hik : i ≤ k) (hk : k < now.length) :
    (((now.drop i).take (k + 1 - i)).any fun y => decide (plOf y = plOf x)) = ((((now.drop i).take (k - i)).any fun y => decide (plOf y = plOf x)) || decide (plOf now[k] = plOf x)) := by
  rw [show k + 1 - i = k - i + 1 by omega, List.take_succ_eq_append_getElem (by rw [List.length_drop]; omega), List.any_append]
  congr 1
  simp only [List.any_cons, List.any_nil, Bool.or_false, List.getElem_drop]
  simp only [show i + (k - i) = k from by omega]
theorem late_eq {x y : Rule} (h : y.rank = x.rank) : decide (y.mat.lits = x.mat.lits) = decide (plOf y = plOf x) :=
  decide_eq_decide.2 ⟨fun e => by simp only [plOf, h, Mat.lits_inj e], fun e => by simp only [plOf, Pl.mk.injEq] at e; rw [e.2]⟩
theorem late_ne {x y : Rule} (h : ¬ y.rank = x.rank) : false = decide (plOf y = plOf x) :=
  (decide_eq_false fun e => h (by simp only [plOf, Pl.mk.injEq] at e; exact e.1)).symm

theorem diffStill_does {was now : List Rule} {va vb : Value} (w : World) (hx : rulesR (Bel w) w va was) (hy : rulesR (Bel w) w vb now) : Does Try.prog 4 [va, vb] w fun v w' => v = .bool true ∧ Fr0 w w' := by
  obtain ⟨pa, ca, hva, hla⟩ := hx.shape
  subst hva
  obtain ⟨pb, cb, hvb, hlb⟩ := hy.shape
  subst hvb
  refine Does.enter Try.func4 rfl rfl ?_
  show CW _ _ _ _ 180 [] [(0, .slice pa was.length ca), (1, .slice pb now.length cb)] w
  refine CW.seq ?_
  refine CW.region ?_
  refine OW.assign rfl rfl ?_
  refine OW.nil ?_
  refine NX.seq ?_
  refine CW.seq ?_
  refine CW.seq ?_
  refine CW.region ?_
  refine OW.move rfl rfl ?_
  refine OW.call rfl rfl cl13 (great_does _ was w hx) ?_
  rintro _ w1 ⟨rfl, rfl⟩
  refine OW.move rfl rfl ?_
  refine OW.waysB (s := 17) rfl (fun hg1 => ?_) (fun hg1 => ?_)
  · refine OW.gnoD rfl rfl rfl rfl ?_
    refine OW.gnoD rfl rfl rfl rfl ?_
    refine OW.pickT rfl rfl rfl ?_
    refine OW.nil ?_
    refine NX.seq ?_
    refine CW.condT rfl ?_
    refine CW.seq ?_
    refine CW.region ?_
    refine OW.call rfl rfl cl14 (Dm.wakes_does _) ?_
    rintro _ w9 ⟨rfl, f9⟩
    refine OW.assign rfl rfl ?_
    refine OW.nil ?_
    refine NX.seq ?_
    refine CW.ret ?_
    refine NX.thenRet ?_
    exact NX.ret1 rfl rfl (⟨rfl, f9⟩)
  · refine OW.gyes rfl rfl ?_
    refine OW.move rfl rfl ?_
    refine OW.gyes rfl rfl ?_
    refine OW.call rfl rfl cl13 (great_does _ now w1 hy) ?_
    rintro _ w2 ⟨rfl, rfl⟩
    refine OW.pickF rfl rfl rfl ?_
    refine OW.nil ?_
    refine NX.seq ?_
    refine CW.condB rfl (fun hg2 => ?_) (fun hg2 => ?_)
    · refine CW.seq ?_
      refine CW.region ?_
      refine OW.call rfl rfl cl14 (Dm.wakes_does _) ?_
      rintro _ w9 ⟨rfl, f9⟩
      refine OW.assign rfl rfl ?_
      refine OW.nil ?_
      refine NX.seq ?_
      refine CW.ret ?_
      refine NX.thenRet ?_
      exact NX.ret1 rfl rfl (⟨rfl, f9⟩)
    · obtain ⟨h1, h2⟩ := Dn.greatS_false hg1
      obtain ⟨h3, h4⟩ := Dn.greatS_false hg2
      refine CW.skip ?_
      refine NX.seq ?_
      refine CW.seq ?_
      refine CW.region ?_
      refine OW.assign rfl rfl ?_
      refine OW.nil ?_
      refine NX.seq ?_
      refine CW.seq ?_
      refine CW.seq ?_
      refine CW.region ?_
      refine OW.move rfl rfl ?_
      refine OW.len rfl el22 rfl ?_
      refine OW.sub' rfl rfl rfl (by omega) ?_
      refine OW.assign rfl rfl ?_
      refine OW.nil ?_
      refine NX.seq ?_
      refine CW.block ?_
      refine CW.loop (α := Nat × Value) (fun (s : Nat × Value) => match s with | (i, vk) => [(0, .slice pa was.length ca), (1, .slice pb now.length cb), (5, vk), (6, .int .i64 (((i : Nat) : Int) - 1))]) (fun (s : Nat × Value) W => match s with | (i, vk) => i ≤ now.length ∧ OwnSl 36 25 ruleR (Bel w2) W vk (bkS (now.drop i)) ∧ Fr0 w2 W ∧ ∀ j, vk.ownBlock = some j → w2.heap.size ≤ j) (fun (s : Nat × Value) => match s with | (i, vk) => i) ((now.length, .slice none 0 0)) (Sub.cons rfl (Sub.cons rfl (Sub.cons rfl (Sub.cons rfl (Sub.nil _))))) (⟨Nat.le_refl _, by rw [List.drop_length]; exact OwnSl.nil, Fr.refl _ _, fun j h => by cases h⟩) ?_
      rintro ⟨i, vk⟩ W ⟨hi, hk, fW, hown⟩
      show CW _ _ _ _ _ _ [(0, .slice pa was.length ca), (1, .slice pb now.length cb), (5, vk), (6, .int .i64 (((i : Nat) : Int) - 1))] W
      refine CW.seq ?_
      refine CW.seq ?_
      refine CW.region ?_
      refine OW.move rfl rfl ?_
      refine OW.geq rfl rfl rfl ?_
      refine OW.nil ?_
      refine NX.seq ?_
      refine CW.cond rfl (fun hge => ?_) (fun hge => ?_)
      · have hil : i - 1 < now.length := by omega
        obtain ⟨x, hx1⟩ : ∃ x, x = now[i - 1] := ⟨_, rfl⟩
        refine CW.slot (s := 6) rfl (congrArg (Value.int .i64) (show (_ : Int) = ((i - 1 : Nat) : Int) by omega)) ?_
        refine CW.skip ?_
        refine NX.seq ?_
        refine CW.seq ?_
        refine CW.block ?_
        refine CW.seq ?_
        refine CW.region ?_
        refine OW.assign rfl rfl ?_
        refine OW.nil ?_
        refine NX.seq ?_
        refine CW.seq ?_
        refine CW.seq ?_
        refine CW.region ?_
        refine OW.move rfl rfl ?_
        refine OW.add rfl rfl rfl (by omega) ?_
        refine OW.assign rfl rfl ?_
        refine OW.nil ?_
        refine NX.seq ?_
        refine CW.block ?_
        refine CW.slot (s := 8) rfl (congrArg (Value.int .i64) (show (_ : Int) = ((i : Nat) : Int) by omega)) ?_
        refine CW.slot (s := 7) rfl (congrArg Value.bool (show false = (((now.drop i).take (i - i)).any fun y => decide (plOf y = plOf x)) from by rw [Nat.sub_self]; rfl)) ?_
        refine CW.loop (α := Nat) (fun k => [(0, .slice pa was.length ca), (1, .slice pb now.length cb), (5, vk), (6, .int .i64 ((i - 1 : Nat) : Int)), (7, .bool (((now.drop i).take (k - i)).any fun y => decide (plOf y = plOf x))), (8, .int .i64 ((k : Nat) : Int))]) (fun k U => i ≤ k ∧ k ≤ now.length ∧ Fr0 W U) (fun k => now.length - k) i (Sub.cons rfl (Sub.cons rfl (Sub.cons rfl (Sub.cons rfl (Sub.cons rfl (Sub.cons rfl (Sub.nil _))))))) ⟨Nat.le_refl _, hi, Fr.refl _ _⟩ ?_
        rintro k U ⟨hik, hkn, fU⟩
        refine CW.seq ?_
        refine CW.seq ?_
        refine CW.region ?_
        refine OW.move rfl rfl ?_
        refine OW.move rfl rfl ?_
        refine OW.len rfl el22 rfl ?_
        refine OW.lss rfl rfl rfl ?_
        refine OW.nil ?_
        refine NX.seq ?_
        refine CW.cond rfl (fun hlt => ?_) (fun hlt => ?_)
        · have hkl : k < now.length := by omega
          obtain ⟨y, hy1⟩ : ∃ y, y = now[k] := ⟨_, rfl⟩
          obtain ⟨b, o, hp, hrow⟩ := (hy.frame ruleR_ok (fW.trans fU) (fun _ _ h => h)).at' hkl
          subst hp
          obtain ⟨cy, sgy, cvy, ecy, _, hwy⟩ := hrow k y (by rw [hy1]; exact List.getElem?_eq_getElem hkl)
          obtain ⟨cx, sgx, cvx, ecx, _, hwx⟩ := hrow (i - 1) x (by rw [hx1]; exact List.getElem?_eq_getElem hil)
          subst ecy
          subst ecx
          have hsn := late_snoc now x i k hik hkl
          rw [← hy1] at hsn
          rcases hL : ((now.drop i).take (k - i)).any fun y => decide (plOf y = plOf x)
          · by_cases hrk : y.rank = x.rank
            · refine CW.skip ?_
              refine NX.seq ?_
              refine CW.seq ?_
              refine CW.block ?_
              refine CW.drawT 27 [⟨0, 0, false⟩, ⟨0, 0, false⟩, ⟨0, 0, false⟩, ⟨0, 0, false⟩, ⟨0, 0, false⟩, ⟨0, 0, false⟩, ⟨0, 0, false⟩, ⟨0, 0, false⟩, ⟨0, 0, false⟩, ⟨0, 0, false⟩, ⟨0, 0, false⟩, ⟨0, 0, false⟩, ⟨0, 0, false⟩, ⟨0, 0, false⟩, ⟨0, 0, false⟩, ⟨0, 0, false⟩, ⟨0, 0, false⟩, ⟨0, 0, false⟩, ⟨0, 0, false⟩, ⟨0, 0, false⟩, ⟨0, 0, false⟩, ⟨0, 0, false⟩, ⟨0, 0, false⟩, ⟨0, 0, false⟩, ⟨0, 0, false⟩, ⟨0, 0, false⟩, ⟨0, 0, false⟩] 0 [.bool false, .bool false, .slice (some ⟨b, o, none⟩) now.length cb, .int .i64 ((k : Nat) : Int), .pointer (some ⟨b, o + k * 25, none⟩), .pointer (some ⟨b, o + k * 25 + 0, none⟩), .int .i64 y.rank, .slice (some ⟨b, o, none⟩) now.length cb, .int .i64 ((i - 1 : Nat) : Int), .pointer (some ⟨b, o + (i - 1) * 25, none⟩), .pointer (some ⟨b, o + (i - 1) * 25 + 0, none⟩), .int .i64 x.rank, .bool true, .bool true, .slice (some ⟨b, o, none⟩) now.length cb, .int .i64 ((k : Nat) : Int), .pointer (some ⟨b, o + k * 25, none⟩), .pointer (some ⟨b, o + k * 25 + 1, none⟩), .agg (y.mat.cells).toArray, .slice (some ⟨b, o, none⟩) now.length cb, .int .i64 ((i - 1 : Nat) : Int), .pointer (some ⟨b, o + (i - 1) * 25, none⟩), .pointer (some ⟨b, o + (i - 1) * 25 + 1, none⟩), .agg (x.mat.cells).toArray, .bool (decide (y.mat.lits = x.mat.lits)), .bool (decide (y.mat.lits = x.mat.lits)), .bool (decide (y.mat.lits = x.mat.lits))] (fun _ zw => Fr0 U zw) MIX rfl rfl rfl (Fr.drew U) ?_ ?_
              · refine drawAll.cons (fun Lt zc w1 h1 h2 hr => ?_) ?_
                · obtain rfl : zc = 0 := Nat.le_antisymm h2 h1
                  exact OW.move rfl rfl (OW.nil (NX.givesD rfl hr))
                refine drawAll.cons (fun Lt zc w1 h1 h2 hr => ?_) ?_
                · obtain rfl : zc = 0 := Nat.le_antisymm h2 h1
                  exact OW.move rfl rfl (OW.nil (NX.givesD rfl hr))
                refine drawAll.cons (fun Lt zc w1 h1 h2 hr => ?_) ?_
                · obtain rfl : zc = 0 := Nat.le_antisymm h2 h1
                  refine OW.gyes rfl rfl ?_
                  exact OW.move rfl rfl (OW.nil (NX.givesD rfl hr))
                refine drawAll.cons (fun Lt zc w1 h1 h2 hr => ?_) ?_
                · obtain rfl : zc = 0 := Nat.le_antisymm h2 h1
                  refine OW.gyes rfl rfl ?_
                  exact OW.move rfl rfl (OW.nil (NX.givesD rfl hr))
                refine drawAll.cons (fun Lt zc w1 h1 h2 hr => ?_) ?_
                · obtain rfl : zc = 0 := Nat.le_antisymm h2 h1
                  refine OW.gyes rfl rfl ?_
                  exact OW.indexAddr rfl el22 rfl rfl ⟨by omega, by omega⟩ (OW.nil (NX.givesD rfl hr))
                refine drawAll.cons (fun Lt zc w1 h1 h2 hr => ?_) ?_
                · obtain rfl : zc = 0 := Nat.le_antisymm h2 h1
                  refine OW.gyes rfl rfl ?_
                  exact OW.fieldAddr rfl fo36_0 rfl (OW.nil (NX.givesD rfl hr))
                refine drawAll.cons (fun Lt zc w1 h1 h2 hr => ?_) ?_
                · obtain rfl : zc = 0 := Nat.le_antisymm h2 h1
                  refine OW.gyes rfl rfl ?_
                  exact OW.load1 rfl ct3 rfl ((Seg.frame sgy hr id).one 0 rfl) (OW.nil (NX.givesD rfl hr))
                refine drawAll.cons (fun Lt zc w1 h1 h2 hr => ?_) ?_
                · obtain rfl : zc = 0 := Nat.le_antisymm h2 h1
                  refine OW.gyes rfl rfl ?_
                  exact OW.move rfl rfl (OW.nil (NX.givesD rfl hr))
                refine drawAll.cons (fun Lt zc w1 h1 h2 hr => ?_) ?_
                · obtain rfl : zc = 0 := Nat.le_antisymm h2 h1
                  refine OW.gyes rfl rfl ?_
                  exact OW.move rfl rfl (OW.nil (NX.givesD rfl hr))
                refine drawAll.cons (fun Lt zc w1 h1 h2 hr => ?_) ?_
                · obtain rfl : zc = 0 := Nat.le_antisymm h2 h1
                  refine OW.gyes rfl rfl ?_
                  exact OW.indexAddr rfl el22 rfl rfl ⟨by omega, by omega⟩ (OW.nil (NX.givesD rfl hr))
                refine drawAll.cons (fun Lt zc w1 h1 h2 hr => ?_) ?_
                · obtain rfl : zc = 0 := Nat.le_antisymm h2 h1
                  refine OW.gyes rfl rfl ?_
                  exact OW.fieldAddr rfl fo36_0 rfl (OW.nil (NX.givesD rfl hr))
                refine drawAll.cons (fun Lt zc w1 h1 h2 hr => ?_) ?_
                · obtain rfl : zc = 0 := Nat.le_antisymm h2 h1
                  refine OW.gyes rfl rfl ?_
                  exact OW.load1 rfl ct3 rfl ((Seg.frame sgx hr id).one 0 rfl) (OW.nil (NX.givesD rfl hr))
                refine drawAll.cons (fun Lt zc w1 h1 h2 hr => ?_) ?_
                · obtain rfl : zc = 0 := Nat.le_antisymm h2 h1
                  refine OW.gyes rfl rfl ?_
                  exact OW.eql rfl rfl rfl (OW.nil (NX.givesD (congrArg Value.bool (decide_eq_true (by omega))) hr))
                refine drawAll.cons (fun Lt zc w1 h1 h2 hr => ?_) ?_
                · obtain rfl : zc = 0 := Nat.le_antisymm h2 h1
                  refine OW.gyes rfl rfl ?_
                  exact OW.move rfl rfl (OW.nil (NX.givesD rfl hr))
                refine drawAll.cons (fun Lt zc w1 h1 h2 hr => ?_) ?_
                · obtain rfl : zc = 0 := Nat.le_antisymm h2 h1
                  refine OW.gyes rfl rfl ?_
                  exact OW.move rfl rfl (OW.nil (NX.givesD rfl hr))
                refine drawAll.cons (fun Lt zc w1 h1 h2 hr => ?_) ?_
                · obtain rfl : zc = 0 := Nat.le_antisymm h2 h1
                  refine OW.gyes rfl rfl ?_
                  exact OW.move rfl rfl (OW.nil (NX.givesD rfl hr))
                refine drawAll.cons (fun Lt zc w1 h1 h2 hr => ?_) ?_
                · obtain rfl : zc = 0 := Nat.le_antisymm h2 h1
                  refine OW.gyes rfl rfl ?_
                  exact OW.indexAddr rfl el22 rfl rfl ⟨by omega, by omega⟩ (OW.nil (NX.givesD rfl hr))
                refine drawAll.cons (fun Lt zc w1 h1 h2 hr => ?_) ?_
                · obtain rfl : zc = 0 := Nat.le_antisymm h2 h1
                  refine OW.gyes rfl rfl ?_
                  exact OW.fieldAddr rfl fo36_1 rfl (OW.nil (NX.givesD rfl hr))
                refine drawAll.cons (fun Lt zc w1 h1 h2 hr => ?_) ?_
                · obtain rfl : zc = 0 := Nat.le_antisymm h2 h1
                  refine OW.gyes rfl rfl ?_
                  exact OW.loadA rfl ag33 rfl ((Seg.frame sgy hr id).sub 1 (fun j v e => Dg.ruleCells_mat j v e)) rfl (OW.nil (NX.givesD rfl hr))
                refine drawAll.cons (fun Lt zc w1 h1 h2 hr => ?_) ?_
                · obtain rfl : zc = 0 := Nat.le_antisymm h2 h1
                  refine OW.gyes rfl rfl ?_
                  exact OW.move rfl rfl (OW.nil (NX.givesD rfl hr))
                refine drawAll.cons (fun Lt zc w1 h1 h2 hr => ?_) ?_
                · obtain rfl : zc = 0 := Nat.le_antisymm h2 h1
                  refine OW.gyes rfl rfl ?_
                  exact OW.move rfl rfl (OW.nil (NX.givesD rfl hr))
                refine drawAll.cons (fun Lt zc w1 h1 h2 hr => ?_) ?_
                · obtain rfl : zc = 0 := Nat.le_antisymm h2 h1
                  refine OW.gyes rfl rfl ?_
                  exact OW.indexAddr rfl el22 rfl rfl ⟨by omega, by omega⟩ (OW.nil (NX.givesD rfl hr))
                refine drawAll.cons (fun Lt zc w1 h1 h2 hr => ?_) ?_
                · obtain rfl : zc = 0 := Nat.le_antisymm h2 h1
                  refine OW.gyes rfl rfl ?_
                  exact OW.fieldAddr rfl fo36_1 rfl (OW.nil (NX.givesD rfl hr))
                refine drawAll.cons (fun Lt zc w1 h1 h2 hr => ?_) ?_
                · obtain rfl : zc = 0 := Nat.le_antisymm h2 h1
                  refine OW.gyes rfl rfl ?_
                  exact OW.loadA rfl ag33 rfl ((Seg.frame sgx hr id).sub 1 (fun j v e => Dg.ruleCells_mat j v e)) rfl (OW.nil (NX.givesD rfl hr))
                refine drawAll.cons (fun Lt zc w1 h1 h2 hr => ?_) ?_
                · obtain rfl : zc = 0 := Nat.le_antisymm h2 h1
                  refine OW.gyes rfl rfl ?_
                  exact OW.eqlA (l := y.mat.lits) (r := x.mat.lits) rfl Do.matFlat eg33 rfl rfl rfl rfl (Mat.lits_wf hwy.2.2.1) (Mat.lits_wf hwx.2.2.1) (OW.nil (NX.givesD rfl hr))
                refine drawAll.cons (fun Lt zc w1 h1 h2 hr => ?_) ?_
                · obtain rfl : zc = 0 := Nat.le_antisymm h2 h1
                  refine OW.gyes rfl rfl ?_
                  exact OW.pickT rfl rfl rfl (OW.nil (NX.givesD rfl hr))
                refine drawAll.cons (fun Lt zc w1 h1 h2 hr => ?_) ?_
                · obtain rfl : zc = 0 := Nat.le_antisymm h2 h1
                  exact OW.pickF rfl rfl rfl (OW.nil (NX.givesD rfl hr))
                exact drawAll.nil
              intro w1 hr
              refine OW.assign rfl rfl ?_
              refine OW.nil ?_
              refine NX.blockN ?_
              refine NX.seq ?_
              refine CW.region ?_
              refine OW.move rfl rfl ?_
              refine OW.add rfl rfl rfl (by omega) ?_
              refine OW.assign rfl rfl ?_
              refine OW.nil ?_
              refine NX.slot (s := 7) rfl (congrArg Value.bool (show _ = (((now.drop i).take (k + 1 - i)).any fun y => decide (plOf y = plOf x)) from by rw [hsn, hL, Bool.false_or]; exact late_eq hrk)) ?_
              exact NX.loop (k + 1) ((Sub.cons rfl (Sub.cons rfl (Sub.cons rfl (Sub.cons rfl (Sub.cons rfl (Sub.cons rfl (Sub.nil _)))))))) (⟨by omega, by omega, fU.trans hr⟩) (by omega)
            · refine CW.skip ?_
              refine NX.seq ?_
              refine CW.seq ?_
              refine CW.block ?_
              refine CW.drawT 27 [⟨0, 0, false⟩, ⟨0, 0, false⟩, ⟨0, 0, false⟩, ⟨0, 0, false⟩, ⟨0, 0, false⟩, ⟨0, 0, false⟩, ⟨0, 0, false⟩, ⟨0, 0, false⟩, ⟨0, 0, false⟩, ⟨0, 0, false⟩, ⟨0, 0, false⟩, ⟨0, 0, false⟩, ⟨0, 0, false⟩, ⟨0, 0, false⟩, ⟨0, 0, false⟩, ⟨0, 0, false⟩, ⟨0, 0, false⟩, ⟨0, 0, false⟩, ⟨0, 0, false⟩, ⟨0, 0, false⟩, ⟨0, 0, false⟩, ⟨0, 0, false⟩, ⟨0, 0, false⟩, ⟨0, 0, false⟩, ⟨0, 0, false⟩, ⟨0, 0, false⟩, ⟨0, 0, false⟩] 0 [.bool false, .bool false, .slice (some ⟨b, o, none⟩) now.length cb, .int .i64 ((k : Nat) : Int), .pointer (some ⟨b, o + k * 25, none⟩), .pointer (some ⟨b, o + k * 25 + 0, none⟩), .int .i64 y.rank, .slice (some ⟨b, o, none⟩) now.length cb, .int .i64 ((i - 1 : Nat) : Int), .pointer (some ⟨b, o + (i - 1) * 25, none⟩), .pointer (some ⟨b, o + (i - 1) * 25 + 0, none⟩), .int .i64 x.rank, .bool false, .bool false, undef, undef, undef, undef, undef, undef, undef, undef, undef, undef, undef, .bool false, .bool false] (fun _ zw => Fr0 U zw) MIX rfl rfl rfl (Fr.drew U) ?_ ?_
              · refine drawAll.cons (fun Lt zc w1 h1 h2 hr => ?_) ?_
                · obtain rfl : zc = 0 := Nat.le_antisymm h2 h1
                  exact OW.move rfl rfl (OW.nil (NX.givesD rfl hr))
                refine drawAll.cons (fun Lt zc w1 h1 h2 hr => ?_) ?_
                · obtain rfl : zc = 0 := Nat.le_antisymm h2 h1
                  exact OW.move rfl rfl (OW.nil (NX.givesD rfl hr))
                refine drawAll.cons (fun Lt zc w1 h1 h2 hr => ?_) ?_
                · obtain rfl : zc = 0 := Nat.le_antisymm h2 h1
                  refine OW.gyes rfl rfl ?_
                  exact OW.move rfl rfl (OW.nil (NX.givesD rfl hr))
                refine drawAll.cons (fun Lt zc w1 h1 h2 hr => ?_) ?_
                · obtain rfl : zc = 0 := Nat.le_antisymm h2 h1
                  refine OW.gyes rfl rfl ?_
                  exact OW.move rfl rfl (OW.nil (NX.givesD rfl hr))
                refine drawAll.cons (fun Lt zc w1 h1 h2 hr => ?_) ?_
                · obtain rfl : zc = 0 := Nat.le_antisymm h2 h1
                  refine OW.gyes rfl rfl ?_
                  exact OW.indexAddr rfl el22 rfl rfl ⟨by omega, by omega⟩ (OW.nil (NX.givesD rfl hr))
                refine drawAll.cons (fun Lt zc w1 h1 h2 hr => ?_) ?_
                · obtain rfl : zc = 0 := Nat.le_antisymm h2 h1
                  refine OW.gyes rfl rfl ?_
                  exact OW.fieldAddr rfl fo36_0 rfl (OW.nil (NX.givesD rfl hr))
                refine drawAll.cons (fun Lt zc w1 h1 h2 hr => ?_) ?_
                · obtain rfl : zc = 0 := Nat.le_antisymm h2 h1
                  refine OW.gyes rfl rfl ?_
                  exact OW.load1 rfl ct3 rfl ((Seg.frame sgy hr id).one 0 rfl) (OW.nil (NX.givesD rfl hr))
                refine drawAll.cons (fun Lt zc w1 h1 h2 hr => ?_) ?_
                · obtain rfl : zc = 0 := Nat.le_antisymm h2 h1
                  refine OW.gyes rfl rfl ?_
                  exact OW.move rfl rfl (OW.nil (NX.givesD rfl hr))
                refine drawAll.cons (fun Lt zc w1 h1 h2 hr => ?_) ?_
                · obtain rfl : zc = 0 := Nat.le_antisymm h2 h1
                  refine OW.gyes rfl rfl ?_
                  exact OW.move rfl rfl (OW.nil (NX.givesD rfl hr))
                refine drawAll.cons (fun Lt zc w1 h1 h2 hr => ?_) ?_
                · obtain rfl : zc = 0 := Nat.le_antisymm h2 h1
                  refine OW.gyes rfl rfl ?_
                  exact OW.indexAddr rfl el22 rfl rfl ⟨by omega, by omega⟩ (OW.nil (NX.givesD rfl hr))
                refine drawAll.cons (fun Lt zc w1 h1 h2 hr => ?_) ?_
                · obtain rfl : zc = 0 := Nat.le_antisymm h2 h1
                  refine OW.gyes rfl rfl ?_
                  exact OW.fieldAddr rfl fo36_0 rfl (OW.nil (NX.givesD rfl hr))
                refine drawAll.cons (fun Lt zc w1 h1 h2 hr => ?_) ?_
                · obtain rfl : zc = 0 := Nat.le_antisymm h2 h1
                  refine OW.gyes rfl rfl ?_
                  exact OW.load1 rfl ct3 rfl ((Seg.frame sgx hr id).one 0 rfl) (OW.nil (NX.givesD rfl hr))
                refine drawAll.cons (fun Lt zc w1 h1 h2 hr => ?_) ?_
                · obtain rfl : zc = 0 := Nat.le_antisymm h2 h1
                  refine OW.gyes rfl rfl ?_
                  exact OW.eql rfl rfl rfl (OW.nil (NX.givesD (congrArg Value.bool (decide_eq_false (by omega))) hr))
                refine drawAll.cons (fun Lt zc w1 h1 h2 hr => ?_) ?_
                · obtain rfl : zc = 0 := Nat.le_antisymm h2 h1
                  refine OW.gyes rfl rfl ?_
                  exact OW.move rfl rfl (OW.nil (NX.givesD rfl hr))
                refine drawAll.cons (fun Lt zc w1 h1 h2 hr => ?_) ?_
                · obtain rfl : zc = 0 := Nat.le_antisymm h2 h1
                  exact OW.gnoD rfl rfl rfl rfl (OW.nil (NX.givesD rfl hr))
                refine drawAll.cons (fun Lt zc w1 h1 h2 hr => ?_) ?_
                · obtain rfl : zc = 0 := Nat.le_antisymm h2 h1
                  exact OW.gnoD rfl rfl rfl rfl (OW.nil (NX.givesD rfl hr))
                refine drawAll.cons (fun Lt zc w1 h1 h2 hr => ?_) ?_
                · obtain rfl : zc = 0 := Nat.le_antisymm h2 h1
                  exact OW.gnoD rfl rfl rfl rfl (OW.nil (NX.givesD rfl hr))
                refine drawAll.cons (fun Lt zc w1 h1 h2 hr => ?_) ?_
                · obtain rfl : zc = 0 := Nat.le_antisymm h2 h1
                  exact OW.gnoD rfl rfl rfl rfl (OW.nil (NX.givesD rfl hr))
                refine drawAll.cons (fun Lt zc w1 h1 h2 hr => ?_) ?_
                · obtain rfl : zc = 0 := Nat.le_antisymm h2 h1
                  exact OW.gnoD rfl rfl rfl rfl (OW.nil (NX.givesD rfl hr))
                refine drawAll.cons (fun Lt zc w1 h1 h2 hr => ?_) ?_
                · obtain rfl : zc = 0 := Nat.le_antisymm h2 h1
                  exact OW.gnoD rfl rfl rfl rfl (OW.nil (NX.givesD rfl hr))
                refine drawAll.cons (fun Lt zc w1 h1 h2 hr => ?_) ?_
                · obtain rfl : zc = 0 := Nat.le_antisymm h2 h1
                  exact OW.gnoD rfl rfl rfl rfl (OW.nil (NX.givesD rfl hr))
                refine drawAll.cons (fun Lt zc w1 h1 h2 hr => ?_) ?_
                · obtain rfl : zc = 0 := Nat.le_antisymm h2 h1
                  exact OW.gnoD rfl rfl rfl rfl (OW.nil (NX.givesD rfl hr))
                refine drawAll.cons (fun Lt zc w1 h1 h2 hr => ?_) ?_
                · obtain rfl : zc = 0 := Nat.le_antisymm h2 h1
                  exact OW.gnoD rfl rfl rfl rfl (OW.nil (NX.givesD rfl hr))
                refine drawAll.cons (fun Lt zc w1 h1 h2 hr => ?_) ?_
                · obtain rfl : zc = 0 := Nat.le_antisymm h2 h1
                  exact OW.gnoD rfl rfl rfl rfl (OW.nil (NX.givesD rfl hr))
                refine drawAll.cons (fun Lt zc w1 h1 h2 hr => ?_) ?_
                · obtain rfl : zc = 0 := Nat.le_antisymm h2 h1
                  exact OW.gnoD rfl rfl rfl rfl (OW.nil (NX.givesD rfl hr))
                refine drawAll.cons (fun Lt zc w1 h1 h2 hr => ?_) ?_
                · obtain rfl : zc = 0 := Nat.le_antisymm h2 h1
                  refine OW.gyes rfl rfl ?_
                  exact OW.pickF rfl rfl rfl (OW.nil (NX.givesD rfl hr))
                refine drawAll.cons (fun Lt zc w1 h1 h2 hr => ?_) ?_
                · obtain rfl : zc = 0 := Nat.le_antisymm h2 h1
                  exact OW.pickF rfl rfl rfl (OW.nil (NX.givesD rfl hr))
                exact drawAll.nil
              intro w1 hr
              refine OW.assign rfl rfl ?_
              refine OW.nil ?_
              refine NX.blockN ?_
              refine NX.seq ?_
              refine CW.region ?_
              refine OW.move rfl rfl ?_
              refine OW.add rfl rfl rfl (by omega) ?_
              refine OW.assign rfl rfl ?_
              refine OW.nil ?_
              refine NX.slot (s := 7) rfl (congrArg Value.bool (show _ = (((now.drop i).take (k + 1 - i)).any fun y => decide (plOf y = plOf x)) from by rw [hsn, hL, Bool.false_or]; exact late_ne hrk)) ?_
              exact NX.loop (k + 1) ((Sub.cons rfl (Sub.cons rfl (Sub.cons rfl (Sub.cons rfl (Sub.cons rfl (Sub.cons rfl (Sub.nil _)))))))) (⟨by omega, by omega, fU.trans hr⟩) (by omega)
          · refine CW.skip ?_
            refine NX.seq ?_
            refine CW.seq ?_
            refine CW.block ?_
            refine CW.drawT 27 [⟨0, 0, false⟩, ⟨0, 0, false⟩, ⟨0, 0, false⟩, ⟨0, 0, false⟩, ⟨0, 0, false⟩, ⟨0, 0, false⟩, ⟨0, 0, false⟩, ⟨0, 0, false⟩, ⟨0, 0, false⟩, ⟨0, 0, false⟩, ⟨0, 0, false⟩, ⟨0, 0, false⟩, ⟨0, 0, false⟩, ⟨0, 0, false⟩, ⟨0, 0, false⟩, ⟨0, 0, false⟩, ⟨0, 0, false⟩, ⟨0, 0, false⟩, ⟨0, 0, false⟩, ⟨0, 0, false⟩, ⟨0, 0, false⟩, ⟨0, 0, false⟩, ⟨0, 0, false⟩, ⟨0, 0, false⟩, ⟨0, 0, false⟩, ⟨0, 0, false⟩, ⟨0, 0, false⟩] 0 [.bool true, .bool true, undef, undef, undef, undef, undef, undef, undef, undef, undef, undef, undef, undef, undef, undef, undef, undef, undef, undef, undef, undef, undef, undef, undef, undef, .bool true] (fun _ zw => Fr0 U zw) MIX rfl rfl rfl (Fr.drew U) ?_ ?_
            · refine drawAll.cons (fun Lt zc w1 h1 h2 hr => ?_) ?_
              · obtain rfl : zc = 0 := Nat.le_antisymm h2 h1
                exact OW.move rfl rfl (OW.nil (NX.givesD rfl hr))
              refine drawAll.cons (fun Lt zc w1 h1 h2 hr => ?_) ?_
              · obtain rfl : zc = 0 := Nat.le_antisymm h2 h1
                exact OW.move rfl rfl (OW.nil (NX.givesD rfl hr))
              refine drawAll.cons (fun Lt zc w1 h1 h2 hr => ?_) ?_
              · obtain rfl : zc = 0 := Nat.le_antisymm h2 h1
                exact OW.gnoD rfl rfl rfl rfl (OW.nil (NX.givesD rfl hr))
              refine drawAll.cons (fun Lt zc w1 h1 h2 hr => ?_) ?_
              · obtain rfl : zc = 0 := Nat.le_antisymm h2 h1
                exact OW.gnoD rfl rfl rfl rfl (OW.nil (NX.givesD rfl hr))
              refine drawAll.cons (fun Lt zc w1 h1 h2 hr => ?_) ?_
              · obtain rfl : zc = 0 := Nat.le_antisymm h2 h1
                exact OW.gnoD rfl rfl rfl rfl (OW.nil (NX.givesD rfl hr))
              refine drawAll.cons (fun Lt zc w1 h1 h2 hr => ?_) ?_
              · obtain rfl : zc = 0 := Nat.le_antisymm h2 h1
                exact OW.gnoD rfl rfl rfl rfl (OW.nil (NX.givesD rfl hr))
              refine drawAll.cons (fun Lt zc w1 h1 h2 hr => ?_) ?_
              · obtain rfl : zc = 0 := Nat.le_antisymm h2 h1
                exact OW.gnoD rfl rfl rfl rfl (OW.nil (NX.givesD rfl hr))
              refine drawAll.cons (fun Lt zc w1 h1 h2 hr => ?_) ?_
              · obtain rfl : zc = 0 := Nat.le_antisymm h2 h1
                exact OW.gnoD rfl rfl rfl rfl (OW.nil (NX.givesD rfl hr))
              refine drawAll.cons (fun Lt zc w1 h1 h2 hr => ?_) ?_
              · obtain rfl : zc = 0 := Nat.le_antisymm h2 h1
                exact OW.gnoD rfl rfl rfl rfl (OW.nil (NX.givesD rfl hr))
              refine drawAll.cons (fun Lt zc w1 h1 h2 hr => ?_) ?_
              · obtain rfl : zc = 0 := Nat.le_antisymm h2 h1
                exact OW.gnoD rfl rfl rfl rfl (OW.nil (NX.givesD rfl hr))
              refine drawAll.cons (fun Lt zc w1 h1 h2 hr => ?_) ?_
              · obtain rfl : zc = 0 := Nat.le_antisymm h2 h1
                exact OW.gnoD rfl rfl rfl rfl (OW.nil (NX.givesD rfl hr))
              refine drawAll.cons (fun Lt zc w1 h1 h2 hr => ?_) ?_
              · obtain rfl : zc = 0 := Nat.le_antisymm h2 h1
                exact OW.gnoD rfl rfl rfl rfl (OW.nil (NX.givesD rfl hr))
              refine drawAll.cons (fun Lt zc w1 h1 h2 hr => ?_) ?_
              · obtain rfl : zc = 0 := Nat.le_antisymm h2 h1
                exact OW.gnoD rfl rfl rfl rfl (OW.nil (NX.givesD rfl hr))
              refine drawAll.cons (fun Lt zc w1 h1 h2 hr => ?_) ?_
              · obtain rfl : zc = 0 := Nat.le_antisymm h2 h1
                exact OW.gnoD rfl rfl rfl rfl (OW.nil (NX.givesD rfl hr))
              refine drawAll.cons (fun Lt zc w1 h1 h2 hr => ?_) ?_
              · obtain rfl : zc = 0 := Nat.le_antisymm h2 h1
                exact OW.gnoU rfl rfl rfl (OW.nil (NX.givesD rfl hr))
              refine drawAll.cons (fun Lt zc w1 h1 h2 hr => ?_) ?_
              · obtain rfl : zc = 0 := Nat.le_antisymm h2 h1
                exact OW.gnoU rfl rfl rfl (OW.nil (NX.givesD rfl hr))
              refine drawAll.cons (fun Lt zc w1 h1 h2 hr => ?_) ?_
              · obtain rfl : zc = 0 := Nat.le_antisymm h2 h1
                exact OW.gnoU rfl rfl rfl (OW.nil (NX.givesD rfl hr))
              refine drawAll.cons (fun Lt zc w1 h1 h2 hr => ?_) ?_
              · obtain rfl : zc = 0 := Nat.le_antisymm h2 h1
                exact OW.gnoU rfl rfl rfl (OW.nil (NX.givesD rfl hr))
              refine drawAll.cons (fun Lt zc w1 h1 h2 hr => ?_) ?_
              · obtain rfl : zc = 0 := Nat.le_antisymm h2 h1
                exact OW.gnoU rfl rfl rfl (OW.nil (NX.givesD rfl hr))
              refine drawAll.cons (fun Lt zc w1 h1 h2 hr => ?_) ?_
              · obtain rfl : zc = 0 := Nat.le_antisymm h2 h1
                exact OW.gnoU rfl rfl rfl (OW.nil (NX.givesD rfl hr))
              refine drawAll.cons (fun Lt zc w1 h1 h2 hr => ?_) ?_
              · obtain rfl : zc = 0 := Nat.le_antisymm h2 h1
                exact OW.gnoU rfl rfl rfl (OW.nil (NX.givesD rfl hr))
              refine drawAll.cons (fun Lt zc w1 h1 h2 hr => ?_) ?_
              · obtain rfl : zc = 0 := Nat.le_antisymm h2 h1
                exact OW.gnoU rfl rfl rfl (OW.nil (NX.givesD rfl hr))
              refine drawAll.cons (fun Lt zc w1 h1 h2 hr => ?_) ?_
              · obtain rfl : zc = 0 := Nat.le_antisymm h2 h1
                exact OW.gnoU rfl rfl rfl (OW.nil (NX.givesD rfl hr))
              refine drawAll.cons (fun Lt zc w1 h1 h2 hr => ?_) ?_
              · obtain rfl : zc = 0 := Nat.le_antisymm h2 h1
                exact OW.gnoU rfl rfl rfl (OW.nil (NX.givesD rfl hr))
              refine drawAll.cons (fun Lt zc w1 h1 h2 hr => ?_) ?_
              · obtain rfl : zc = 0 := Nat.le_antisymm h2 h1
                exact OW.gnoU rfl rfl rfl (OW.nil (NX.givesD rfl hr))
              refine drawAll.cons (fun Lt zc w1 h1 h2 hr => ?_) ?_
              · obtain rfl : zc = 0 := Nat.le_antisymm h2 h1
                exact OW.gnoD rfl rfl rfl rfl (OW.nil (NX.givesD rfl hr))
              refine drawAll.cons (fun Lt zc w1 h1 h2 hr => ?_) ?_
              · obtain rfl : zc = 0 := Nat.le_antisymm h2 h1
                exact OW.pickT rfl rfl rfl (OW.nil (NX.givesD rfl hr))
              exact drawAll.nil
            intro w1 hr
            refine OW.assign rfl rfl ?_
            refine OW.nil ?_
            refine NX.blockN ?_
            refine NX.seq ?_
            refine CW.region ?_
            refine OW.move rfl rfl ?_
            refine OW.add rfl rfl rfl (by omega) ?_
            refine OW.assign rfl rfl ?_
            refine OW.nil ?_
            refine NX.slot (s := 7) rfl (congrArg Value.bool (show true = (((now.drop i).take (k + 1 - i)).any fun y => decide (plOf y = plOf x)) from by rw [hsn, hL]; rfl)) ?_
            exact NX.loop (k + 1) ((Sub.cons rfl (Sub.cons rfl (Sub.cons rfl (Sub.cons rfl (Sub.cons rfl (Sub.cons rfl (Sub.nil _)))))))) (⟨by omega, by omega, fU.trans hr⟩) (by omega)
        · have hfull : ((now.drop i).take (k - i)) = now.drop i := List.take_of_length_le (by rw [List.length_drop]; omega)
          refine CW.slot (s := 7) rfl (congrArg Value.bool (show _ = ((now.drop i).any fun y => decide (plOf y = plOf x)) from by rw [hfull])) ?_
          have hdr : now.drop (i - 1) = x :: now.drop i := by
            rw [List.drop_eq_getElem_cons hil, ← hx1, show i - 1 + 1 = i by omega]
          have hbk : bkS (now.drop (i - 1)) = if ((now.drop i).any fun y => decide (plOf y = plOf x)) = true then bkS (now.drop i) else bkS (now.drop i) ++ [x] := by rw [hdr]; rfl
          obtain ⟨b, o, hp, hrow⟩ := (hy.frame ruleR_ok (fW.trans fU) (fun _ _ h => h)).at' hil
          obtain ⟨cx, sgx, hrx⟩ := hrow (i - 1) x (by rw [hx1]; exact List.getElem?_eq_getElem hil)
          have hcx : cx.length = 25 := ruleR_ok.len hrx
          rcases hL : (now.drop i).any fun y => decide (plOf y = plOf x)
          · refine CW.exit ?_
            refine NX.thenExit ?_
            refine NX.thenExit ?_
            refine NX.blockEq ?_
            refine NX.seq ?_
            refine CW.seq ?_
            refine CW.region ?_
            refine OW.move rfl rfl ?_
            refine OW.not rfl rfl ?_
            refine OW.nil ?_
            refine NX.seq ?_
            refine CW.condT rfl ?_
            refine CW.region ?_
            refine OW.move rfl rfl ?_
            refine OW.move rfl rfl ?_
            refine OW.move rfl rfl ?_
            refine OW.indexAddr (b := b) (o := o) rfl el22 (by rw [← hp]; rfl) rfl (⟨by omega, by omega⟩) ?_
            refine OW.loadA rfl ag36 rfl (sgx) (hcx) ?_
            refine OW.buildOne (c := cx) rfl el22 zr36 rfl rfl rfl rfl hcx rfl ?_
            intro b7 w10 n10
            have hbl : (bkS (now.drop i)).length ≤ 1000000 := Nat.le_trans (bkS_le _) (by rw [List.length_drop]; omega)
            have gcn : Fr0 W w10 := fU.trans n10.fr
            refine OW.appendOne (R := ruleR) (X := Bel w2) (el := x) ruleR_ok rfl ap22 rfl rfl (hk.frame ruleR_ok gcn (fun _ _ h => h) (fun _ _ h => h)) (Seg.ofNew n10) (ruleR_ok.frame hrx n10.fr (fun _ _ h => h)) (by omega) (by omega) (fun k hk e => by have := hown k e; have : k < w2.heap.size := hk; omega) ?_
            intro v8 w8 o8 f8 g8
            refine OW.assign rfl rfl ?_
            refine OW.nil ?_
            refine NX.blockN ?_
            refine NX.seq ?_
            refine CW.region ?_
            refine OW.move rfl rfl ?_
            refine OW.sub' rfl rfl rfl (by omega) ?_
            refine OW.assign rfl rfl ?_
            refine OW.nil ?_
            exact NX.loop (Lf := (fun (s : Nat × Value) => match s with | (i, vk) => [(0, .slice pa was.length ca), (1, .slice pb now.length cb), (5, vk), (6, .int .i64 (((i : Nat) : Int) - 1))])) (I := (fun (s : Nat × Value) W => match s with | (i, vk) => i ≤ now.length ∧ OwnSl 36 25 ruleR (Bel w2) W vk (bkS (now.drop i)) ∧ Fr0 w2 W ∧ ∀ j, vk.ownBlock = some j → w2.heap.size ≤ j)) (m := (fun (s : Nat × Value) => match s with | (i, vk) => i)) (i := (i, vk)) (i - 1, v8) ((Sub.cons rfl (Sub.cons rfl (Sub.cons rfl (Sub.cons rfl (Sub.nil _)))))) (⟨by omega, by rw [hbk, hL]; exact o8, (fW.trans gcn).trans' f8 (fun j hj c => by have := hown j c; omega), fun j hj => by
                      rcases g8 j hj with d | d
                      · exact hown j d
                      · have := (fW.trans gcn).size; omega⟩) (show i - 1 < i from by omega)
          · refine CW.exit ?_
            refine NX.thenExit ?_
            refine NX.thenExit ?_
            refine NX.blockEq ?_
            refine NX.seq ?_
            refine CW.seq ?_
            refine CW.region ?_
            refine OW.move rfl rfl ?_
            refine OW.not rfl rfl ?_
            refine OW.nil ?_
            refine NX.seq ?_
            refine CW.condF rfl ?_
            refine CW.skip ?_
            refine NX.blockN ?_
            refine NX.seq ?_
            refine CW.region ?_
            refine OW.move rfl rfl ?_
            refine OW.sub' rfl rfl rfl (by omega) ?_
            refine OW.assign rfl rfl ?_
            refine OW.nil ?_
            exact NX.loop (Lf := (fun (s : Nat × Value) => match s with | (i, vk) => [(0, .slice pa was.length ca), (1, .slice pb now.length cb), (5, vk), (6, .int .i64 (((i : Nat) : Int) - 1))])) (I := (fun (s : Nat × Value) W => match s with | (i, vk) => i ≤ now.length ∧ OwnSl 36 25 ruleR (Bel w2) W vk (bkS (now.drop i)) ∧ Fr0 w2 W ∧ ∀ j, vk.ownBlock = some j → w2.heap.size ≤ j)) (m := (fun (s : Nat × Value) => match s with | (i, vk) => i)) (i := (i, vk)) (i - 1, vk) ((Sub.cons rfl (Sub.cons rfl (Sub.cons rfl (Sub.cons rfl (Sub.nil _)))))) (⟨by omega, by rw [hbk, hL]; exact hk.frame ruleR_ok fU (fun _ _ h => h) (fun _ _ h => h), fW.trans fU, hown⟩) (show i - 1 < i from by omega)
      · have hi0 : i = 0 := by omega
        subst hi0
        rw [List.drop_zero] at hk
        have hbl : (bkS now).length ≤ 150 := Nat.le_trans (bkS_le _) (by omega)
        have fS := fW.size
        have hyW : rulesR (Bel W) W (.slice pb now.length cb) now := (hy.frame ruleR_ok fW (fun _ _ h => h)).mono ruleR_ok (fun k hk => Nat.lt_of_lt_of_le hk fS)
        have hxW : rulesR (Bel W) W (.slice pa was.length ca) was := (hx.frame ruleR_ok fW (fun _ _ h => h)).mono ruleR_ok (fun k hk => Nat.lt_of_lt_of_le hk fS)
        have hbW : rulesR (Bel W) W vk (bkS now) := (hk.mono ruleR_ok (X' := Bel W) (fun k hk => Nat.lt_of_lt_of_le hk fS)).sl ruleR_ok (fun k h => hk.lt h) (by omega)
        obtain ⟨pk, ck, hvk, _⟩ := hbW.shape
        subst hvk
        have wtn : ∀ r ∈ now, Dk.wtOk r := fun r hr => Dn.wt_ok (h4 r hr)
        refine CW.exit ?_
        refine NX.thenExit ?_
        refine NX.thenExit ?_
        refine NX.blockEq ?_
        refine NX.seq ?_
        refine CW.seq ?_
        refine CW.seq ?_
        refine CW.region ?_
        refine OW.move rfl rfl ?_
        refine OW.move rfl rfl ?_
        refine OW.call rfl rfl cl16 (Dk.between_does W hyW hbW (by omega) (by omega) (fun r hr => wtn r (lastOf_mem (bk_last hr)).1)) ?_
        rintro va1 w5 ⟨hm5, f5⟩
        rw [between_same (lastOf_bk now)] at hm5
        obtain ⟨p5, c5, hv5, _⟩ := hm5.shape
        subst hv5
        have bel5 : ∀ {v : Value} {l : List Rule}, rulesR (Bel W) W v l → rulesR (Bel w5) w5 v l := fun h => (h.frame ruleR_ok f5 (fun _ _ h => h)).mono ruleR_ok (fun k hk => Nat.lt_of_lt_of_le hk f5.size)
        refine OW.len rfl el26 rfl ?_
        refine OW.neq rfl rfl rfl ?_
        refine OW.slot (s := 77) rfl (show _ = Value.bool false from rfl) ?_
        refine OW.move rfl rfl ?_
        refine OW.gyes rfl rfl ?_
        refine OW.move rfl rfl ?_
        refine OW.gyes rfl rfl ?_
        refine OW.move rfl rfl ?_
        refine OW.gyes rfl rfl ?_
        refine OW.call rfl rfl cl16 (Dk.between_does w5 (bel5 hyW) (bel5 hyW) (by omega) (by omega) wtn) ?_
        rintro va2 w6 ⟨hm6, f6⟩
        rw [between_same (fun _ => rfl)] at hm6
        obtain ⟨p6, c6, hv6, _⟩ := hm6.shape
        subst hv6
        refine OW.gyes rfl rfl ?_
        refine OW.len rfl el26 rfl ?_
        refine OW.gyes rfl rfl ?_
        refine OW.neq rfl rfl rfl ?_
        refine OW.slot (s := 83) rfl (show _ = Value.bool false from rfl) ?_
        refine OW.pickF rfl rfl rfl ?_
        refine OW.nil ?_
        refine NX.seq ?_
        refine CW.condF rfl ?_
        have bel6 : ∀ {v : Value} {l : List Rule}, rulesR (Bel W) W v l → rulesR (Bel w6) w6 v l := fun h => (h.frame ruleR_ok (f5.trans f6) (fun _ _ h => h)).mono ruleR_ok (fun k hk => Nat.lt_of_lt_of_le hk (f5.trans f6).size)
        refine CW.skip ?_
        refine NX.seq ?_
        refine CW.seq ?_
        refine CW.region ?_
        refine OW.move rfl rfl ?_
        refine OW.move rfl rfl ?_
        refine OW.call rfl rfl cl16 (Dk.between_does w6 (bel6 hxW) (bel6 hyW) (by omega) (by omega) wtn) ?_
        rintro va3 w7 ⟨hm7, f7⟩
        obtain ⟨p7, c7, hv7, _⟩ := hm7.shape
        subst hv7
        have f57 := (f5.trans f6).trans f7
        have hx7 := hxW.frame ruleR_ok f57 (fun _ _ h => h)
        have hb7 := hbW.frame ruleR_ok f57 (fun _ _ h => h)
        have hw7 : Fr0 w2 w7 := fW.trans f57
        have hlm := between_len was now
        obtain ⟨ms, hms⟩ : ∃ ms, ms = betweenS was now := ⟨_, rfl⟩
        obtain ⟨bk, hbk⟩ : ∃ bk, bk = bkS now := ⟨_, rfl⟩
        rw [← hms] at hm7 hlm
        rw [← hbk] at hb7 hbl
        refine OW.assign rfl rfl ?_
        refine OW.nil ?_
        refine NX.seq ?_
        refine CW.seq ?_
        refine CW.seq ?_
        refine CW.region ?_
        refine OW.assign rfl rfl ?_
        refine OW.nil ?_
        refine NX.seq ?_
        refine CW.block ?_
        have hle : (bkS now).length = bk.length := by rw [hbk]
        have hlf : (betweenS was now).length = ms.length := by rw [hms]
        refine CW.loop (α := Nat) (fun i => [(0, .slice pa was.length ca), (5, .slice pk bk.length ck), (9, .slice p7 ms.length c7), (10, .int .i64 ((i : Nat) : Int))]) (fun _ U => Fr0 w7 U) (fun i => ms.length - i) 0 (Sub.cons rfl (Sub.cons (by rw [← hle]; rfl) (Sub.cons (by rw [← hlf]; rfl) (Sub.cons rfl (Sub.nil _))))) (Fr.refl _ _) ?_
        rintro i U1 g1
        refine CW.seq ?_
        refine CW.seq ?_
        refine CW.region ?_
        refine OW.move rfl rfl ?_
        refine OW.move rfl rfl ?_
        refine OW.len rfl el26 rfl ?_
        refine OW.lss rfl rfl rfl ?_
        refine OW.nil ?_
        refine NX.seq ?_
        refine CW.cond rfl (fun hli => ?_) (fun hli => ?_)
        · have hil : i < ms.length := by omega
          refine CW.skip ?_
          refine NX.seq ?_
          refine CW.seq ?_
          refine CW.block ?_
          refine CW.seq ?_
          refine CW.region ?_
          refine OW.assign rfl rfl ?_
          refine OW.nil ?_
          refine NX.seq ?_
          refine CW.block ?_
          refine CW.loop (α := Nat) (fun k => [(0, .slice pa was.length ca), (5, .slice pk bk.length ck), (9, .slice p7 ms.length c7), (10, .int .i64 ((i : Nat) : Int)), (11, .int .i64 ((k : Nat) : Int))]) (fun _ U => Fr0 w7 U) (fun k => bk.length - k) 0 (Sub.cons rfl (Sub.cons rfl (Sub.cons rfl (Sub.cons rfl (Sub.cons rfl (Sub.nil _)))))) g1 ?_
          rintro k U2 g2
          refine CW.seq ?_
          refine CW.seq ?_
          refine CW.region ?_
          refine OW.move rfl rfl ?_
          refine OW.move rfl rfl ?_
          refine OW.len rfl el22 rfl ?_
          refine OW.lss rfl rfl rfl ?_
          refine OW.nil ?_
          refine NX.seq ?_
          refine CW.cond rfl (fun hlk => ?_) (fun hlk => ?_)
          · have hkl : k < bk.length := by omega
            refine CW.skip ?_
            refine NX.seq ?_
            refine CW.seq ?_
            refine CW.block ?_
            refine CW.seq ?_
            refine CW.region ?_
            refine OW.assign rfl rfl ?_
            refine OW.nil ?_
            refine NX.seq ?_
            refine CW.block ?_
            refine CW.loop (α := Nat) (fun j => [(0, .slice pa was.length ca), (5, .slice pk bk.length ck), (9, .slice p7 ms.length c7), (10, .int .i64 ((i : Nat) : Int)), (11, .int .i64 ((k : Nat) : Int)), (12, .int .i64 ((j : Nat) : Int))]) (fun _ U => Fr0 w7 U) (fun j => was.length - j) 0 (Sub.cons rfl (Sub.cons rfl (Sub.cons rfl (Sub.cons rfl (Sub.cons rfl (Sub.cons rfl (Sub.nil _))))))) g2 ?_
            rintro j U3 g3
            refine CW.seq ?_
            refine CW.seq ?_
            refine CW.region ?_
            refine OW.move rfl rfl ?_
            refine OW.move rfl rfl ?_
            refine OW.len rfl el22 rfl ?_
            refine OW.lss rfl rfl rfl ?_
            refine OW.nil ?_
            refine NX.seq ?_
            refine CW.cond rfl (fun hlj => ?_) (fun hlj => ?_)
            · have hjl : j < was.length := by omega
              obtain ⟨b, hb1⟩ : ∃ b, b = bk[k] := ⟨_, rfl⟩
              obtain ⟨x, hx1⟩ : ∃ x, x = was[j] := ⟨_, rfl⟩
              obtain ⟨bb, ob, hpb, hrb⟩ := hb7.at' hkl
              subst hpb
              obtain ⟨cb', sgb, hcb⟩ := hrb k b (by rw [hb1]; exact List.getElem?_eq_getElem hkl)
              obtain ⟨ba, oa, hpa, hra⟩ := hx7.at' hjl
              subst hpa
              obtain ⟨cx, sgx, hcx⟩ := hra j x (by rw [hx1]; exact List.getElem?_eq_getElem hjl)
              have lb := ruleR_ok.len hcb
              have lx := ruleR_ok.len hcx
              refine CW.skip ?_
              refine NX.seq ?_
              refine CW.seq ?_
              refine CW.block ?_
              refine CW.seq ?_
              refine CW.drawX [(0, false), (1, false), (2, false), (3, false), (4, false), (5, false), (6, false), (7, false), (8, true), (9, false)] (fun z => Fr0 U3 z) MIX (by kernel_rfl) (fun _ h => h) ?_
              intro z1 hz1
              refine XW.val rfl rfl (fun zw hz => OW.move rfl rfl (OW.nil NX.calm)) ?_
              refine XW.val rfl rfl (fun zw hz => OW.move rfl rfl (OW.nil NX.calm)) ?_
              refine XW.val rfl rfl (fun zw hz => OW.indexAddr rfl el22 rfl rfl (⟨by omega, by omega⟩) (OW.nil NX.calm)) ?_
              refine XW.val rfl rfl (fun zw hz => OW.loadA rfl ag36 rfl ((sgb.frame g3 id).frame hz id) (lb) (OW.nil NX.calm)) ?_
              refine XW.val rfl rfl (fun zw hz => OW.move rfl rfl (OW.nil NX.calm)) ?_
              refine XW.val rfl rfl (fun zw hz => OW.move rfl rfl (OW.nil NX.calm)) ?_
              refine XW.val rfl rfl (fun zw hz => OW.indexAddr rfl el22 rfl rfl (⟨by omega, by omega⟩) (OW.nil NX.calm)) ?_
              refine XW.val rfl rfl (fun zw hz => OW.loadA rfl ag36 rfl ((sgx.frame g3 id).frame hz id) (lx) (OW.nil NX.calm)) ?_
              refine XW.does ?_
              refine OW.call rfl rfl cl18 (Do.alike_does _ (rf (rf hcb ruleR_ok g3) ruleR_ok hz1) (rf (rf hcx ruleR_ok g3) ruleR_ok hz1)) ?_
              rintro _ U4 ⟨rfl, g4⟩
              refine OW.nil (NX.does (hz1.trans g4) ?_)
              have g4 : Fr0 w7 U4 := g3.trans (hz1.trans g4)
              refine XW.val rfl rfl (fun zw hz => OW.assign rfl rfl (OW.nil NX.calm)) ?_
              refine XW.nil ?_
              refine NX.seq ?_
              refine CW.seq ?_
              refine CW.seq ?_
              refine CW.region ?_
              refine OW.move rfl rfl ?_
              refine OW.add rfl rfl rfl (by omega) ?_
              refine OW.assign rfl rfl ?_
              refine OW.nil ?_
              refine NX.seq ?_
              refine CW.block ?_
              refine CW.loop (α := Nat) (fun h => [(0, .slice (some ⟨ba, oa, none⟩) was.length ca), (5, .slice (some ⟨bb, ob, none⟩) bk.length ck), (9, .slice p7 ms.length c7), (10, .int .i64 ((i : Nat) : Int)), (11, .int .i64 ((k : Nat) : Int)), (12, .int .i64 ((j : Nat) : Int)), (13, .bool (Do.alikeS b x && ((was.drop (j + 1)).take (h - (j + 1))).all fun y => decide (plOf y ≠ plOf x))), (14, .int .i64 ((h : Nat) : Int))]) (fun h U => j + 1 ≤ h ∧ h ≤ was.length ∧ Fr0 w7 U) (fun h => was.length - h) (j + 1) (Sub.cons rfl (Sub.cons rfl (Sub.cons rfl (Sub.cons rfl (Sub.cons rfl (Sub.cons rfl (Sub.cons (congrArg (fun b => some (Value.bool b)) (by rw [Nat.sub_self]; simp)) (Sub.cons rfl (Sub.nil _))))))))) ⟨Nat.le_refl _, hjl, g4⟩ ?_
              rintro h U5 ⟨hjh, hhn, g5⟩
              refine CW.seq ?_
              refine CW.seq ?_
              refine CW.region ?_
              refine OW.move rfl rfl ?_
              refine OW.move rfl rfl ?_
              refine OW.len rfl el22 rfl ?_
              refine OW.lss rfl rfl rfl ?_
              refine OW.nil ?_
              refine NX.seq ?_
              refine CW.cond rfl (fun hlh => ?_) (fun hlh => ?_)
              · have hhl : h < was.length := by omega
                obtain ⟨y, hy1⟩ : ∃ y, y = was[h] := ⟨_, rfl⟩
                obtain ⟨cy, sgy, cvy, ecy, _, hwy⟩ := hra h y (by rw [hy1]; exact List.getElem?_eq_getElem hhl)
                obtain ⟨cvx, ecx, _, hwx⟩ := hcx
                subst ecy
                subst ecx
                have hsn := spare_snoc was x j h hjh hhl
                rw [← hy1] at hsn
                refine CW.skip ?_
                refine NX.seq ?_
                refine CW.seq ?_
                refine CW.block ?_
                refine CW.drawX [(0, false), (1, false), (2, false), (3, false), (4, false), (5, false), (6, false), (7, false), (8, false), (9, false), (10, false), (11, false), (12, false), (13, false), (14, false), (15, false), (16, false), (17, false), (18, false), (19, false), (20, false), (21, false), (22, false), (23, false), (24, false), (25, false), (26, false), (27, false)] (fun z => Fr0 U5 z) MIX (by kernel_rfl) (fun _ h => h) ?_
                intro z2 hz2
                refine XW.val rfl rfl (fun zw hz => OW.move rfl rfl (OW.nil NX.calm)) ?_
                refine XW.val rfl rfl (fun zw hz => OW.move rfl rfl (OW.nil NX.calm)) ?_
                refine XW.waysB (s := 124) rfl (fun hB => ?_) (fun hB => ?_)
                · refine XW.val rfl rfl (fun zw hz => OW.gyes rfl rfl (OW.move rfl rfl (OW.nil NX.calm))) ?_
                  refine XW.val rfl rfl (fun zw hz => OW.gyes rfl rfl (OW.move rfl rfl (OW.nil NX.calm))) ?_
                  refine XW.val rfl rfl (fun zw hz => OW.gyes rfl rfl (OW.indexAddr rfl el22 rfl rfl (⟨by omega, by omega⟩) (OW.nil NX.calm))) ?_
                  refine XW.val rfl rfl (fun zw hz => OW.gyes rfl rfl (OW.fieldAddr rfl fo36_0 rfl (OW.nil NX.calm))) ?_
                  refine XW.val rfl rfl (fun zw hz => OW.gyes rfl rfl (OW.load1 rfl ct3 rfl (((sgy.frame g5 id).frame hz id).one 0 rfl) (OW.nil NX.calm))) ?_
                  refine XW.val rfl rfl (fun zw hz => OW.gyes rfl rfl (OW.move rfl rfl (OW.nil NX.calm))) ?_
                  refine XW.val rfl rfl (fun zw hz => OW.gyes rfl rfl (OW.move rfl rfl (OW.nil NX.calm))) ?_
                  refine XW.val rfl rfl (fun zw hz => OW.gyes rfl rfl (OW.indexAddr rfl el22 rfl rfl (⟨by omega, by omega⟩) (OW.nil NX.calm))) ?_
                  refine XW.val rfl rfl (fun zw hz => OW.gyes rfl rfl (OW.fieldAddr rfl fo36_0 rfl (OW.nil NX.calm))) ?_
                  refine XW.val rfl rfl (fun zw hz => OW.gyes rfl rfl (OW.load1 rfl ct3 rfl (((sgx.frame g5 id).frame hz id).one 0 rfl) (OW.nil NX.calm))) ?_
                  refine XW.val rfl rfl (fun zw hz => OW.gyes rfl rfl (OW.neq rfl rfl rfl (OW.nil NX.calm))) ?_
                  refine XW.val rfl rfl (fun zw hz => OW.gyes rfl rfl (OW.move rfl rfl (OW.nil NX.calm))) ?_
                  refine XW.ways (s := 136) rfl (fun hrk => ?_) (fun hrk => ?_)
                  · refine XW.gno rfl rfl rfl rfl ?_
                    refine XW.gno rfl rfl rfl rfl ?_
                    refine XW.gno rfl rfl rfl rfl ?_
                    refine XW.gno rfl rfl rfl rfl ?_
                    refine XW.gno rfl rfl rfl rfl ?_
                    refine XW.gno rfl rfl rfl rfl ?_
                    refine XW.gno rfl rfl rfl rfl ?_
                    refine XW.gno rfl rfl rfl rfl ?_
                    refine XW.gno rfl rfl rfl rfl ?_
                    refine XW.gno rfl rfl rfl rfl ?_
                    refine XW.gno rfl rfl rfl rfl ?_
                    refine XW.val rfl rfl (fun zw hz => OW.gyes rfl rfl (OW.pickT rfl rfl rfl (OW.nil NX.calm))) ?_
                    refine XW.val rfl rfl (fun zw hz => OW.pickT rfl rfl rfl (OW.nil NX.calm)) ?_
                    refine XW.val rfl rfl (fun zw hz => OW.assign rfl rfl (OW.nil NX.calm)) ?_
                    refine XW.nil ?_
                    refine NX.blockN ?_
                    refine NX.seq ?_
                    refine CW.region ?_
                    refine OW.move rfl rfl ?_
                    refine OW.add rfl rfl rfl (by omega) ?_
                    refine OW.assign rfl rfl ?_
                    refine OW.nil ?_
                    refine NX.slot (s := 13) rfl (congrArg Value.bool (show _ = (Do.alikeS b x && ((was.drop (j + 1)).take (h + 1 - (j + 1))).all fun y => decide (plOf y ≠ plOf x)) from by rw [hsn, ← Bool.and_assoc, hB]; exact spare_ne hrk)) ?_
                    exact NX.loop (h + 1) ((Sub.cons rfl (Sub.cons rfl (Sub.cons rfl (Sub.cons rfl (Sub.cons rfl (Sub.cons rfl (Sub.cons rfl (Sub.cons rfl (Sub.nil _)))))))))) (⟨by omega, by omega, g5.trans hz2⟩) (by omega)
                  · refine XW.val rfl rfl (fun zw hz => OW.gyes rfl rfl (OW.move rfl rfl (OW.nil NX.calm))) ?_
                    refine XW.val rfl rfl (fun zw hz => OW.gyes rfl rfl (OW.move rfl rfl (OW.nil NX.calm))) ?_
                    refine XW.val rfl rfl (fun zw hz => OW.gyes rfl rfl (OW.indexAddr rfl el22 rfl rfl (⟨by omega, by omega⟩) (OW.nil NX.calm))) ?_
                    refine XW.val rfl rfl (fun zw hz => OW.gyes rfl rfl (OW.fieldAddr rfl fo36_1 rfl (OW.nil NX.calm))) ?_
                    refine XW.val rfl rfl (fun zw hz => OW.gyes rfl rfl (OW.loadA rfl ag33 rfl (((sgy.frame g5 id).frame hz id).sub 1 (fun j v e => Dg.ruleCells_mat j v e)) (rfl) (OW.nil NX.calm))) ?_
                    refine XW.val rfl rfl (fun zw hz => OW.gyes rfl rfl (OW.move rfl rfl (OW.nil NX.calm))) ?_
                    refine XW.val rfl rfl (fun zw hz => OW.gyes rfl rfl (OW.move rfl rfl (OW.nil NX.calm))) ?_
                    refine XW.val rfl rfl (fun zw hz => OW.gyes rfl rfl (OW.indexAddr rfl el22 rfl rfl (⟨by omega, by omega⟩) (OW.nil NX.calm))) ?_
                    refine XW.val rfl rfl (fun zw hz => OW.gyes rfl rfl (OW.fieldAddr rfl fo36_1 rfl (OW.nil NX.calm))) ?_
                    refine XW.val rfl rfl (fun zw hz => OW.gyes rfl rfl (OW.loadA rfl ag33 rfl (((sgx.frame g5 id).frame hz id).sub 1 (fun j v e => Dg.ruleCells_mat j v e)) (rfl) (OW.nil NX.calm))) ?_
                    refine XW.val rfl rfl (fun zw hz => OW.gyes rfl rfl (OW.neqA (l := y.mat.lits) (r := x.mat.lits) rfl Do.matFlat eg33 rfl rfl rfl rfl (Mat.lits_wf hwy.2.2.1) (Mat.lits_wf hwx.2.2.1) (OW.nil NX.calm))) ?_
                    refine XW.val rfl rfl (fun zw hz => OW.gyes rfl rfl (OW.pickF rfl rfl rfl (OW.nil NX.calm))) ?_
                    refine XW.val rfl rfl (fun zw hz => OW.pickT rfl rfl rfl (OW.nil NX.calm)) ?_
                    refine XW.val rfl rfl (fun zw hz => OW.assign rfl rfl (OW.nil NX.calm)) ?_
                    refine XW.nil ?_
                    refine NX.blockN ?_
                    refine NX.seq ?_
                    refine CW.region ?_
                    refine OW.move rfl rfl ?_
                    refine OW.add rfl rfl rfl (by omega) ?_
                    refine OW.assign rfl rfl ?_
                    refine OW.nil ?_
                    refine NX.slot (s := 13) rfl (congrArg Value.bool (show _ = (Do.alikeS b x && ((was.drop (j + 1)).take (h + 1 - (j + 1))).all fun y => decide (plOf y ≠ plOf x)) from by rw [hsn, ← Bool.and_assoc, hB]; exact spare_eq (Decidable.not_not.1 hrk))) ?_
                    exact NX.loop (h + 1) ((Sub.cons rfl (Sub.cons rfl (Sub.cons rfl (Sub.cons rfl (Sub.cons rfl (Sub.cons rfl (Sub.cons rfl (Sub.cons rfl (Sub.nil _)))))))))) (⟨by omega, by omega, g5.trans hz2⟩) (by omega)
                · refine XW.gno rfl rfl rfl rfl ?_
                  refine XW.gno rfl rfl rfl rfl ?_
                  refine XW.gno rfl rfl rfl rfl ?_
                  refine XW.gno rfl rfl rfl rfl ?_
                  refine XW.gno rfl rfl rfl rfl ?_
                  refine XW.gno rfl rfl rfl rfl ?_
                  refine XW.gno rfl rfl rfl rfl ?_
                  refine XW.gno rfl rfl rfl rfl ?_
                  refine XW.gno rfl rfl rfl rfl ?_
                  refine XW.gno rfl rfl rfl rfl ?_
                  refine XW.gno rfl rfl rfl rfl ?_
                  refine XW.gno rfl rfl rfl rfl ?_
                  refine XW.gnoU rfl rfl rfl ?_
                  refine XW.gnoU rfl rfl rfl ?_
                  refine XW.gnoU rfl rfl rfl ?_
                  refine XW.gnoU rfl rfl rfl ?_
                  refine XW.gnoU rfl rfl rfl ?_
                  refine XW.gnoU rfl rfl rfl ?_
                  refine XW.gnoU rfl rfl rfl ?_
                  refine XW.gnoU rfl rfl rfl ?_
                  refine XW.gnoU rfl rfl rfl ?_
                  refine XW.gnoU rfl rfl rfl ?_
                  refine XW.gnoU rfl rfl rfl ?_
                  refine XW.gno rfl rfl rfl rfl ?_
                  refine XW.val rfl rfl (fun zw hz => OW.pickF rfl rfl rfl (OW.nil NX.calm)) ?_
                  refine XW.val rfl rfl (fun zw hz => OW.assign rfl rfl (OW.nil NX.calm)) ?_
                  refine XW.nil ?_
                  refine NX.blockN ?_
                  refine NX.seq ?_
                  refine CW.region ?_
                  refine OW.move rfl rfl ?_
                  refine OW.add rfl rfl rfl (by omega) ?_
                  refine OW.assign rfl rfl ?_
                  refine OW.nil ?_
                  refine NX.slot (s := 13) rfl (congrArg Value.bool (show _ = (Do.alikeS b x && ((was.drop (j + 1)).take (h + 1 - (j + 1))).all fun y => decide (plOf y ≠ plOf x)) from by rw [hsn, ← Bool.and_assoc, hB]; exact (Bool.false_and _).symm)) ?_
                  exact NX.loop (h + 1) ((Sub.cons rfl (Sub.cons rfl (Sub.cons rfl (Sub.cons rfl (Sub.cons rfl (Sub.cons rfl (Sub.cons rfl (Sub.cons rfl (Sub.nil _)))))))))) (⟨by omega, by omega, g5.trans hz2⟩) (by omega)
              · have hfull : ((was.drop (j + 1)).take (h - (j + 1))) = was.drop (j + 1) := List.take_of_length_le (by rw [List.length_drop]; omega)
                refine CW.slot (s := 13) rfl (congrArg Value.bool (show _ = (Do.alikeS b x && (was.drop (j + 1)).all fun y => decide (plOf y ≠ plOf x)) from by rw [hfull])) ?_
                obtain ⟨m, hm1⟩ : ∃ m, m = ms[i] := ⟨_, rfl⟩
                obtain ⟨bm, om, hpm, hrm⟩ := hm7.at' hil
                subst hpm
                obtain ⟨cm, sgm, rc, ecm, cvm, erm, _, hwm⟩ := hrm i m (by rw [hm1]; exact List.getElem?_eq_getElem hil)
                obtain ⟨cvb, ecb, _, hwb⟩ := hcb
                subst ecm
                subst erm
                subst ecb
                refine CW.exit ?_
                refine NX.thenExit ?_
                refine NX.thenExit ?_
                refine NX.blockEq ?_
                refine NX.seq ?_
                refine CW.seq ?_
                refine CW.drawX [(0, false), (1, false), (2, false), (3, false), (4, false), (5, false), (6, false), (7, false), (8, false), (9, false), (10, false), (11, false), (12, false), (13, false), (14, false), (15, false), (16, false), (17, false), (18, false), (19, false), (20, false), (21, false), (22, false), (23, false), (24, false), (25, false), (26, false), (27, false), (28, false)] (fun z => Fr0 U5 z) MIX (by kernel_rfl) (fun _ h => h) ?_
                intro z2 hz2
                refine XW.val rfl rfl (fun zw hz => OW.move rfl rfl (OW.nil NX.calm)) ?_
                refine XW.val rfl rfl (fun zw hz => OW.move rfl rfl (OW.nil NX.calm)) ?_
                refine XW.waysB (s := 151) rfl (fun hB => ?_) (fun hB => ?_)
                · refine XW.val rfl rfl (fun zw hz => OW.gyes rfl rfl (OW.move rfl rfl (OW.nil NX.calm))) ?_
                  refine XW.val rfl rfl (fun zw hz => OW.gyes rfl rfl (OW.move rfl rfl (OW.nil NX.calm))) ?_
                  refine XW.val rfl rfl (fun zw hz => OW.gyes rfl rfl (OW.indexAddr rfl el26 rfl rfl (⟨by omega, by omega⟩) (OW.nil NX.calm))) ?_
                  refine XW.val rfl rfl (fun zw hz => OW.gyes rfl rfl (OW.fieldAddr rfl fo45_3 rfl (OW.nil NX.calm))) ?_
                  refine XW.val rfl rfl (fun zw hz => OW.gyes rfl rfl (OW.fieldAddr rfl fo36_0 rfl (OW.nil NX.calm))) ?_
                  refine XW.val rfl rfl (fun zw hz => OW.gyes rfl rfl (OW.load1 rfl ct3 rfl (((sgm.frame g5 id).frame hz id).one 3 rfl) (OW.nil NX.calm))) ?_
                  refine XW.val rfl rfl (fun zw hz => OW.gyes rfl rfl (OW.move rfl rfl (OW.nil NX.calm))) ?_
                  refine XW.val rfl rfl (fun zw hz => OW.gyes rfl rfl (OW.move rfl rfl (OW.nil NX.calm))) ?_
                  refine XW.val rfl rfl (fun zw hz => OW.gyes rfl rfl (OW.indexAddr rfl el22 rfl rfl (⟨by omega, by omega⟩) (OW.nil NX.calm))) ?_
                  refine XW.val rfl rfl (fun zw hz => OW.gyes rfl rfl (OW.fieldAddr rfl fo36_0 rfl (OW.nil NX.calm))) ?_
                  refine XW.val rfl rfl (fun zw hz => OW.gyes rfl rfl (OW.load1 rfl ct3 rfl (((sgb.frame g5 id).frame hz id).one 0 rfl) (OW.nil NX.calm))) ?_
                  refine XW.val rfl rfl (fun zw hz => OW.gyes rfl rfl (OW.eql rfl rfl rfl (OW.nil NX.calm))) ?_
                  refine XW.val rfl rfl (fun zw hz => OW.pickT rfl rfl rfl (OW.nil NX.calm)) ?_
                  refine XW.val rfl rfl (fun zw hz => OW.move rfl rfl (OW.nil NX.calm)) ?_
                  refine XW.ways (s := 165) rfl (fun hrk => ?_) (fun hrk => ?_)
                  · refine XW.val rfl rfl (fun zw hz => OW.gyes rfl rfl (OW.move rfl rfl (OW.nil NX.calm))) ?_
                    refine XW.val rfl rfl (fun zw hz => OW.gyes rfl rfl (OW.move rfl rfl (OW.nil NX.calm))) ?_
                    refine XW.val rfl rfl (fun zw hz => OW.gyes rfl rfl (OW.indexAddr rfl el26 rfl rfl (⟨by omega, by omega⟩) (OW.nil NX.calm))) ?_
                    refine XW.val rfl rfl (fun zw hz => OW.gyes rfl rfl (OW.fieldAddr rfl fo45_3 rfl (OW.nil NX.calm))) ?_
                    refine XW.val rfl rfl (fun zw hz => OW.gyes rfl rfl (OW.fieldAddr rfl fo36_1 rfl (OW.nil NX.calm))) ?_
                    refine XW.val rfl rfl (fun zw hz => OW.gyes rfl rfl (OW.loadA rfl ag33 rfl (((sgm.frame g5 id).frame hz id).sub 4 (fun j v e => msgCells_mat j v e)) (rfl) (OW.nil NX.calm))) ?_
                    refine XW.val rfl rfl (fun zw hz => OW.gyes rfl rfl (OW.move rfl rfl (OW.nil NX.calm))) ?_
                    refine XW.val rfl rfl (fun zw hz => OW.gyes rfl rfl (OW.move rfl rfl (OW.nil NX.calm))) ?_
                    refine XW.val rfl rfl (fun zw hz => OW.gyes rfl rfl (OW.indexAddr rfl el22 rfl rfl (⟨by omega, by omega⟩) (OW.nil NX.calm))) ?_
                    refine XW.val rfl rfl (fun zw hz => OW.gyes rfl rfl (OW.fieldAddr rfl fo36_1 rfl (OW.nil NX.calm))) ?_
                    refine XW.val rfl rfl (fun zw hz => OW.gyes rfl rfl (OW.loadA rfl ag33 rfl (((sgb.frame g5 id).frame hz id).sub 1 (fun j v e => Dg.ruleCells_mat j v e)) (rfl) (OW.nil NX.calm))) ?_
                    refine XW.val rfl rfl (fun zw hz => OW.gyes rfl rfl (OW.eqlA (l := m.rule.mat.lits) (r := b.mat.lits) rfl Do.matFlat eg33 rfl rfl rfl rfl (Mat.lits_wf hwm.2.2.1) (Mat.lits_wf hwb.2.2.1) (OW.nil NX.calm))) ?_
                    refine XW.val rfl rfl (fun zw hz => OW.pickT rfl rfl rfl (OW.nil NX.calm)) ?_
                    refine XW.nil ?_
                    refine NX.seq ?_
                    refine CW.cond rfl (fun hmt => ?_) (fun hmt => ?_)
                    · exact (spares_here hms (by rw [hm1]; exact List.getElem_mem hil) (by have e : bk[k] ∈ bk := List.getElem_mem hkl; rw [← hb1] at e; exact hbk ▸ e) hx1 hB hrk (Mat.lits_inj hmt)).elim
                    · refine CW.skip ?_
                      refine NX.blockN ?_
                      refine NX.seq ?_
                      refine CW.region ?_
                      refine OW.move rfl rfl ?_
                      refine OW.add rfl rfl rfl (by omega) ?_
                      refine OW.assign rfl rfl ?_
                      refine OW.nil ?_
                      exact NX.loop (j + 1) ((Sub.cons rfl (Sub.cons rfl (Sub.cons rfl (Sub.cons rfl (Sub.cons rfl (Sub.cons rfl (Sub.nil _)))))))) (g5.trans hz2) (by omega)
                  · refine XW.gno rfl rfl rfl rfl ?_
                    refine XW.gno rfl rfl rfl rfl ?_
                    refine XW.gno rfl rfl rfl rfl ?_
                    refine XW.gno rfl rfl rfl rfl ?_
                    refine XW.gno rfl rfl rfl rfl ?_
                    refine XW.gno rfl rfl rfl rfl ?_
                    refine XW.gno rfl rfl rfl rfl ?_
                    refine XW.gno rfl rfl rfl rfl ?_
                    refine XW.gno rfl rfl rfl rfl ?_
                    refine XW.gno rfl rfl rfl rfl ?_
                    refine XW.gno rfl rfl rfl rfl ?_
                    refine XW.gno rfl rfl rfl rfl ?_
                    refine XW.val rfl rfl (fun zw hz => OW.pickF rfl rfl rfl (OW.nil NX.calm)) ?_
                    refine XW.nil ?_
                    refine NX.seq ?_
                    refine CW.condF rfl ?_
                    refine CW.skip ?_
                    refine NX.blockN ?_
                    refine NX.seq ?_
                    refine CW.region ?_
                    refine OW.move rfl rfl ?_
                    refine OW.add rfl rfl rfl (by omega) ?_
                    refine OW.assign rfl rfl ?_
                    refine OW.nil ?_
                    exact NX.loop (j + 1) ((Sub.cons rfl (Sub.cons rfl (Sub.cons rfl (Sub.cons rfl (Sub.cons rfl (Sub.cons rfl (Sub.nil _)))))))) (g5.trans hz2) (by omega)
                · refine XW.gno rfl rfl rfl rfl ?_
                  refine XW.gno rfl rfl rfl rfl ?_
                  refine XW.gno rfl rfl rfl rfl ?_
                  refine XW.gno rfl rfl rfl rfl ?_
                  refine XW.gno rfl rfl rfl rfl ?_
                  refine XW.gno rfl rfl rfl rfl ?_
                  refine XW.gno rfl rfl rfl rfl ?_
                  refine XW.gno rfl rfl rfl rfl ?_
                  refine XW.gno rfl rfl rfl rfl ?_
                  refine XW.gno rfl rfl rfl rfl ?_
                  refine XW.gno rfl rfl rfl rfl ?_
                  refine XW.gno rfl rfl rfl rfl ?_
                  refine XW.val rfl rfl (fun zw hz => OW.pickF rfl rfl rfl (OW.nil NX.calm)) ?_
                  refine XW.val rfl rfl (fun zw hz => OW.move rfl rfl (OW.nil NX.calm)) ?_
                  refine XW.gno rfl rfl rfl rfl ?_
                  refine XW.gno rfl rfl rfl rfl ?_
                  refine XW.gno rfl rfl rfl rfl ?_
                  refine XW.gno rfl rfl rfl rfl ?_
                  refine XW.gno rfl rfl rfl rfl ?_
                  refine XW.gno rfl rfl rfl rfl ?_
                  refine XW.gno rfl rfl rfl rfl ?_
                  refine XW.gno rfl rfl rfl rfl ?_
                  refine XW.gno rfl rfl rfl rfl ?_
                  refine XW.gno rfl rfl rfl rfl ?_
                  refine XW.gno rfl rfl rfl rfl ?_
                  refine XW.gno rfl rfl rfl rfl ?_
                  refine XW.val rfl rfl (fun zw hz => OW.pickF rfl rfl rfl (OW.nil NX.calm)) ?_
                  refine XW.nil ?_
                  refine NX.seq ?_
                  refine CW.condF rfl ?_
                  refine CW.skip ?_
                  refine NX.blockN ?_
                  refine NX.seq ?_
                  refine CW.region ?_
                  refine OW.move rfl rfl ?_
                  refine OW.add rfl rfl rfl (by omega) ?_
                  refine OW.assign rfl rfl ?_
                  refine OW.nil ?_
                  exact NX.loop (j + 1) ((Sub.cons rfl (Sub.cons rfl (Sub.cons rfl (Sub.cons rfl (Sub.cons rfl (Sub.cons rfl (Sub.nil _)))))))) (g5.trans hz2) (by omega)
            · refine CW.exit ?_
              refine NX.thenExit ?_
              refine NX.thenExit ?_
              refine NX.blockEq ?_
              refine NX.blockN ?_
              refine NX.seq ?_
              refine CW.region ?_
              refine OW.move rfl rfl ?_
              refine OW.add rfl rfl rfl (by omega) ?_
              refine OW.assign rfl rfl ?_
              refine OW.nil ?_
              exact NX.loop (k + 1) ((Sub.cons rfl (Sub.cons rfl (Sub.cons rfl (Sub.cons rfl (Sub.cons rfl (Sub.nil _))))))) (g3) (by omega)
          · refine CW.exit ?_
            refine NX.thenExit ?_
            refine NX.thenExit ?_
            refine NX.blockEq ?_
            refine NX.blockN ?_
            refine NX.seq ?_
            refine CW.region ?_
            refine OW.move rfl rfl ?_
            refine OW.add rfl rfl rfl (by omega) ?_
            refine OW.assign rfl rfl ?_
            refine OW.nil ?_
            exact NX.loop (i + 1) ((Sub.cons rfl (Sub.cons rfl (Sub.cons rfl (Sub.cons rfl (Sub.nil _)))))) (g2) (by omega)
        · refine CW.exit ?_
          refine NX.thenExit ?_
          refine NX.thenExit ?_
          refine NX.blockEq ?_
          refine NX.seq ?_
          refine CW.seq ?_
          refine CW.region ?_
          refine OW.call rfl rfl cl14 (Dm.wakes_does _) ?_
          rintro _ w9 ⟨rfl, f9⟩
          refine OW.assign rfl rfl ?_
          refine OW.nil ?_
          refine NX.seq ?_
          refine CW.ret ?_
          exact NX.ret1 rfl rfl (⟨rfl, (hw7.trans g1).trans f9⟩)

end Go.Eng.Dp
