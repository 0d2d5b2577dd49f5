/-
  What Between of package diff does, stepped through.
  No condition.
-/
import Derived.Test.YtmdhbgkmkmmmpaaDat5
import Derived.Test.YtmdhbgkmkmmmpaaDg
import Derived.Test.YtmdhbgkmkmmmpaaDh
import Derived.Test.YtmdhbgkmkmmmpaaDj
import Derived.Test.YtmdhbgkmkmmmpaaProg
import Derived.KernelRfl
namespace Go.Eng.Dk
open Go Go.Eng Go.Proofs
theorem MIX : Try.prog.follows .mixedOrders = true := by kernel_rfl
/-- a rule whose copies can be copied -/
def wtOk (r : Rule) : Prop := r.cps.length ≤ 1000000 ∧ ∀ c ∈ r.cps, c.length ≤ 1000000

theorem ag33 : aggSz Try.prog 33 = some 22 := by kernel_rfl
theorem ag36 : aggSz Try.prog 36 = some 25 := by kernel_rfl
theorem ag82 : aggSz Try.prog 82 = some 23 := by kernel_rfl
theorem ap22 : apdIs Try.prog 22 = some (36, 25, 216) := by kernel_rfl
theorem ap26 : apdIs Try.prog 26 = some (45, 36, 344) := by kernel_rfl
theorem ap34 : apdIs Try.prog 34 = some (75, 1, 24) := by kernel_rfl
theorem cl40 : callable Try.prog 40 = true := by kernel_rfl
theorem cl41 : callable Try.prog 41 = true := by kernel_rfl
theorem cl42 : callable Try.prog 42 = true := by kernel_rfl
theorem cl44 : callable Try.prog 44 = true := by kernel_rfl
theorem ct29 : cellTy Try.prog 29 = true := by kernel_rfl
theorem ct3 : cellTy Try.prog 3 = true := by kernel_rfl
theorem ct34 : cellTy Try.prog 34 = true := by kernel_rfl
theorem ct75 : cellTy Try.prog 75 = true := by kernel_rfl
theorem el22 : elemIs Try.prog 22 = some (36, 25) := by kernel_rfl
theorem el26 : elemIs Try.prog 26 = some (45, 36) := by kernel_rfl
theorem el34 : elemIs Try.prog 34 = some (75, 1) := by kernel_rfl
theorem el78 : elemIs Try.prog 78 = some (82, 23) := by kernel_rfl
theorem fo36_2 : fieldOff Try.prog 36 2 = some 23 := by kernel_rfl
theorem fo36_3 : fieldOff Try.prog 36 3 = some 24 := by kernel_rfl
theorem fo82_0 : fieldOff Try.prog 82 0 = some 0 := by kernel_rfl
theorem fo82_1 : fieldOff Try.prog 82 1 = some 1 := by kernel_rfl
theorem mp77 : Try.prog.underlying 77 = some (.map 82 36) := by kernel_rfl
theorem pl36 : placesIs Try.prog 36 = some [(0, 1), (1, 22), (23, 1), (24, 1)] := by kernel_rfl
theorem pl45 : placesIs Try.prog 45 = some [(0, 1), (1, 1), (2, 1), (3, 25), (28, 1), (29, 1), (30, 1), (31, 1), (32, 1), (33, 1), (34, 1), (35, 1)] := by kernel_rfl
theorem sz34 : sizeIs Try.prog 34 = some 1 := by kernel_rfl
theorem sz36 : sizeIs Try.prog 36 = some 25 := by kernel_rfl
theorem sz82 : sizeIs Try.prog 82 = some 23 := by kernel_rfl
theorem zr36 : zeroIs Try.prog 36 = some (.agg #[.int .i64 0, .int .u64 0, .int .u64 0, .int .u64 0, .int .u64 0, .int .u64 0, .int .u64 0, .int .u64 0, .int .u64 0, .int .u64 0, .int .u64 0, .int .u64 0, .int .u64 0, .int .u64 0, .int .u64 0, .int .u64 0, .int .u64 0, .int .u64 0, .int .u64 0, .int .u64 0, .int .u64 0, .int .u64 0, .int .u64 0, .slice none 0 0, .int .u64 0]) := by kernel_rfl
theorem zr45 : zeroIs Try.prog 45 = some (.agg #[.int .i8 0, .int .u32 0, .int .i8 0, .int .i64 0, .int .u64 0, .int .u64 0, .int .u64 0, .int .u64 0, .int .u64 0, .int .u64 0, .int .u64 0, .int .u64 0, .int .u64 0, .int .u64 0, .int .u64 0, .int .u64 0, .int .u64 0, .int .u64 0, .int .u64 0, .int .u64 0, .int .u64 0, .int .u64 0, .int .u64 0, .int .u64 0, .int .u64 0, .int .u64 0, .slice none 0 0, .int .u64 0, .int .u16 0, .bool false, .int .u16 0, .slice none 0 0, .slice none 0 0, .slice none 0 0, .slice none 0 0, .int .u16 0]) := by kernel_rfl
theorem zr75 : zeroIs Try.prog 75 = some (.slice none 0 0) := by kernel_rfl
theorem zr82 : zeroIs Try.prog 82 = some (.agg #[.int .i64 0, .int .u64 0, .int .u64 0, .int .u64 0, .int .u64 0, .int .u64 0, .int .u64 0, .int .u64 0, .int .u64 0, .int .u64 0, .int .u64 0, .int .u64 0, .int .u64 0, .int .u64 0, .int .u64 0, .int .u64 0, .int .u64 0, .int .u64 0, .int .u64 0, .int .u64 0, .int .u64 0, .int .u64 0, .int .u64 0]) := by kernel_rfl

theorem falling_sl {X : Nat → Prop} {U : World} {vd : Value} {adds : List Rule} (hd : OwnSl 36 25 ruleR X U vd adds) (hn : adds.length ≤ 140737488355328) (hX : ∀ j, X j → vd.ownBlock ≠ some j) :
    Does Try.prog 42 [vd, .func (.func 43) #[] #[]] U fun _ u => Fr (fun j => vd.ownBlock = some j) U u ∧ SlR 25 ruleR (fun j => X j ∨ vd.ownBlock = some j) u vd (isort rankLess adds) := by
  by_cases h0 : 0 < adds.length
  · obtain ⟨b, cap, post, fz, hv, hcap, hA, hel⟩ := hd.arr ruleR_ok h0
    rw [hv]
    obtain ⟨xs, hxs⟩ : ∃ xs : Nat → Rule, xs = fun i => (adds[i]?).getD ⟨0, ⟨fun _ => 0, fun _ => 0⟩, [], 0⟩ := ⟨_, rfl⟩
    have hget : ∀ i, i < adds.length → adds[i]? = some (xs i) := fun i hi => by rw [hxs]; simp only [List.getElem?_eq_getElem hi, Option.getD_some]
    have hmap : (List.range adds.length).map xs = adds := by
      apply List.ext_getElem?
      intro i
      rw [List.getElem?_map]
      rcases Nat.lt_or_ge i adds.length with g | g
      · rw [List.getElem?_range g, hget i g]; rfl
      · rw [List.getElem?_eq_none (by simpa using g), List.getElem?_eq_none g]; rfl
    refine (Dh.falling_does (pre := []) (xs := xs) hn hA (fun i hi => hel i (xs i) (hget i hi))).mono ?_
    rintro _ u ⟨q, h1, h2, h3, h4⟩
    rw [Dh.lessOf_rank (fun i => (xs i).rank)] at h2
    have ho : SOrd fun i j => rankLess (xs i) (xs j) := by
      have := Dh.cmpI_ord (fun i => (xs i).rank)
      rw [Dh.lessOf_rank (fun i => (xs i).rank)] at this
      exact this
    have hs := isort_of rankLess xs ho h1 h2
    rw [hmap] at hs
    have hlen : (isort rankLess adds).length = adds.length := (isort_perm _ _).length_eq
    refine ⟨h4.mono fun j _ c => by rw [c]; rfl, ?_⟩
    have h5 : Arr u b 36 25 (isort rankLess adds).length [] post (fun k => fz (q k)) := by rw [hlen]; exact h3
    have hq : ∀ k, k < adds.length → q k < adds.length := fun k hk => h1.all (c := 0) (d := adds.length) (by omega) (T := fun x => x < adds.length) (fun k _ h2 => h2) k (Nat.zero_le _) hk
    have := Arr.sl (R := ruleR) (X := fun j => X j ∨ (Value.slice (some ⟨b, 0, none⟩) adds.length cap).ownBlock = some j) (cap := cap) (xs := isort rankLess adds) h5 (by omega) (by omega) (.inr rfl) (fun i x hx => ?_)
    · rwa [hlen] at this
    · have hi : i < adds.length := by
        rcases Nat.lt_or_ge i adds.length with g | g
        · exact g
        · rw [List.getElem?_eq_none (by omega)] at hx; cases hx
      rw [← hs, List.getElem?_map, List.getElem?_range hi] at hx
      simp only [Option.map_some, Option.some.injEq] at hx
      subst hx
      have h6 := hel (q i) (xs (q i)) (hget _ (hq i hi))
      exact ruleR_ok.mono (ruleR_ok.frame h6 h4 (fun k hk e => hX k hk (by rw [hv, e]; rfl))) (fun k hk => .inl hk)
  · have h1 : adds = [] := List.eq_nil_of_length_eq_zero (by omega)
    subst h1
    obtain ⟨cs, ho, _⟩ := hd
    rcases ho.shape with ⟨hv, _⟩ | ⟨b, cap, hv, _⟩
    · rw [hv]; exact Dh.falling0_does.mono fun v' u e => ⟨e.any, .inl ⟨_, _, rfl, rfl⟩⟩
    · rw [hv]; exact Dh.falling0_does.mono fun v' u e => ⟨e.any, .inl ⟨_, _, rfl, rfl⟩⟩

theorem between_does {was now : List Rule} {va vb : Value} (w : World) (hx : rulesR (Bel w) w va was) (hy : rulesR (Bel w) w vb now) (hsx : was.length ≤ 100000000) (hsy : now.length ≤ 100000000) (hwt : ∀ r ∈ now, wtOk r) : Does Try.prog 16 [va, vb] w fun r w' => msgsR AllB w' r (betweenS was now) ∧ Fr0 w w' := by
  refine Does.enter Try.func16 rfl rfl ?_
  show CW _ _ _ _ 127 [] [(0, va), (1, vb)] w
  refine CW.seq ?_
  refine CW.region ?_
  refine OW.assign rfl rfl ?_
  refine OW.nil ?_
  refine NX.seq ?_
  refine CW.seq ?_
  refine CW.region ?_
  refine OW.move rfl rfl ?_
  refine OW.call rfl rfl cl40 (Dj.last_does w hx hsx) ?_
  rintro _ w1 ⟨ba, kva, fa, rfl, f1, hma, hoka, htoa, hsa⟩
  have hy1 : rulesR (Bel w1) w1 vb now := (hy.frame ruleR_ok f1 (fun _ _ h => h)).mono ruleR_ok (fun k hk => Nat.lt_of_lt_of_le hk f1.size)
  refine OW.move rfl rfl ?_
  refine OW.extract rfl rfl rfl ?_
  refine OW.extract rfl rfl rfl ?_
  refine OW.assign rfl rfl ?_
  refine OW.assign rfl rfl ?_
  refine OW.nil ?_
  refine NX.seq ?_
  refine CW.seq ?_
  refine CW.region ?_
  refine OW.move rfl rfl ?_
  refine OW.call rfl rfl cl40 (Dj.last_does w1 hy1 hsy) ?_
  rintro _ w2 ⟨bb, kvb, fb, rfl, f2, hmb, hokb, htob, hsb⟩
  have hA : MapsTo (Bel w2) w2 kva was := MapsTo.mono ((htoa.frame f1 (fun _ _ h => h)).frame f2 (fun _ _ h => h)) (fun k hk => Nat.lt_of_lt_of_le hk (f1.trans f2).size)
  have hB : MapsTo (Bel w2) w2 kvb now := MapsTo.mono (htob.frame f2 (fun _ _ h => h)) (fun k hk => Nat.lt_of_lt_of_le hk f2.size)
  have hma := hma.frame f2 id
  have hsa := hsa.frame plR_ok f2 (fun _ _ h => h)
  have f02 := f1.trans f2
  clear hy1 htoa htob
  obtain ⟨pfa, cfa, hfa, hnfa⟩ := hsa.shape
  subst hfa
  obtain ⟨pfb, cfb, hfb, hnfb⟩ := hsb.shape
  subst hfb
  have la := ordOf_le was
  have lb := ordOf_le now
  refine OW.move rfl rfl ?_
  refine OW.extract rfl rfl rfl ?_
  refine OW.extract rfl rfl rfl ?_
  refine OW.assign rfl rfl ?_
  refine OW.assign rfl rfl ?_
  refine OW.nil ?_
  refine NX.seq ?_
  refine CW.seq ?_
  refine CW.seq ?_
  refine CW.region ?_
  refine OW.move rfl rfl ?_
  refine OW.len rfl el78 rfl ?_
  refine OW.move rfl rfl ?_
  refine OW.nil ?_
  refine NX.seq ?_
  refine CW.block ?_
  refine CW.loop (α := Nat × Value) (fun (s : Nat × Value) => match s with | (i, vo) => [(5, .map (some ba)), (7, .map (some bb)), (8, .slice pfb (ordOf now).length cfb), (4, vo), (34, .slice pfa (ordOf was).length cfa), (35, .int .i64 (((ordOf was).length : Nat) : Int)), (36, .int .i64 ((i : Nat) : Int))]) (fun (s : Nat × Value) W => match s with | (i, vo) => i ≤ (ordOf was).length ∧ OwnSl 45 36 msgR (Xo W vo) W vo (gone now ((ordOf was).take i)) ∧ Fr0 w2 W ∧ ∀ j, vo.ownBlock = some j → w2.heap.size ≤ j) (fun (s : Nat × Value) => match s with | (i, vo) => (ordOf was).length - i) ((0, .slice none 0 0)) (Sub.cons rfl (Sub.cons rfl (Sub.cons rfl (Sub.cons rfl (Sub.cons rfl (Sub.cons rfl (Sub.cons rfl (Sub.nil _)))))))) (⟨by omega, OwnSl.nil, Fr.refl _ _, fun j h => by cases h⟩) ?_
  rintro ⟨i, vo⟩ W ⟨hi, ho, f, hown⟩
  show CW _ _ _ _ _ _ [(5, .map (some ba)), (7, .map (some bb)), (8, .slice pfb (ordOf now).length cfb), (4, vo), (34, .slice pfa (ordOf was).length cfa), (35, .int .i64 (((ordOf was).length : Nat) : Int)), (36, .int .i64 ((i : Nat) : Int))] W
  refine CW.seq ?_
  refine CW.region ?_
  refine OW.lss rfl rfl rfl ?_
  refine OW.nil ?_
  refine NX.seq ?_
  refine CW.seq ?_
  refine CW.cond rfl (fun hlt => ?_) (fun hlt => ?_)
  · have hil : i < (ordOf was).length := by omega
    obtain ⟨b0, o0, hp0, hrow⟩ := SlR.at' (hsa.frame plR_ok f (fun _ _ h => h)) hil
    obtain ⟨pl, hpl⟩ : ∃ pl, pl = (ordOf was)[i] := ⟨_, rfl⟩
    obtain ⟨c0, sg0, hc0, hwf0⟩ := hrow i pl (by rw [hpl]; exact List.getElem?_eq_getElem hil)
    subst hc0
    refine CW.skip ?_
    refine NX.seq ?_
    refine CW.seq ?_
    refine CW.block ?_
    refine CW.seq ?_
    refine CW.region ?_
    refine OW.indexAddr (b := b0) (o := o0) rfl el78 (by rw [← hp0]; rfl) rfl (⟨by omega, by omega⟩) ?_
    refine OW.loadA rfl ag82 rfl (sg0) (rfl) ?_
    refine OW.alloc rfl zr82 ?_
    intro b10 w3 n3
    refine OW.store rfl rfl sz82 (New.bk (cs := ints (Pl.lits ⟨0, ⟨fun _ => 0, fun _ => 0⟩⟩)) n3) (Nat.le_refl _) (fun x hx => Pl.one pl x hx) ?_
    intro w4 f4 z4 b4
    have g4 : Fr0 W w4 := n3.fr.trans' f4 (fun k h c => by have := n3.fresh; omega)
    have e4 : Bk w4 b10 82 pl.cells := b4
    refine OW.nil ?_
    refine NX.seq ?_
    refine CW.seq ?_
    refine CW.region ?_
    refine OW.move rfl rfl ?_
    refine OW.loadA rfl ag82 rfl (e4.seg) (rfl) ?_
    refine OW.lookup2 pl rfl mp77 Dj.plKey zr36 rfl rfl (Pl.lits_wf hwf0) hokb (hmb.frame (f.trans g4) id) ?_
    have hB1 := hB pl
    obtain ⟨rc, vv, hrv, hrc, hrone⟩ : ∃ rc : List Value, ∃ vv : Value, (kvGet pl kvb).getD (.agg (ruleCells 0 ⟨fun _ => 0, fun _ => 0⟩ (.slice none 0 0) 0).toArray) = .agg rc.toArray ∧ rc.length = 25 ∧ ∀ c ∈ rc, c.oneCell' = true := by
      cases h : lastOf now pl with
      | none => rw [h] at hB1; exact ⟨ruleCells 0 ⟨fun _ => 0, fun _ => 0⟩ (.slice none 0 0) 0, .int .i64 0, by rw [hB1]; rfl, rfl, ruleCells_one rfl⟩
      | some x => rw [h] at hB1; obtain ⟨c, h1, h2⟩ := hB1; exact ⟨c, .int .i64 0, by rw [h1]; rfl, ruleR_ok.len h2, ruleR_ok.one h2⟩
    have hsome : (kvGet pl kvb).isSome = (lastOf now pl).isSome := by
      cases h : lastOf now pl with
      | none => rw [h] at hB1; rw [hB1]; rfl
      | some x => rw [h] at hB1; obtain ⟨c, h1, h2⟩ := hB1; rw [h1]; rfl
    refine OW.move rfl rfl ?_
    refine OW.extract rfl rfl rfl ?_
    refine OW.extract rfl rfl rfl ?_
    refine OW.slot (s := 44) rfl hrv ?_
    refine OW.slot (s := 45) rfl (congrArg Value.bool hsome) ?_
    refine OW.alloc rfl zr36 ?_
    intro b11 w5 n5
    refine OW.store (v := .agg rc.toArray) rfl rfl (show _ = some rc.toArray.size from by rw [List.size_toArray, hrc]; exact sz36) (New.bk (cs := ruleCells 0 ⟨fun _ => 0, fun _ => 0⟩ (.slice none 0 0) 0) n5) (by show 0 + rc.toArray.size ≤ _; rw [List.size_toArray, hrc]; exact Nat.le_refl _) (fun x hx => hrone x hx) ?_
    intro w6 f6 z6 b6
    have g6 : Fr0 W w6 := g4.trans (n5.fr.trans' f6 (fun k h c => by have := n5.fresh; omega))
    have e6 : Bk w6 b10 82 pl.cells := (e4.frame n5.fr id).frame f6 (by have := n5.fresh; have := e4.lt; omega)
    have ho6 := ho.frame msgR_ok g6 (fun _ _ h => h) (fun _ _ h => h)
    have hsn := gone_snoc now ((ordOf was).take i) pl
    have htk : (ordOf was).take (i + 1) = (ordOf was).take i ++ [pl] := by rw [hpl]; exact List.take_succ_eq_append_getElem hil
    refine OW.assign rfl rfl ?_
    refine OW.nil ?_
    refine NX.seq ?_
    refine CW.seq ?_
    refine CW.region ?_
    refine OW.move rfl rfl ?_
    refine OW.not rfl rfl ?_
    refine OW.nil ?_
    refine NX.seq ?_
    refine CW.condB rfl (fun hnew => ?_) (fun hnew => ?_)
    · refine CW.region ?_
      refine OW.move rfl rfl ?_
      refine OW.fieldAddr rfl fo82_0 rfl ?_
      refine OW.load1 rfl ct3 rfl (e6.cell (o := 0) rfl) ?_
      refine OW.fieldAddr rfl fo82_1 rfl ?_
      refine OW.loadA rfl ag33 rfl (e6.segAt 1 pl.mat.cells (fun j v e => by rw [Nat.add_comm]; exact e)) (rfl) ?_
      refine OW.build (z := ruleCells 0 ⟨fun _ => 0, fun _ => 0⟩ (.slice none 0 0) 0) rfl pl36 zr36 rfl rfl ?_
      refine OW.build (z := (.int .i8 0 :: (msgCells 0 (ruleCells 0 ⟨fun _ => 0, fun _ => 0⟩ (.slice none 0 0) 0)).tail)) rfl pl45 zr45 rfl rfl ?_
      refine OW.buildOne (c := msgCells 3 (ruleCells pl.rank pl.mat (.slice none 0 0) 0)) rfl el26 zr45 rfl rfl rfl rfl rfl rfl ?_
      intro b7 w7 n7
      have hlen7 : (gone now ((ordOf was).take i)).length ≤ 100000000 := Nat.le_trans (gone_le _ _) (by rw [List.length_take]; omega)
      refine OW.appendOne (R := msgR) (X := Xo W vo) (el := strictMsg pl) msgR_ok rfl ap26 rfl rfl (ho6.frame msgR_ok n7.fr (fun _ _ h => h) (fun _ _ h => h)) (Seg.ofNew n7) ⟨_, rfl, .slice none 0 0, rfl, .inl ⟨none, 0, rfl, rfl⟩, ⟨hwf0.1, hwf0.2.1, hwf0.2.2, show (0 : Nat) < _ from by decide⟩⟩ (by omega) (by omega) (fun k hk => hk.2) ?_
      intro v8 w8 o8 f8 g8
      refine OW.assign rfl rfl ?_
      refine OW.nil ?_
      refine NX.blockN ?_
      refine NX.seq ?_
      refine CW.region ?_
      refine OW.add rfl rfl rfl (by omega) ?_
      refine OW.move rfl rfl ?_
      refine OW.nil ?_
      have hX : ∀ j, Xo W vo j → Xo w8 v8 j := fun j hj => ⟨Nat.lt_of_lt_of_le hj.1 (Nat.le_trans (g6.trans n7.fr).size f8.size), fun c => by
        rcases g8 j c with d | d
        · exact hj.2 d
        · have := hj.1; have := (g6.trans n7.fr).size; omega⟩
      exact NX.loop (Lf := (fun (s : Nat × Value) => match s with | (i, vo) => [(5, .map (some ba)), (7, .map (some bb)), (8, .slice pfb (ordOf now).length cfb), (4, vo), (34, .slice pfa (ordOf was).length cfa), (35, .int .i64 (((ordOf was).length : Nat) : Int)), (36, .int .i64 ((i : Nat) : Int))])) (I := (fun (s : Nat × Value) W => match s with | (i, vo) => i ≤ (ordOf was).length ∧ OwnSl 45 36 msgR (Xo W vo) W vo (gone now ((ordOf was).take i)) ∧ Fr0 w2 W ∧ ∀ j, vo.ownBlock = some j → w2.heap.size ≤ j)) (m := (fun (s : Nat × Value) => match s with | (i, vo) => (ordOf was).length - i)) (i := (i, vo)) (i + 1, v8) ((Sub.cons rfl (Sub.cons rfl (Sub.cons rfl (Sub.cons rfl (Sub.cons rfl (Sub.cons rfl (Sub.cons rfl (Sub.nil _))))))))) (⟨by omega, by rw [htk, hsn, if_pos (by cases h : lastOf now pl with | none => rfl | some x => rw [h] at hnew; cases hnew)]; exact o8.mono msgR_ok hX, (f.trans (g6.trans n7.fr)).trans' f8 (fun j hj c => by have := hown j c; omega), fun j hj => by
                rcases g8 j hj with d | d
                · exact hown j d
                · have := (f.trans (g6.trans n7.fr)).size; omega⟩) (show (ordOf was).length - (i + 1) < (ordOf was).length - i from by omega)
    · refine CW.skip ?_
      refine NX.blockN ?_
      refine NX.seq ?_
      refine CW.region ?_
      refine OW.add rfl rfl rfl (by omega) ?_
      refine OW.move rfl rfl ?_
      refine OW.nil ?_
      have hX : ∀ j, Xo W vo j → Xo w6 vo j := fun j hj => ⟨Nat.lt_of_lt_of_le hj.1 g6.size, hj.2⟩
      exact NX.loop (Lf := (fun (s : Nat × Value) => match s with | (i, vo) => [(5, .map (some ba)), (7, .map (some bb)), (8, .slice pfb (ordOf now).length cfb), (4, vo), (34, .slice pfa (ordOf was).length cfa), (35, .int .i64 (((ordOf was).length : Nat) : Int)), (36, .int .i64 ((i : Nat) : Int))])) (I := (fun (s : Nat × Value) W => match s with | (i, vo) => i ≤ (ordOf was).length ∧ OwnSl 45 36 msgR (Xo W vo) W vo (gone now ((ordOf was).take i)) ∧ Fr0 w2 W ∧ ∀ j, vo.ownBlock = some j → w2.heap.size ≤ j)) (m := (fun (s : Nat × Value) => match s with | (i, vo) => (ordOf was).length - i)) (i := (i, vo)) (i + 1, vo) ((Sub.cons rfl (Sub.cons rfl (Sub.cons rfl (Sub.cons rfl (Sub.cons rfl (Sub.cons rfl (Sub.cons rfl (Sub.nil _))))))))) (⟨by omega, by rw [htk, hsn, if_neg (by cases h : lastOf now pl with | none => rw [h] at hnew; cases hnew | some x => simp), List.append_nil]; exact ho6.mono msgR_ok hX, f.trans g6, hown⟩) (show (ordOf was).length - (i + 1) < (ordOf was).length - i from by omega)
  · have hil : (ordOf was).take i = ordOf was := List.take_of_length_le (by omega)
    rw [hil] at ho
    have hoW := ho
    clear ho
    refine CW.exit ?_
    refine NX.thenExit ?_
    refine NX.thenExit ?_
    refine NX.blockEq ?_
    refine NX.seq ?_
    refine CW.seq ?_
    refine CW.region ?_
    refine OW.assign rfl rfl ?_
    refine OW.nil ?_
    refine NX.seq ?_
    refine CW.seq ?_
    refine CW.seq ?_
    refine CW.region ?_
    refine OW.move rfl rfl ?_
    refine OW.len rfl el78 rfl ?_
    refine OW.move rfl rfl ?_
    refine OW.nil ?_
    refine NX.seq ?_
    refine CW.block ?_
    refine CW.loop (α := Nat × Value) (fun (s : Nat × Value) => match s with | (t, vd) => [(5, .map (some ba)), (7, .map (some bb)), (4, vo), (13, vd), (58, .slice pfb (ordOf now).length cfb), (59, .int .i64 (((ordOf now).length : Nat) : Int)), (60, .int .i64 ((t : Nat) : Int))]) (fun (s : Nat × Value) U => match s with | (t, vd) => t ≤ (ordOf now).length ∧ OwnSl 36 25 ruleR (Bel w2) U vd (addsOf was now ((ordOf now).take t)) ∧ Fr0 W U ∧ ∀ j, vd.ownBlock = some j → W.heap.size ≤ j) (fun (s : Nat × Value) => match s with | (t, vd) => (ordOf now).length - t) ((0, .slice none 0 0)) (Sub.cons rfl (Sub.cons rfl (Sub.cons rfl (Sub.cons rfl (Sub.cons rfl (Sub.cons rfl (Sub.cons rfl (Sub.nil _)))))))) (⟨by omega, OwnSl.nil, Fr.refl _ _, fun j h => by cases h⟩) ?_
    rintro ⟨t, vd⟩ U ⟨ht, hd, fU, hownd⟩
    show CW _ _ _ _ _ _ [(5, .map (some ba)), (7, .map (some bb)), (4, vo), (13, vd), (58, .slice pfb (ordOf now).length cfb), (59, .int .i64 (((ordOf now).length : Nat) : Int)), (60, .int .i64 ((t : Nat) : Int))] U
    have hW2 : w2.heap.size ≤ W.heap.size := f.size
    refine CW.seq ?_
    refine CW.region ?_
    refine OW.lss rfl rfl rfl ?_
    refine OW.nil ?_
    refine NX.seq ?_
    refine CW.seq ?_
    refine CW.cond rfl (fun hlt2 => ?_) (fun hlt2 => ?_)
    · have hil : t < (ordOf now).length := by omega
      have f2U := f.trans fU
      obtain ⟨b0, o0, hp0, hrow⟩ := SlR.at' (hsb.frame plR_ok f2U (fun _ _ h => h)) hil
      obtain ⟨pl, hpl⟩ : ∃ pl, pl = (ordOf now)[t] := ⟨_, rfl⟩
      obtain ⟨c0, sg0, hc0, hwf0⟩ := hrow t pl (by rw [hpl]; exact List.getElem?_eq_getElem hil)
      subst hc0
      obtain ⟨r, hr⟩ := lastOf_some (l := now) (p := pl) (by rw [hpl]; exact List.getElem_mem hil)
      have hB1 := hB pl
      rw [hr] at hB1
      obtain ⟨cr, hkr, hrr⟩ := hB1
      obtain ⟨cvr, ecr, hcpr, hwfr⟩ := id hrr
      have hcl : cr.length = 25 := ruleR_ok.len hrr
      have htk : (ordOf now).take (t + 1) = (ordOf now).take t ++ [pl] := by rw [hpl]; exact List.take_succ_eq_append_getElem hil
      have hsn := addsOf_snoc was now ((ordOf now).take t) pl
      refine CW.skip ?_
      refine NX.seq ?_
      refine CW.seq ?_
      refine CW.block ?_
      refine CW.seq ?_
      refine CW.region ?_
      refine OW.indexAddr (b := b0) (o := o0) rfl el78 (by rw [← hp0]; rfl) rfl (⟨by omega, by omega⟩) ?_
      refine OW.loadA rfl ag82 rfl (sg0) (rfl) ?_
      refine OW.alloc rfl zr82 ?_
      intro b15 w3 n3
      refine OW.store rfl rfl sz82 (New.bk (cs := ints (Pl.lits ⟨0, ⟨fun _ => 0, fun _ => 0⟩⟩)) n3) (Nat.le_refl _) (fun x hx => Pl.one pl x hx) ?_
      intro w4 f4 z4 b4
      have g4 : Fr0 U w4 := n3.fr.trans' f4 (fun k h c => by have := n3.fresh; omega)
      have e4 : Bk w4 b15 82 pl.cells := b4
      refine OW.nil ?_
      refine NX.seq ?_
      refine CW.seq ?_
      refine CW.region ?_
      refine OW.move rfl rfl ?_
      refine OW.loadA rfl ag82 rfl (e4.seg) (rfl) ?_
      refine OW.lookup pl rfl mp77 Dj.plKey zr36 rfl rfl (Pl.lits_wf hwf0) hokb (hmb.frame (f2U.trans g4) id) ?_
      refine OW.slot (s := 66) rfl (show _ = Value.agg cr.toArray from by rw [hkr]; rfl) ?_
      refine OW.alloc rfl zr36 ?_
      intro b16 w5 n5
      refine OW.store (v := .agg cr.toArray) rfl rfl (show _ = some cr.toArray.size from by rw [List.size_toArray, hcl]; exact sz36) (New.bk (cs := ruleCells 0 ⟨fun _ => 0, fun _ => 0⟩ (.slice none 0 0) 0) n5) (by show 0 + cr.toArray.size ≤ _; rw [List.size_toArray, hcl]; exact Nat.le_refl _) (fun x hx => ruleR_ok.one hrr x hx) ?_
      intro w6 f6 z6 b6
      have q5 := n5.fresh
      have g6 : Fr0 U w6 := g4.trans (n5.fr.trans' f6 (fun k h c => by omega))
      have e6 : Bk w6 b15 82 pl.cells := (e4.frame n5.fr id).frame f6 (by have := e4.lt; omega)
      have e16 : Bk w6 b16 36 cr := by
        have h1 : upd (ruleCells 0 ⟨fun _ => 0, fun _ => 0⟩ (.slice none 0 0) 0) 0 cr = cr := upd_all hcl
        rw [← h1]; exact b6
      refine OW.nil ?_
      refine NX.seq ?_
      refine CW.seq ?_
      refine CW.region ?_
      refine OW.move rfl rfl ?_
      refine OW.loadA rfl ag82 rfl (e6.seg) (rfl) ?_
      refine OW.lookup2 pl rfl mp77 Dj.plKey zr36 rfl rfl (Pl.lits_wf hwf0) hoka (hma.frame (f2U.trans g6) id) ?_
      have hA1 := hA pl
      rcases ho2 : lastOf was pl with _ | o
      · rw [ho2] at hA1
        refine OW.slot (s := 70) rfl (show _ = Value.tuple #[.agg (ruleCells 0 ⟨fun _ => 0, fun _ => 0⟩ (.slice none 0 0) 0).toArray, .bool false] from by rw [hA1]; rfl) ?_
        refine OW.move rfl rfl ?_
        refine OW.extract rfl rfl rfl ?_
        refine OW.extract rfl rfl rfl ?_
        refine OW.alloc rfl zr36 ?_
        intro b17 w7 n7
        refine OW.store rfl rfl sz36 (New.bk (cs := ruleCells 0 ⟨fun _ => 0, fun _ => 0⟩ (.slice none 0 0) 0) n7) (Nat.le_refl _) (fun x hx => ruleCells_one rfl x hx) ?_
        intro w8' f8' z8' b8'
        have q7 := n7.fresh
        have g8' : Fr0 U w8' := g6.trans (n7.fr.trans' f8' (fun k h c => by omega))
        have h16 : Bk w8' b16 36 cr := (e16.frame n7.fr id).frame f8' (by have := e16.lt; omega)
        refine OW.assign rfl rfl ?_
        refine OW.nil ?_
        refine NX.seq ?_
        refine CW.seq ?_
        refine CW.region ?_
        refine OW.move rfl rfl ?_
        refine OW.not rfl rfl ?_
        refine OW.move rfl rfl ?_
        refine OW.gnoD rfl rfl rfl rfl ?_
        refine OW.gnoD rfl rfl rfl rfl ?_
        refine OW.gnoD rfl rfl rfl rfl ?_
        refine OW.gnoD rfl rfl rfl rfl ?_
        refine OW.gnoD rfl rfl rfl rfl ?_
        refine OW.pickT rfl rfl rfl ?_
        refine OW.move rfl rfl ?_
        refine OW.gnoD rfl rfl rfl rfl ?_
        refine OW.gnoD rfl rfl rfl rfl ?_
        refine OW.gnoD rfl rfl rfl rfl ?_
        refine OW.gnoD rfl rfl rfl rfl ?_
        refine OW.gnoD rfl rfl rfl rfl ?_
        refine OW.gnoD rfl rfl rfl rfl ?_
        refine OW.pickT rfl rfl rfl ?_
        refine OW.nil ?_
        refine NX.seq ?_
        refine CW.condT rfl ?_
        refine CW.region ?_
        refine OW.move rfl rfl ?_
        refine OW.loadA rfl ag36 rfl (h16.seg) (hcl) ?_
        refine OW.buildOne (c := cr) rfl el22 zr36 rfl rfl rfl rfl hcl rfl ?_
        intro b7 w10 n10
        have hlen7 : (addsOf was now ((ordOf now).take t)).length ≤ 100000000 := Nat.le_trans (addsOf_le _ _ _) (by rw [List.length_take]; omega)
        have gcn : Fr0 U w10 := Fr0.trans g8' n10.fr
        refine OW.appendOne (R := ruleR) (X := Bel w2) (el := r) ruleR_ok rfl ap22 rfl rfl (hd.frame ruleR_ok gcn (fun _ _ h => h) (fun _ _ h => h)) (Seg.ofNew n10) (ruleR_ok.frame hrr (f2U.trans gcn) (fun _ _ h => h)) (by omega) (by omega) (fun k hk e => by have := hownd k e; have : k < w2.heap.size := hk; omega) ?_
        intro v8 w8 o8 f8 g8
        refine OW.assign rfl rfl ?_
        refine OW.nil ?_
        refine NX.blockN ?_
        refine NX.seq ?_
        refine CW.region ?_
        refine OW.add rfl rfl rfl (by omega) ?_
        refine OW.move rfl rfl ?_
        refine OW.nil ?_
        exact NX.loop (Lf := (fun (s : Nat × Value) => match s with | (t, vd) => [(5, .map (some ba)), (7, .map (some bb)), (4, vo), (13, vd), (58, .slice pfb (ordOf now).length cfb), (59, .int .i64 (((ordOf now).length : Nat) : Int)), (60, .int .i64 ((t : Nat) : Int))])) (I := (fun (s : Nat × Value) U => match s with | (t, vd) => t ≤ (ordOf now).length ∧ OwnSl 36 25 ruleR (Bel w2) U vd (addsOf was now ((ordOf now).take t)) ∧ Fr0 W U ∧ ∀ j, vd.ownBlock = some j → W.heap.size ≤ j)) (m := (fun (s : Nat × Value) => match s with | (t, vd) => (ordOf now).length - t)) (i := (t, vd)) (t + 1, v8) ((Sub.cons rfl (Sub.cons rfl (Sub.cons rfl (Sub.cons rfl (Sub.cons rfl (Sub.cons rfl (Sub.cons rfl (Sub.nil _))))))))) (⟨by omega, by rw [htk, hsn, show addOf was now pl = some r from by unfold addOf; rw [hr, ho2]]; exact o8, (fU.trans gcn).trans' f8 (fun j hj c => by have := hownd j c; omega), fun j hj => by
                  rcases g8 j hj with d | d
                  · exact hownd j d
                  · have := (fU.trans gcn).size; omega⟩) (show (ordOf now).length - (t + 1) < (ordOf now).length - t from by omega)
      · rw [ho2] at hA1
        obtain ⟨co, hko, hro⟩ := hA1
        obtain ⟨cvo, eco, hcpo, hwfo⟩ := id hro
        have hol : co.length = 25 := ruleR_ok.len hro
        refine OW.slot (s := 70) rfl (show _ = Value.tuple #[.agg co.toArray, .bool true] from by rw [hko]; rfl) ?_
        refine OW.move rfl rfl ?_
        refine OW.extract rfl rfl rfl ?_
        refine OW.extract rfl rfl rfl ?_
        refine OW.alloc rfl zr36 ?_
        intro b17 w7 n7
        refine OW.store (v := .agg co.toArray) rfl rfl (show _ = some co.toArray.size from by rw [List.size_toArray, hol]; exact sz36) (New.bk (cs := ruleCells 0 ⟨fun _ => 0, fun _ => 0⟩ (.slice none 0 0) 0) n7) (by show 0 + co.toArray.size ≤ _; rw [List.size_toArray, hol]; exact Nat.le_refl _) (fun x hx => ruleR_ok.one hro x hx) ?_
        intro w8' f8' z8' b8'
        have q7 := n7.fresh
        have g8' : Fr0 U w8' := g6.trans (n7.fr.trans' f8' (fun k h c => by omega))
        have h16 : Bk w8' b16 36 cr := (e16.frame n7.fr id).frame f8' (by have := e16.lt; omega)
        have h17 : Bk w8' b17 36 co := by
          have h1 : upd (ruleCells 0 ⟨fun _ => 0, fun _ => 0⟩ (.slice none 0 0) 0) 0 co = co := upd_all hol
          rw [← h1]; exact b8'
        refine OW.assign rfl rfl ?_
        refine OW.nil ?_
        refine NX.seq ?_
        refine CW.seq ?_
        refine CW.region ?_
        refine OW.move rfl rfl ?_
        refine OW.not rfl rfl ?_
        refine OW.move rfl rfl ?_
        refine OW.gyes rfl rfl ?_
        refine OW.fieldAddr rfl fo36_3 rfl ?_
        refine OW.gyes rfl rfl ?_
        refine OW.load1 rfl ct29 rfl (h17.cell (o := 24) (by rw [eco]; rfl)) ?_
        refine OW.gyes rfl rfl ?_
        refine OW.fieldAddr rfl fo36_3 rfl ?_
        refine OW.gyes rfl rfl ?_
        refine OW.load1 rfl ct29 rfl (h16.cell (o := 24) (by rw [ecr]; rfl)) ?_
        refine OW.gyes rfl rfl ?_
        refine OW.neq rfl rfl rfl ?_
        refine OW.pickF rfl rfl rfl ?_
        refine OW.move rfl rfl ?_
        refine OW.ways (s := 82) rfl (fun hck => ?_) (fun hck => ?_)
        · refine OW.gnoD rfl rfl rfl rfl ?_
          refine OW.gnoD rfl rfl rfl rfl ?_
          refine OW.gnoD rfl rfl rfl rfl ?_
          refine OW.gnoD rfl rfl rfl rfl ?_
          refine OW.gnoD rfl rfl rfl rfl ?_
          refine OW.gnoD rfl rfl rfl rfl ?_
          refine OW.pickT rfl rfl rfl ?_
          refine OW.nil ?_
          refine NX.seq ?_
          refine CW.condT rfl ?_
          refine CW.region ?_
          refine OW.move rfl rfl ?_
          refine OW.loadA rfl ag36 rfl (h16.seg) (hcl) ?_
          refine OW.buildOne (c := cr) rfl el22 zr36 rfl rfl rfl rfl hcl rfl ?_
          intro b7 w10 n10
          have hlen7 : (addsOf was now ((ordOf now).take t)).length ≤ 100000000 := Nat.le_trans (addsOf_le _ _ _) (by rw [List.length_take]; omega)
          have gcn : Fr0 U w10 := Fr0.trans g8' n10.fr
          refine OW.appendOne (R := ruleR) (X := Bel w2) (el := r) ruleR_ok rfl ap22 rfl rfl (hd.frame ruleR_ok gcn (fun _ _ h => h) (fun _ _ h => h)) (Seg.ofNew n10) (ruleR_ok.frame hrr (f2U.trans gcn) (fun _ _ h => h)) (by omega) (by omega) (fun k hk e => by have := hownd k e; have : k < w2.heap.size := hk; omega) ?_
          intro v8 w8 o8 f8 g8
          refine OW.assign rfl rfl ?_
          refine OW.nil ?_
          refine NX.blockN ?_
          refine NX.seq ?_
          refine CW.region ?_
          refine OW.add rfl rfl rfl (by omega) ?_
          refine OW.move rfl rfl ?_
          refine OW.nil ?_
          exact NX.loop (Lf := (fun (s : Nat × Value) => match s with | (t, vd) => [(5, .map (some ba)), (7, .map (some bb)), (4, vo), (13, vd), (58, .slice pfb (ordOf now).length cfb), (59, .int .i64 (((ordOf now).length : Nat) : Int)), (60, .int .i64 ((t : Nat) : Int))])) (I := (fun (s : Nat × Value) U => match s with | (t, vd) => t ≤ (ordOf now).length ∧ OwnSl 36 25 ruleR (Bel w2) U vd (addsOf was now ((ordOf now).take t)) ∧ Fr0 W U ∧ ∀ j, vd.ownBlock = some j → W.heap.size ≤ j)) (m := (fun (s : Nat × Value) => match s with | (t, vd) => (ordOf now).length - t)) (i := (t, vd)) (t + 1, v8) ((Sub.cons rfl (Sub.cons rfl (Sub.cons rfl (Sub.cons rfl (Sub.cons rfl (Sub.cons rfl (Sub.cons rfl (Sub.nil _))))))))) (⟨by omega, by rw [htk, hsn, show addOf was now pl = some r from by unfold addOf; rw [hr, ho2]; simp only; rw [if_neg (fun h => hck (by rw [h.1]))]]; exact o8, (fU.trans gcn).trans' f8 (fun j hj c => by have := hownd j c; omega), fun j hj => by
                    rcases g8 j hj with d | d
                    · exact hownd j d
                    · have := (fU.trans gcn).size; omega⟩) (show (ordOf now).length - (t + 1) < (ordOf now).length - t from by omega)
        · have hck2 : o.cookie = r.cookie := by omega
          refine OW.gyes rfl rfl ?_
          refine OW.fieldAddr rfl fo36_2 rfl ?_
          refine OW.gyes rfl rfl ?_
          refine OW.load1 rfl ct34 rfl (h17.cell (o := 23) (by rw [eco]; rfl)) ?_
          refine OW.gyes rfl rfl ?_
          refine OW.fieldAddr rfl fo36_2 rfl ?_
          refine OW.gyes rfl rfl ?_
          refine OW.load1 rfl ct34 rfl (h16.cell (o := 23) (by rw [ecr]; rfl)) ?_
          refine OW.gyes rfl rfl ?_
          refine OW.call rfl rfl cl41 (Dg.same_does w8' (hcpo.frame cpsR_ok (f2U.trans g8') (fun _ _ h => h)) (hcpr.frame cpsR_ok (f2U.trans g8') (fun _ _ h => h))) ?_
          rintro _ w9 ⟨rfl, f9⟩
          have h16 := h16.frame f9 id
          have g9 := g8'.trans f9
          refine OW.gyes rfl rfl ?_
          refine OW.notD rfl rfl ?_
          refine OW.pickF rfl rfl rfl ?_
          refine OW.nil ?_
          refine NX.seq ?_
          refine CW.cond rfl (fun hsm => ?_) (fun hsm => ?_)
          · refine CW.region ?_
            refine OW.move rfl rfl ?_
            refine OW.loadA rfl ag36 rfl (h16.seg) (hcl) ?_
            refine OW.buildOne (c := cr) rfl el22 zr36 rfl rfl rfl rfl hcl rfl ?_
            intro b7 w10 n10
            have hlen7 : (addsOf was now ((ordOf now).take t)).length ≤ 100000000 := Nat.le_trans (addsOf_le _ _ _) (by rw [List.length_take]; omega)
            have gcn : Fr0 U w10 := Fr0.trans g9 n10.fr
            refine OW.appendOne (R := ruleR) (X := Bel w2) (el := r) ruleR_ok rfl ap22 rfl rfl (hd.frame ruleR_ok gcn (fun _ _ h => h) (fun _ _ h => h)) (Seg.ofNew n10) (ruleR_ok.frame hrr (f2U.trans gcn) (fun _ _ h => h)) (by omega) (by omega) (fun k hk e => by have := hownd k e; have : k < w2.heap.size := hk; omega) ?_
            intro v8 w8 o8 f8 g8
            refine OW.assign rfl rfl ?_
            refine OW.nil ?_
            refine NX.blockN ?_
            refine NX.seq ?_
            refine CW.region ?_
            refine OW.add rfl rfl rfl (by omega) ?_
            refine OW.move rfl rfl ?_
            refine OW.nil ?_
            exact NX.loop (Lf := (fun (s : Nat × Value) => match s with | (t, vd) => [(5, .map (some ba)), (7, .map (some bb)), (4, vo), (13, vd), (58, .slice pfb (ordOf now).length cfb), (59, .int .i64 (((ordOf now).length : Nat) : Int)), (60, .int .i64 ((t : Nat) : Int))])) (I := (fun (s : Nat × Value) U => match s with | (t, vd) => t ≤ (ordOf now).length ∧ OwnSl 36 25 ruleR (Bel w2) U vd (addsOf was now ((ordOf now).take t)) ∧ Fr0 W U ∧ ∀ j, vd.ownBlock = some j → W.heap.size ≤ j)) (m := (fun (s : Nat × Value) => match s with | (t, vd) => (ordOf now).length - t)) (i := (t, vd)) (t + 1, v8) ((Sub.cons rfl (Sub.cons rfl (Sub.cons rfl (Sub.cons rfl (Sub.cons rfl (Sub.cons rfl (Sub.cons rfl (Sub.nil _))))))))) (⟨by omega, by rw [htk, hsn, show addOf was now pl = some r from by unfold addOf; rw [hr, ho2]; simp only; rw [if_neg (fun h => hsm h.2)]]; exact o8, (fU.trans gcn).trans' f8 (fun j hj c => by have := hownd j c; omega), fun j hj => by
                      rcases g8 j hj with d | d
                      · exact hownd j d
                      · have := (fU.trans gcn).size; omega⟩) (show (ordOf now).length - (t + 1) < (ordOf now).length - t from by omega)
          · refine CW.skip ?_
            refine NX.blockN ?_
            refine NX.seq ?_
            refine CW.region ?_
            refine OW.add rfl rfl rfl (by omega) ?_
            refine OW.move rfl rfl ?_
            refine OW.nil ?_
            exact NX.loop (Lf := (fun (s : Nat × Value) => match s with | (t, vd) => [(5, .map (some ba)), (7, .map (some bb)), (4, vo), (13, vd), (58, .slice pfb (ordOf now).length cfb), (59, .int .i64 (((ordOf now).length : Nat) : Int)), (60, .int .i64 ((t : Nat) : Int))])) (I := (fun (s : Nat × Value) U => match s with | (t, vd) => t ≤ (ordOf now).length ∧ OwnSl 36 25 ruleR (Bel w2) U vd (addsOf was now ((ordOf now).take t)) ∧ Fr0 W U ∧ ∀ j, vd.ownBlock = some j → W.heap.size ≤ j)) (m := (fun (s : Nat × Value) => match s with | (t, vd) => (ordOf now).length - t)) (i := (t, vd)) (t + 1, vd) ((Sub.cons rfl (Sub.cons rfl (Sub.cons rfl (Sub.cons rfl (Sub.cons rfl (Sub.cons rfl (Sub.cons rfl (Sub.nil _))))))))) (⟨by omega, by rw [htk, hsn, show addOf was now pl = none from by unfold addOf; rw [hr, ho2]; simp only; rw [if_pos ⟨hck2, Decidable.not_not.1 hsm⟩], Option.toList_none, List.append_nil]; exact hd.frame ruleR_ok g9 (fun _ _ h => h) (fun _ _ h => h), fU.trans g9, hownd⟩) (show (ordOf now).length - (t + 1) < (ordOf now).length - t from by omega)
    · have htl : (ordOf now).take t = ordOf now := List.take_of_length_le (by omega)
      rw [htl] at hd
      have hal : (addsOf was now (ordOf now)).length ≤ 100000000 := Nat.le_trans (addsOf_le _ _ _) (by omega)
      refine CW.exit ?_
      refine NX.thenExit ?_
      refine NX.thenExit ?_
      refine NX.blockEq ?_
      refine NX.seq ?_
      refine CW.seq ?_
      refine CW.region ?_
      refine OW.move rfl rfl ?_
      refine OW.call rfl rfl cl42 (falling_sl hd (by omega) (fun j hj e => by have := hownd j e; have : j < w2.heap.size := hj; omega)) ?_
      rintro _ u1 ⟨f10, hs⟩
      obtain ⟨rs, hrs⟩ : ∃ rs, rs = isort rankLess (addsOf was now (ordOf now)) := ⟨_, rfl⟩
      rw [← hrs] at hs
      have hrl : rs.length ≤ 100000000 := by rw [hrs, (isort_perm _ _).length_eq]; exact hal
      have hrm : ∀ r ∈ rs, wtOk r := fun r hr => hwt r (addsOf_mem ((isort_perm _ _).mem_iff.1 (hrs ▸ hr)))
      have hvolt : ∀ j, vo.ownBlock = some j → j < W.heap.size := fun j hj => hoW.lt hj
      have hoU := (hoW.frame msgR_ok fU (fun _ _ h => h) (fun _ _ h => h)).frame msgR_ok f10 (fun j hj e => by have := hownd j e; have := hvolt j hj; omega) (fun j hj e => by have := hownd j e; have := hj.1; omega)
      have hsz : W.heap.size ≤ u1.heap.size := Nat.le_trans fU.size f10.size
      have hoU := hoU.mono msgR_ok (X' := Xo u1 vo) (fun j hj => ⟨Nat.lt_of_lt_of_le hj.1 hsz, hj.2⟩)
      obtain ⟨prs, crs, hvrs, hnrs⟩ := hs.shape
      subst hvrs
      have hslx : ∀ j, (Bel w2 j ∨ (Value.slice prs rs.length crs).ownBlock = some j) → ¬ vo.ownBlock = some j := fun j hj e => by
        have h1 := hvolt j e
        have h2 := hown j e
        rcases hj with h3 | h3
        · have : j < w2.heap.size := h3; omega
        · have := hownd j h3; omega
      have f02u : Fr0 w u1 := ((f02.trans f).trans fU).trans' f10 (fun j hj e => by have := hownd j e; have := f02.size; omega)
      have hgl := gone_le now (ordOf was)
      clear hd hownd f10
      refine OW.nil ?_
      refine NX.seq ?_
      refine CW.seq ?_
      refine CW.seq ?_
      refine CW.region ?_
      refine OW.move rfl rfl ?_
      refine OW.len rfl el22 rfl ?_
      refine OW.move rfl rfl ?_
      refine OW.nil ?_
      refine NX.seq ?_
      refine CW.block ?_
      refine CW.loop (α := Nat × Value) (fun (s : Nat × Value) => match s with | (j, v3) => [(4, v3), (97, .slice prs rs.length crs), (98, .int .i64 ((rs.length : Nat) : Int)), (99, .int .i64 ((j : Nat) : Int))]) (fun (s : Nat × Value) V => match s with | (j, v3) => j ≤ rs.length ∧ OwnSl 45 36 msgR (Xo V v3) V v3 (gone now (ordOf was) ++ (rs.take j).map addMsg) ∧ Fr (fun k => vo.ownBlock = some k) u1 V ∧ ∀ k, v3.ownBlock = some k → vo.ownBlock = some k ∨ u1.heap.size ≤ k) (fun (s : Nat × Value) => match s with | (j, v3) => rs.length - j) ((0, vo)) (Sub.cons rfl (Sub.cons rfl (Sub.cons rfl (Sub.cons rfl (Sub.nil _))))) (⟨by omega, by simpa using hoU, Fr.refl _ _, fun k h => .inl h⟩) ?_
      rintro ⟨j, v3⟩ V ⟨hj, ho3, fV, hown3⟩
      show CW _ _ _ _ _ _ [(4, v3), (97, .slice prs rs.length crs), (98, .int .i64 ((rs.length : Nat) : Int)), (99, .int .i64 ((j : Nat) : Int))] V
      refine CW.seq ?_
      refine CW.region ?_
      refine OW.lss rfl rfl rfl ?_
      refine OW.nil ?_
      refine NX.seq ?_
      refine CW.seq ?_
      refine CW.cond rfl (fun hlt3 => ?_) (fun hlt3 => ?_)
      · have hjl : j < rs.length := by omega
        obtain ⟨b0, o0, hp0, hrow⟩ := (hs.frame ruleR_ok fV hslx).at' hjl
        obtain ⟨r, hr⟩ : ∃ r, r = rs[j] := ⟨_, rfl⟩
        obtain ⟨c0, sg0, cv, ec, hcp, hwf⟩ := hrow j r (by rw [hr]; exact List.getElem?_eq_getElem hjl)
        subst ec
        have hwr := hrm r (by rw [hr]; exact List.getElem_mem hjl)
        obtain ⟨pc, cc, hcv, hnc⟩ := hcp.shape
        subst hcv
        refine CW.skip ?_
        refine NX.seq ?_
        refine CW.seq ?_
        refine CW.block ?_
        refine CW.seq ?_
        refine CW.region ?_
        refine OW.indexAddr (b := b0) (o := o0) rfl el22 (by rw [← hp0]; rfl) rfl (⟨by omega, by omega⟩) ?_
        refine OW.loadA rfl ag36 rfl (sg0) (rfl) ?_
        refine OW.alloc rfl zr36 ?_
        intro b20 w3 n3
        refine OW.store rfl rfl sz36 (New.bk (cs := ruleCells 0 ⟨fun _ => 0, fun _ => 0⟩ (.slice none 0 0) 0) n3) (Nat.le_refl _) (fun x hx => ruleCells_one (cv := .slice pc r.cps.length cc) rfl x hx) ?_
        intro w4 f4 z4 b4
        have e20 : Bk w4 b20 36 (ruleCells r.rank r.mat (.slice pc r.cps.length cc) r.cookie) := b4
        have q3 := n3.fresh
        have g4 : Fr0 V w4 := n3.fr.trans' f4 (fun k h c => by omega)
        refine OW.nil ?_
        refine NX.seq ?_
        refine CW.seq ?_
        refine CW.region ?_
        refine OW.loadA rfl ag36 rfl (e20.seg) (rfl) ?_
        refine OW.alloc rfl zr36 ?_
        intro b21 w5 n5
        refine OW.store rfl rfl sz36 (New.bk (cs := ruleCells 0 ⟨fun _ => 0, fun _ => 0⟩ (.slice none 0 0) 0) n5) (Nat.le_refl _) (fun x hx => ruleCells_one (cv := .slice pc r.cps.length cc) rfl x hx) ?_
        intro w6 f6 z6 b6
        have e21 : Bk w6 b21 36 (ruleCells r.rank r.mat (.slice pc r.cps.length cc) r.cookie) := b6
        have q5 := n5.fresh
        have l20 := e20.lt
        have g6 : Fr0 V w6 := g4.trans (n5.fr.trans' f6 (fun k h c => by omega))
        have e20' := (e20.frame n5.fr id).frame f6 (by omega)
        refine OW.nil ?_
        refine NX.seq ?_
        refine CW.seq ?_
        refine CW.region ?_
        refine OW.fieldAddr rfl fo36_2 rfl ?_
        refine OW.store rfl rfl sz34 (e21) (by show 0 + 23 + 1 ≤ 25; omega) (fun x hx => by simp [Value.cells] at hx; subst hx; rfl) ?_
        intro w7 f7 z7 b7
        have e21n : Bk w7 b21 36 (ruleCells r.rank r.mat (.slice none 0 0) r.cookie) := b7
        have g7 : Fr0 V w7 := g6.trans' f7 (fun k h c => by have := g4.size; omega)
        have e20n := e20'.frame f7 (by omega)
        have sV := g4.size
        refine OW.nil ?_
        refine NX.seq ?_
        refine CW.seq ?_
        refine CW.seq ?_
        refine CW.region ?_
        refine OW.fieldAddr rfl fo36_2 rfl ?_
        refine OW.load1 rfl ct34 rfl (e20n.cell (o := 23) rfl) ?_
        refine OW.len rfl el34 rfl ?_
        refine OW.move rfl rfl ?_
        refine OW.nil ?_
        refine NX.seq ?_
        refine CW.block ?_
        refine CW.loop (α := Nat) (fun h => [(4, v3), (97, .slice prs rs.length crs), (98, .int .i64 ((rs.length : Nat) : Int)), (99, .int .i64 ((j : Nat) : Int)), (20, .pointer (some ⟨b20, 0, none⟩)), (21, .pointer (some ⟨b21, 0, none⟩)), (106, .slice pc r.cps.length cc), (107, .int .i64 ((r.cps.length : Nat) : Int)), (108, .int .i64 ((h : Nat) : Int))]) (fun h Z => h ≤ r.cps.length ∧ Fr0 V Z ∧ ∃ vc, Bk Z b21 36 (ruleCells r.rank r.mat (vc) r.cookie) ∧ OwnSl 75 1 cpsR (fun k => V.heap.size ≤ k ∧ k < Z.heap.size ∧ vc.ownBlock ≠ some k ∧ k ≠ b21) Z vc (r.cps.take h) ∧ ∀ k, vc.ownBlock = some k → V.heap.size ≤ k ∧ k ≠ b21) (fun h => r.cps.length - h) 0 (Sub.cons rfl (Sub.cons rfl (Sub.cons rfl (Sub.cons rfl (Sub.cons rfl (Sub.cons rfl (Sub.cons rfl (Sub.cons rfl (Sub.cons rfl (Sub.nil _)))))))))) ⟨by omega, g7, _, e21n, OwnSl.nil, fun k h => by cases h⟩ ?_
        rintro h Z ⟨hh, fZ, vc, ec, hoc, hownc⟩
        refine CW.seq ?_
        refine CW.region ?_
        refine OW.lss rfl rfl rfl ?_
        refine OW.nil ?_
        refine NX.seq ?_
        refine CW.seq ?_
        refine CW.cond rfl (fun hlt4 => ?_) (fun hlt4 => ?_)
        · have hhl : h < r.cps.length := by omega
          obtain ⟨bc, oc, hpc, hrowc⟩ := (hcp.frame cpsR_ok fZ (fun _ _ h => h)).at' hhl
          obtain ⟨c1, s1, uv, e1, t1⟩ := hrowc h r.cps[h] (List.getElem?_eq_getElem hhl)
          subst e1
          have hcl : r.cps[h].length ≤ 1000000 := hwr.2 _ (List.getElem_mem hhl)
          refine CW.skip ?_
          refine NX.seq ?_
          refine CW.seq ?_
          refine CW.block ?_
          refine CW.seq ?_
          refine CW.region ?_
          refine OW.indexAddr (b := bc) (o := oc) rfl el34 (by rw [← hpc]; rfl) rfl (⟨by omega, by omega⟩) ?_
          refine OW.load1 rfl ct75 rfl (s1.head) ?_
          refine OW.assign rfl rfl ?_
          refine OW.nil ?_
          refine NX.seq ?_
          refine CW.drawFL 5 (fun a b => Fr0 a b) [fun v _ => v = .pointer (some ⟨b21, 23, none⟩), fun v _ => v = vc, fun v _ => v = uv, fun v u => SlR 3 actR (fun k => Z.heap.size ≤ k) u v r.cps[h], fun v u => ∃ bb nv, v = .slice (some ⟨bb, 0, none⟩) 1 1 ∧ Seg u bb 0 [nv] ∧ SlR 3 actR (fun k => Z.heap.size ≤ k) u nv r.cps[h]] MIX rfl rfl rfl (fun _ _ _ h g => Fr0.trans h g) (Fr.drew Z) (by
                  intro F hF v a b hr hv
                  simp only [List.mem_cons, List.not_mem_nil, or_false] at hF
                  rcases hF with rfl | rfl | rfl | rfl | rfl
                  · exact hv
                  · exact hv
                  · exact hv
                  · exact SlR.frame actR_ok hv hr (fun _ _ h => h)
                  · obtain ⟨bb, nv, h1, h2, h3⟩ := hv; exact ⟨bb, nv, h1, h2.frame hr id, h3.frame actR_ok hr (fun _ _ h => h)⟩) ?_ ?_
          · refine drawFAll.cons (fun Lt w9 hr hsub hdeps d hd => ?_) ?_
            · obtain rfl : 112 = d := by cases hd; rfl
              exact OW.fieldAddr rfl fo36_2 (hsub _ _ rfl) (OW.nil (NX.givesF (Sub.refl _) (Fr.refl _ _) rfl))
            refine drawFAll.cons (fun Lt w9 hr hsub hdeps d hd => ?_) ?_
            · obtain rfl : 113 = d := by cases hd; rfl
              obtain ⟨_, dx, v0, Fx, ho0, hd0, hF0, hl0, hv0⟩ := hdeps 0 (by decide)
              obtain rfl := Option.some.inj ho0
              obtain rfl : 112 = dx := Option.some.inj hd0
              obtain rfl := Option.some.inj hF0
              subst hv0
              exact OW.load1 rfl ct34 hl0 (Bk.cell (Bk.frame ec hr id) rfl) (OW.nil (NX.givesF (Sub.refl _) (Fr.refl _ _) rfl))
            refine drawFAll.cons (fun Lt w9 hr hsub hdeps d hd => ?_) ?_
            · obtain rfl : 114 = d := by cases hd; rfl
              exact OW.move rfl (hsub _ _ rfl) (OW.nil (NX.givesF (Sub.refl _) (Fr.refl _ _) rfl))
            refine drawFAll.cons (fun Lt w9 hr hsub hdeps d hd => ?_) ?_
            · obtain rfl : 115 = d := by cases hd; rfl
              obtain ⟨_, dx, v2, Fx, ho2, hd2, hF2, hl2, hv2⟩ := hdeps 2 (by decide)
              obtain rfl := Option.some.inj ho2
              obtain rfl : 114 = dx := Option.some.inj hd2
              obtain rfl := Option.some.inj hF2
              subst hv2
              refine OW.call (vs := [_]) rfl (by simp only [evls, evl, hl2]) cl44 (Dh.clone_does _ (t1.frame actR_ok hr (fun _ _ h => h)) (by omega)) ?_
              rintro nv w5 ⟨hs5, f5⟩
              exact OW.nil (NX.givesF (Sub.refl _) f5 (hs5.mono actR_ok (fun k hk => Nat.le_trans (Fr.size hr) hk)))
            refine drawFAll.cons (fun Lt w9 hr hsub hdeps d hd => ?_) ?_
            · obtain rfl : 116 = d := by cases hd; rfl
              obtain ⟨_, dx, v3, Fx, ho3, hd3, hF3, hl3, hv3⟩ := hdeps 3 (by decide)
              obtain rfl := Option.some.inj ho3
              obtain rfl : 115 = dx := Option.some.inj hd3
              obtain rfl := Option.some.inj hF3
              obtain ⟨pn, cn, hvn, _⟩ := SlR.shape hv3
              refine OW.buildOne rfl el34 zr75 rfl rfl hl3 (c := [v3]) (by rw [hvn]; rfl) rfl rfl ?_
              intro bb w5 n5'
              exact OW.nil (NX.givesF (Sub.refl _) n5'.fr ⟨bb, v3, rfl, Seg.ofNew n5', SlR.frame actR_ok hv3 n5'.fr (fun _ _ h => h)⟩)
            exact drawFAll.nil
          intro Lt w9 hr hsub hall
          obtain ⟨dx, v1, Fx, hd1, hF1, hl1, hv1⟩ := hall 1 _ (by decide) rfl
          obtain rfl : 113 = dx := Option.some.inj hd1
          obtain rfl := Option.some.inj hF1
          obtain ⟨dx, v4, Fx, hd4, hF4, hl4, hv4⟩ := hall 4 _ (by decide) rfl
          obtain rfl : 116 = dx := Option.some.inj hd4
          obtain rfl := Option.some.inj hF4
          obtain ⟨bb, nv, e4, sg4, hnv⟩ := hv4
          subst e4
          subst hv1
          have sZ := Fr.size hr
          refine OW.appendOne (R := cpsR) (X := fun k => V.heap.size ≤ k ∧ k < w9.heap.size ∧ v1.ownBlock ≠ some k ∧ k ≠ b21) (el := r.cps[h]) (c := [nv]) cpsR_ok rfl ap34 hl1 hl4 ((hoc.frame cpsR_ok hr (fun _ _ h => h) (fun _ _ h => h)).mono cpsR_ok (fun k hk => ⟨hk.1, by omega, hk.2.2⟩)) sg4 ⟨nv, rfl, (actsR_tight hnv).mono actR_ok (fun k hk => ⟨by have := fZ.size; omega, hk.2, fun e => by have := hoc.lt e; omega, by have := ec.lt; omega⟩)⟩ ?_ ?_ (fun k hk => hk.2.2.1) ?_
          · have := hwr.1; rw [List.length_take]; omega
          · have := hwr.1; rw [List.length_take]; omega
          intro v10 w10 o10 f10' g10
          have hb21 : ∀ j, v1.ownBlock = some j → V.heap.size ≤ j ∧ j ≠ b21 := hownc
          have ec10 := (Bk.frame ec hr id).frame f10' (fun c => (hb21 _ c).2 rfl)
          refine OW.fieldAddr rfl fo36_2 (hsub 21 _ rfl) ?_
          refine OW.store rfl rfl (by rw [OwnSl.cells1 o10]; exact sz34) ec10 (by rw [OwnSl.cells1 o10]; show 0 + 23 + 1 ≤ 25; omega) (by rw [OwnSl.cells1 o10]; exact fun y hy => by simp at hy; subst hy; exact OwnSl.one o10) ?_
          intro w11 f11 z11 b11
          rw [OwnSl.cells1 o10] at b11
          have e11 : Bk w11 b21 36 (ruleCells r.rank r.mat (v10) r.cookie) := b11
          have hno : ∀ k, v10.ownBlock = some k → V.heap.size ≤ k ∧ k ≠ b21 := fun k hk => by
            rcases g10 k hk with d | d
            · exact hb21 k d
            · have := fZ.size; have := ec.lt; exact ⟨by omega, by omega⟩
          have fT : Fr0 V w11 := ((fZ.trans hr).trans' f10' (fun k hk c => by have := (hb21 k c).1; omega)).trans' f11 (fun k hk c => by omega)
          have s11 := f11.size
          have s10 := f10'.size
          have o11 := (o10.frame cpsR_ok f11 (fun k hk c => (hno k hk).2 c) (fun k hk c => hk.2.2.2 c)).mono cpsR_ok (X' := fun k => V.heap.size ≤ k ∧ k < w11.heap.size ∧ v10.ownBlock ≠ some k ∧ k ≠ b21) (fun k hk => ⟨hk.1, by omega, fun e => by
            rcases g10 k e with d | d
            · exact hk.2.2.1 d
            · omega, hk.2.2.2⟩)
          refine OW.nil ?_
          refine NX.blockN ?_
          refine NX.seq ?_
          refine CW.sub (L' := [(4, v3), (97, .slice prs rs.length crs), (98, .int .i64 ((rs.length : Nat) : Int)), (99, .int .i64 ((j : Nat) : Int)), (20, .pointer (some ⟨b20, 0, none⟩)), (21, .pointer (some ⟨b21, 0, none⟩)), (106, .slice pc r.cps.length cc), (107, .int .i64 ((r.cps.length : Nat) : Int)), (108, .int .i64 ((h : Nat) : Int))]) (Sub.cons (hsub 4 _ rfl) (Sub.cons (hsub 97 _ rfl) (Sub.cons (hsub 98 _ rfl) (Sub.cons (hsub 99 _ rfl) (Sub.cons (hsub 20 _ rfl) (Sub.cons (hsub 21 _ rfl) (Sub.cons (hsub 106 _ rfl) (Sub.cons (hsub 107 _ rfl) (Sub.cons (hsub 108 _ rfl) (Sub.nil _)))))))))) ?_
          refine CW.region ?_
          refine OW.add rfl rfl rfl (by omega) ?_
          refine OW.move rfl rfl ?_
          refine OW.nil ?_
          exact NX.loop (h + 1) ((Sub.cons rfl (Sub.cons rfl (Sub.cons rfl (Sub.cons rfl (Sub.cons rfl (Sub.cons rfl (Sub.cons rfl (Sub.cons rfl (Sub.cons rfl (Sub.nil _))))))))))) (⟨by omega, fT, v10, e11, by rw [List.take_succ_eq_append_getElem hhl]; exact o11, hno⟩) (by omega)
        · have hht : r.cps.take h = r.cps := List.take_of_length_le (by omega)
          rw [hht] at hoc
          have hslc : SlR 1 cpsR (fun k => V.heap.size ≤ k ∧ k < Z.heap.size) Z vc r.cps := (hoc.mono cpsR_ok (X' := fun k => V.heap.size ≤ k ∧ k < Z.heap.size) (fun k hk => ⟨hk.1, hk.2.1⟩)).sl cpsR_ok (fun k hk => ⟨(hownc k hk).1, hoc.lt hk⟩) (by have := hwr.1; omega)
          refine CW.exit ?_
          refine NX.thenExit ?_
          refine NX.thenExit ?_
          refine NX.blockEq ?_
          refine NX.seq ?_
          refine CW.region ?_
          refine OW.move rfl rfl ?_
          refine OW.loadA rfl ag36 rfl (ec.seg) (rfl) ?_
          refine OW.build (z := (.int .i8 0 :: (msgCells 0 (ruleCells 0 ⟨fun _ => 0, fun _ => 0⟩ (.slice none 0 0) 0)).tail)) rfl pl45 zr45 rfl rfl ?_
          refine OW.buildOne (c := msgCells 0 (ruleCells r.rank r.mat (vc) r.cookie)) rfl el26 zr45 rfl rfl rfl rfl rfl rfl ?_
          intro b12 w12 n12
          have hlen7 : (gone now (ordOf was) ++ (rs.take j).map addMsg).length ≤ 200000000 := by rw [List.length_append, List.length_map, List.length_take]; omega
          have sZ := fZ.size
          have q12 := n12.size
          refine OW.appendOne (R := msgR) (X := Xo w12 v3) (el := addMsg r) msgR_ok rfl ap26 rfl rfl ((ho3.frame msgR_ok (fZ.trans n12.fr) (fun _ _ h => h) (fun _ _ h => h)).mono msgR_ok (fun k hk => ⟨by have := hk.1; omega, hk.2⟩)) (Seg.ofNew n12) ⟨_, rfl, vc, rfl, (hslc.frame cpsR_ok n12.fr (fun _ _ h => h)).mono cpsR_ok (fun k hk => ⟨by omega, fun e => by have := ho3.lt e; omega⟩), hwf⟩ (by omega) (by omega) (fun k hk => hk.2) ?_
          intro v8 w8 o8 f8 g8
          refine OW.assign rfl rfl ?_
          refine OW.nil ?_
          refine NX.blockN ?_
          refine NX.seq ?_
          refine CW.region ?_
          refine OW.add rfl rfl rfl (by omega) ?_
          refine OW.move rfl rfl ?_
          refine OW.nil ?_
          exact NX.loop (Lf := (fun (s : Nat × Value) => match s with | (j, v3) => [(4, v3), (97, .slice prs rs.length crs), (98, .int .i64 ((rs.length : Nat) : Int)), (99, .int .i64 ((j : Nat) : Int))])) (I := (fun (s : Nat × Value) V => match s with | (j, v3) => j ≤ rs.length ∧ OwnSl 45 36 msgR (Xo V v3) V v3 (gone now (ordOf was) ++ (rs.take j).map addMsg) ∧ Fr (fun k => vo.ownBlock = some k) u1 V ∧ ∀ k, v3.ownBlock = some k → vo.ownBlock = some k ∨ u1.heap.size ≤ k)) (m := (fun (s : Nat × Value) => match s with | (j, v3) => rs.length - j)) (i := (j, v3)) (j + 1, v8) ((Sub.cons rfl (Sub.cons rfl (Sub.cons rfl (Sub.cons rfl (Sub.nil _)))))) (⟨by omega, by
                    rw [List.take_succ_eq_append_getElem hjl, List.map_append, ← List.append_assoc, ← hr]
                    exact o8.mono msgR_ok (fun k hk => ⟨Nat.lt_of_lt_of_le hk.1 f8.size, fun e => by
                      rcases g8 k e with d | d
                      · exact hk.2 d
                      · have := hk.1; omega⟩), (fV.trans (fZ.trans n12.fr).any).trans' f8 (fun k hk c => by
                    rcases hown3 k c with d | d
                    · exact d
                    · omega), fun k hk => by
                    rcases g8 k hk with d | d
                    · exact hown3 k d
                    · have := fV.size; right; omega⟩) (show rs.length - (j + 1) < rs.length - j from by omega)
      · have hjt : rs.take j = rs := List.take_of_length_le (by omega)
        rw [hjt] at ho3
        refine CW.exit ?_
        refine NX.thenExit ?_
        refine NX.thenExit ?_
        refine NX.blockEq ?_
        refine NX.seq ?_
        refine CW.seq ?_
        refine CW.region ?_
        refine OW.move rfl rfl ?_
        refine OW.assign rfl rfl ?_
        refine OW.nil ?_
        refine NX.seq ?_
        refine CW.ret ?_
        exact NX.ret1 rfl rfl (⟨by
              unfold betweenS
              rw [← hrs]
              exact (ho3.mono msgR_ok (fun _ _ => trivial)).sl msgR_ok (fun _ _ => trivial) (by rw [List.length_append, List.length_map]; omega), f02u.trans' fV (fun k hk c => by have := hown k c; have := f02.size; omega)⟩)

end Go.Eng.Dk
