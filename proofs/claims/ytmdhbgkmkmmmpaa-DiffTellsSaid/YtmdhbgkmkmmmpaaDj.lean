/-
  What 'last' of package diff does, stepped through.
  No condition.
-/
import Derived.Test.YtmdhbgkmkmmmpaaDat4
import Derived.Test.YtmdhbgkmkmmmpaaDg
import Derived.Test.YtmdhbgkmkmmmpaaDi
import Derived.Test.YtmdhbgkmkmmmpaaProg
import Derived.KernelRfl
namespace Go.Eng.Dj
open Go Go.Eng Go.Proofs
theorem MIX : Try.prog.follows .mixedOrders = true := by kernel_rfl

theorem ag36 : aggSz Try.prog 36 = some 25 := by kernel_rfl
theorem ap78 : apdIs Try.prog 78 = some (82, 23, 184) := by kernel_rfl
theorem cl130 : callable Try.prog 130 = true := by kernel_rfl
theorem cl80 : callable Try.prog 80 = true := by kernel_rfl
theorem cl81 : callable Try.prog 81 = true := by kernel_rfl
theorem cl82 : callable Try.prog 82 = true := by kernel_rfl
theorem ct149 : cellTy Try.prog 149 = true := by kernel_rfl
theorem ct78 : cellTy Try.prog 78 = true := by kernel_rfl
theorem el22 : elemIs Try.prog 22 = some (36, 25) := by kernel_rfl
theorem el78 : elemIs Try.prog 78 = some (82, 23) := by kernel_rfl
theorem mp149 : Try.prog.underlying 149 = some (.map 82 3) := by kernel_rfl
theorem mp77 : Try.prog.underlying 77 = some (.map 82 36) := by kernel_rfl
theorem sz149 : sizeIs Try.prog 149 = some 1 := by kernel_rfl
theorem sz36 : sizeIs Try.prog 36 = some 25 := by kernel_rfl
theorem sz78 : sizeIs Try.prog 78 = some 1 := by kernel_rfl
theorem zr149 : zeroIs Try.prog 149 = some (.map none) := by kernel_rfl
theorem zr3 : zeroIs Try.prog 3 = some (.int .i64 0) := by kernel_rfl
theorem zr36 : zeroIs Try.prog 36 = some (.agg #[.int .i64 0, .int .u64 0, .int .u64 0, .int .u64 0, .int .u64 0, .int .u64 0, .int .u64 0, .int .u64 0, .int .u64 0, .int .u64 0, .int .u64 0, .int .u64 0, .int .u64 0, .int .u64 0, .int .u64 0, .int .u64 0, .int .u64 0, .int .u64 0, .int .u64 0, .int .u64 0, .int .u64 0, .int .u64 0, .int .u64 0, .slice none 0 0, .int .u64 0]) := by kernel_rfl
theorem zr78 : zeroIs Try.prog 78 = some (.slice none 0 0) := by kernel_rfl
theorem zr82 : zeroIs Try.prog 82 = some (.agg #[.int .i64 0, .int .u64 0, .int .u64 0, .int .u64 0, .int .u64 0, .int .u64 0, .int .u64 0, .int .u64 0, .int .u64 0, .int .u64 0, .int .u64 0, .int .u64 0, .int .u64 0, .int .u64 0, .int .u64 0, .int .u64 0, .int .u64 0, .int .u64 0, .int .u64 0, .int .u64 0, .int .u64 0, .int .u64 0, .int .u64 0]) := by kernel_rfl

theorem plFlat : Flat Try.prog 82 plKinds := ⟨by kernel_rfl, by kernel_rfl, by kernel_rfl, by kernel_rfl⟩
theorem plKey : KeyEq Try.prog 82 plV (fun p => intsWf p.lits) := KeyEq.flat plFlat Pl.kinds Pl.lits_inj

theorem last_does {l : List Rule} {v : Value} (w : World) (hx : rulesR (Bel w) w v l) (hsm : l.length ≤ 100000000) : Does Try.prog 40 [v] w fun r w' => ∃ bm kv ov, r = .tuple #[.map (some bm), ov] ∧ Fr0 w w' ∧ MapBk w' bm plV kv ∧ (∀ p ∈ kv, intsWf p.1.lits) ∧ MapsTo (Bel w) w kv l ∧ SlR 23 plR AllB w' ov (ords l.reverse).reverse := by
  obtain ⟨pa, ca, cs, hv, hln, b0, o0, hpa, hcs⟩ := SlR.pick hx
  subst hv
  refine Does.enterM Try.func40 rfl rfl ?_
  show CW _ _ _ _ 49 [] [(0, .slice pa l.length ca)] w
  refine CW.seq ?_
  refine CW.region ?_
  refine OW.assign rfl rfl ?_
  refine OW.assign rfl rfl ?_
  refine OW.nil ?_
  refine NX.seq ?_
  refine CW.seq ?_
  refine CW.region ?_
  refine OW.makeMap rfl ?_
  intro bm w1 n1
  refine OW.assign rfl rfl ?_
  refine OW.nil ?_
  refine NX.seq ?_
  refine CW.seq ?_
  refine CW.seq ?_
  refine CW.region ?_
  refine OW.move rfl rfl ?_
  refine OW.len rfl el22 rfl ?_
  refine OW.move rfl rfl ?_
  refine OW.nil ?_
  refine NX.seq ?_
  refine CW.block ?_
  refine CW.loop (α := Nat) (fun i => [(0, .slice pa l.length ca), (4, .map (some bm)), (12, .slice pa l.length ca), (13, .int .i64 ((l.length : Nat) : Int)), (14, .int .i64 ((i : Nat) : Int))]) (fun i u => i ≤ l.length ∧ ∃ kv, MapBk u bm plV kv ∧ (∀ p ∈ kv, intsWf p.1.lits) ∧ MapsTo (Bel w) w kv (l.take i) ∧ Fr0 w u) (fun i => l.length - i) 0 (Sub.cons rfl (Sub.cons rfl (Sub.cons rfl (Sub.cons rfl (Sub.cons rfl (Sub.nil _)))))) ⟨by omega, [], MapBk.empty plV n1, by simp, MapsTo.nil _ _, n1.fr⟩ ?_
  rintro i u ⟨hi, kv, hm, hok, hto, f⟩
  have hbm : w.heap.size ≤ bm := Nat.le_of_eq n1.fresh.symm
  refine CW.seq ?_
  refine CW.region ?_
  refine OW.lss rfl rfl rfl ?_
  refine OW.nil ?_
  refine NX.seq ?_
  refine CW.seq ?_
  refine CW.cond rfl (fun hlt => ?_) (fun hlt => ?_)
  · have hil : i < l.length := by omega
    obtain ⟨hseg, hrr⟩ := hcs i l[i] (List.getElem?_eq_getElem hil)
    obtain ⟨cv, hce, _, hwf⟩ := id hrr
    have hp := hpa (by omega)
    subst hp
    refine CW.skip ?_
    refine NX.seq ?_
    refine CW.seq ?_
    refine CW.block ?_
    refine CW.seq ?_
    refine CW.region ?_
    refine OW.indexAddr rfl el22 rfl rfl (⟨by omega, by omega⟩) ?_
    refine OW.loadA rfl ag36 rfl (hseg.frame f id) (by rw [hce]; rfl) ?_
    refine OW.alloc rfl zr36 ?_
    intro b6 w2 n2
    have hlc : (cs i).length = 25 := ruleR_ok.len hrr
    refine OW.store rfl rfl (show _ = some (cs i).toArray.size from by rw [List.size_toArray, hlc]; exact sz36) (New.bk (cs := ruleCells 0 ⟨fun _ => 0, fun _ => 0⟩ (.slice none 0 0) 0) n2) (by show 0 + (cs i).toArray.size ≤ _; rw [List.size_toArray, hlc]; exact Nat.le_refl _) (fun x hx => ruleR_ok.one hrr x hx) ?_
    intro w3 f3 z3 b3
    have e3 : Bk w3 b6 36 (cs i) := by
      have : upd (ruleCells 0 ⟨fun _ => 0, fun _ => 0⟩ (.slice none 0 0) 0) 0 (cs i) = cs i := by
        simp only [upd, List.take_zero, List.nil_append, Nat.zero_add]
        rw [List.drop_of_length_le (by rw [hlc]; exact Nat.le_refl _), List.append_nil]
      rw [← this]; exact b3
    have g3 : Fr0 u w3 := n2.fr.trans' f3 (fun k h c => by have := n2.fresh; omega)
    have hm3 := hm.frame g3 id
    refine OW.nil ?_
    refine NX.seq ?_
    refine CW.drawT 4 [⟨0, 0, false⟩, ⟨0, 0, false⟩, ⟨0, 0, false⟩, ⟨0, 0, false⟩] 0 [.map (some bm), .agg (cs i).toArray, plV (plOf l[i]), .agg (cs i).toArray] (fun _ zw => Fr0 w3 zw) MIX rfl rfl rfl (Fr.drew w3) ?_ ?_
    · refine drawAll.cons (fun Lt zc w4 h1 h2 hr => ?_) ?_
      · obtain rfl : zc = 0 := Nat.le_antisymm h2 h1
        exact OW.move rfl rfl (OW.nil (NX.givesD rfl hr))
      refine drawAll.cons (fun Lt zc w4 h1 h2 hr => ?_) ?_
      · obtain rfl : zc = 0 := Nat.le_antisymm h2 h1
        exact OW.loadA rfl ag36 rfl ((Bk.frame e3 hr id).seg) (by rw [hce]; rfl) (OW.nil (NX.givesD rfl hr))
      refine drawAll.cons (fun Lt zc w4 h1 h2 hr => ?_) ?_
      · obtain rfl : zc = 0 := Nat.le_antisymm h2 h1
        refine OW.call (vs := [.agg (ruleCells l[i].rank l[i].mat cv l[i].cookie).toArray]) rfl (by rw [← hce]; rfl) cl80 (Dg.at_does _ _ _ _ w4) ?_
        rintro _ w5 ⟨rfl, f5⟩
        exact OW.nil (NX.givesD rfl (Fr0.trans hr f5))
      refine drawAll.cons (fun Lt zc w4 h1 h2 hr => ?_) ?_
      · obtain rfl : zc = 0 := Nat.le_antisymm h2 h1
        exact OW.loadA rfl ag36 rfl ((Bk.frame e3 hr id).seg) (by rw [hce]; rfl) (OW.nil (NX.givesD rfl hr))
      exact drawAll.nil
    intro w4 hr
    refine OW.mapUpdate (plOf l[i]) mp77 plKey rfl rfl rfl (Pl.lits_wf (plOf_wf hwf)) hok (hm3.frame hr id) ?_
    intro w6 f6 z6 m6
    refine OW.nil ?_
    refine NX.blockN ?_
    refine NX.seq ?_
    refine CW.region ?_
    refine OW.add rfl rfl rfl (by omega) ?_
    refine OW.move rfl rfl ?_
    refine OW.nil ?_
    exact NX.loop (i + 1) ((Sub.cons rfl (Sub.cons rfl (Sub.cons rfl (Sub.cons rfl (Sub.cons rfl (Sub.nil _))))))) (⟨by omega, _, m6, kvSet_mem (ok := fun (p : Pl) => intsWf p.lits) (Pl.lits_wf (plOf_wf hwf)) hok, by rw [List.take_succ_eq_append_getElem hil]; exact hto.snoc hrr, ((f.trans g3).trans hr).trans' f6 (fun k h c => by omega)⟩) (by omega)
  · have hil : l.take i = l := List.take_of_length_le (by omega)
    rw [hil] at hto
    refine CW.exit ?_
    refine NX.thenExit ?_
    refine NX.thenExit ?_
    refine NX.blockEq ?_
    refine NX.seq ?_
    refine CW.seq ?_
    refine CW.region ?_
    refine OW.alloc rfl zr78 ?_
    intro b7 w2 n2
    refine OW.nil ?_
    refine NX.seq ?_
    refine CW.seq ?_
    refine CW.region ?_
    refine OW.makeMap rfl ?_
    intro bs w3 n3
    refine OW.alloc rfl zr149 ?_
    intro b8 w4 n4
    refine OW.store rfl rfl sz149 (New.bk (cs := [.map none]) n4) (Nat.le_refl _) (fun x hx => by simp [Value.cells] at hx; subst hx; rfl) ?_
    intro w5 f5 z5 b5
    refine OW.nil ?_
    refine NX.seq ?_
    refine CW.seq ?_
    refine CW.seq ?_
    refine CW.region ?_
    refine OW.move rfl rfl ?_
    refine OW.call rfl rfl cl81 (Di.backward_does pa l.length ca w5) ?_
    rintro _ w6 ⟨b1, rfl, hc1, f6, hb1, hb1'⟩
    have l2 : b7 < w2.heap.size := lt_of_here n2.here
    have l3 : bs < w3.heap.size := lt_of_here n3.here
    have l4 : b8 < w4.heap.size := lt_of_here n4.here
    have q2 := n2.fresh
    have q3 := n3.fresh
    have q4 := n4.fresh
    have s3 := n3.size
    have s2 := n2.size
    have s4 := n4.size
    have s6 := f6.size
    have hml := hm.lt
    have fa : Fr0 u w6 := ((n2.fr.trans n3.fr).trans n4.fr).trans' (f5.trans f6.any) (fun k h c => by omega)
    have fW : Fr0 w w6 := f.trans fa
    have k7 : Bk w6 b7 78 [.slice none 0 0] := ((Bk.frame (New.bk (cs := [.slice none 0 0]) n2) (n3.fr.trans n4.fr) id).frame f5 (by omega)).frame f6 id
    have k8 : Bk w6 b8 149 [.map (some bs)] := Bk.frame (cs := [.map (some bs)]) b5 f6 id
    have ks : MapBk w6 bs plV [] := (((MapBk.empty plV n3).frame n4.fr id).frame f5 (by omega)).frame f6 id
    have km : MapBk w6 bm plV kv := hm.frame fa id
    have hw6 : w.heap.size ≤ w6.heap.size := fW.size
    refine OW.nil ?_
    refine NX.seq ?_
    refine CW.block ?_
    refine CW.rangeFunc (N := l.length) (γ := Nat) (fun k => (.int .i64 ((l.length - 1 - k : Nat) : Int), .agg (cs (l.length - 1 - k)).toArray))
      (fun k W => k ≤ l.length ∧ InvL w W w6.heap.size bm b7 bs b8 b1 kv pa l ca k 78 149 82)
      (fun g k W => (k < l.length ∧ InvL w W w6.heap.size bm b7 bs b8 b1 kv pa l ca k 78 149 82) ∧ Bk W g 36 (cs (l.length - 1 - k)) ∧ w6.heap.size + 2 ≤ g ∧ ∀ ov, W.cell? ⟨b7, 0, none⟩ = some ov → ov.ownBlock ≠ some g)
      (fun g _ => [(7, .pointer (some ⟨b7, 0, none⟩)), (8, .pointer (some ⟨b8, 0, none⟩)), (10, .pointer (some ⟨g, 0, none⟩))])
      (Di.RDs l.length ca b1 pa cs) rfl rfl rfl cl130 (fun l' J W hy hrd h0 => Di.backward1_does hln l' J W hy hrd h0) ?_ ?_ ?_ ?_ ?_ ?_ ?_
    · exact ⟨by omega, fW, k8, hc1, km, ⟨_, [], k7, OwnSl.nil, ks, by simp, Counts.nil, fun j h => by cases h⟩, by omega⟩
    · exact fun k W W' ⟨h1, h2⟩ h3 => ⟨h1, h2.frame h3 hw6⟩
    · rintro k W ⟨h1, h2⟩
      refine ⟨h2.it, b0, o0, hpa, fun i hi => ?_⟩
      obtain ⟨g1, g2⟩ := hcs i l[i] (List.getElem?_eq_getElem hi)
      exact ⟨g1.frame h2.f id, ruleR_ok.len g2⟩
    · rintro g k W W' ⟨⟨h1, h2⟩, h3, h4, h5⟩ h6
      have hb7 := h2.b
      refine ⟨⟨h1, h2.frame h6 hw6⟩, h3.frame h6 (by omega), h4, fun ov hov => h5 ov ?_⟩
      obtain ⟨ov', _, g1, _⟩ := h2.ex
      rw [← hov]; exact (cell_frame h6 g1.lt (by omega)).symm
    · rintro l' k W hk ⟨h1, h2⟩ hW
      obtain ⟨hsegk, hrk⟩ := hcs (l.length - 1 - k) (l[l.length - 1 - k]'(by omega)) (List.getElem?_eq_getElem (by omega))
      have hlk : (cs (l.length - 1 - k)).length = 25 := ruleR_ok.len hrk
      refine CW.region ?_
      refine OW.alloc rfl zr36 ?_
      intro g w7 n7
      refine OW.store (v := .agg (cs (l.length - 1 - k)).toArray) rfl rfl (show _ = some (cs (l.length - 1 - k)).toArray.size from by rw [List.size_toArray, hlk]; exact sz36) (New.bk (cs := ruleCells 0 ⟨fun _ => 0, fun _ => 0⟩ (.slice none 0 0) 0) n7) (by show 0 + (cs (l.length - 1 - k)).toArray.size ≤ _; rw [List.size_toArray, hlk]; exact Nat.le_refl _) (fun x hx => ruleR_ok.one hrk x hx) ?_
      intro w8 f8 z8 b8'
      refine OW.nil ?_
      have g8 : Fr0 W w8 := n7.fr.trans' f8 (fun k h c => by have := n7.fresh; omega)
      have q7 := n7.fresh
      have e8 : Bk w8 g 36 (cs (l.length - 1 - k)) := by
        have : upd (ruleCells 0 ⟨fun _ => 0, fun _ => 0⟩ (.slice none 0 0) 0) 0 (cs (l.length - 1 - k)) = cs (l.length - 1 - k) := by
          simp only [upd, List.take_zero, List.nil_append, Nat.zero_add]
          rw [List.drop_of_length_le (by rw [hlk]; exact Nat.le_refl _), List.append_nil]
        rw [← this]; exact b8'
      refine fun a ha => ⟨g, ha.sub (Sub.cons rfl (Sub.cons rfl (Sub.cons rfl (Sub.nil _)))), ⟨⟨hk, h2.frame g8.any hw6⟩, e8, by omega, fun ov hov => ?_⟩, Kp.fr g8 (fun _ _ h => h)⟩
      obtain ⟨ov', _, g1, _⟩ := h2.ex
      have hov2 : W.cell? ⟨b7, 0, none⟩ = some ov := by rw [← hov]; exact (cell_frame g8 g1.lt id).symm
      intro hg
      have := h2.ownlt hov2 g hg
      omega
    · rintro l' g k W hk ⟨⟨h1, h2⟩, hg, hgs, hgo⟩ hW
      obtain ⟨x, hx2⟩ : ∃ x, x = l[l.length - 1 - k]'(by omega) := ⟨_, rfl⟩
      obtain ⟨hsegk, hrk⟩ := hcs (l.length - 1 - k) x (by rw [hx2]; exact List.getElem?_eq_getElem (by omega))
      obtain ⟨cv, hce, _, hwf⟩ := id hrk
      have hrev : l.reverse.take (k + 1) = l.reverse.take k ++ [x] := by
        rw [List.take_succ_eq_append_getElem (by simp; omega), hx2]
        congr 2
        rw [List.getElem_reverse]
      obtain ⟨fW2, k8', hit, km', ⟨ov, kv2, k7', hov, hs2, hok2, hcn, hown⟩, hb⟩ := id h2
      have hgl := hg.lt
      obtain ⟨xs, hxs⟩ : ∃ xs, xs = l.reverse.take k := ⟨_, rfl⟩
      rw [← hxs] at hov hcn hrev
      have hxl : xs.length ≤ l.length := by rw [hxs, List.length_take, List.length_reverse]; omega
      have hcw := cnt_le xs (plOf x)
      refine CW.block ?_
      refine CW.seq ?_
      obtain ⟨es, clock, hraw⟩ := hs2.raw
      obtain ⟨st, hst⟩ : ∃ st, st = stampOf es clock (idxIn (plOf x) (kv2.map (·.1))) := ⟨_, rfl⟩
      have hgd := hcn.get (plOf x)
      obtain ⟨kv3, hkv3⟩ : ∃ kv3, kv3 = kvSet (plOf x) (.int .i64 ((cnt xs (plOf x) : Nat) : Int)) kv2 := ⟨_, rfl⟩
      have hok3' : ∀ p ∈ kv3, intsWf p.1.lits := by rw [hkv3]; exact kvSet_mem (ok := fun (p : Pl) => intsWf p.lits) (Pl.lits_wf (plOf_wf hwf)) hok2
      refine CW.drawT 7 [⟨0, 0, false⟩, ⟨0, 0, false⟩, ⟨0, 0, false⟩, ⟨0, 1, false⟩, ⟨0, 1, false⟩, ⟨0, 0, true⟩, ⟨1, 1, false⟩] 1 [.map (some bs), .agg (cs (l.length - 1 - k)).toArray, plV (plOf x), .int .i64 ((cnt xs (plOf x) : Nat) : Int), .int .i64 (((cnt xs (plOf x) : Nat) : Int) + 1), .tuple #[.int .i64 ((cnt xs (plOf x) : Nat) : Int), .int .i64 (st : Nat)], .int .i64 (st : Nat)] (fun zc zw => match zc with | 0 => Fr0 W zw | _ => Fr (fun j => j = bs) W zw ∧ MapSt zw bs plV kv3 (plOf x) st) MIX rfl rfl rfl (Fr.drew W) ?_ ?_
      · refine drawAll.cons (fun Lt zc w1' h1 h2 hr => ?_) ?_
        · obtain rfl : zc = 0 := Nat.le_antisymm h2 h1
          exact OW.load1 rfl ct149 rfl (Bk.cell (Bk.frame k8' hr id) rfl) (OW.nil (NX.givesD rfl hr))
        refine drawAll.cons (fun Lt zc w1' h1 h2 hr => ?_) ?_
        · obtain rfl : zc = 0 := Nat.le_antisymm h2 h1
          exact OW.loadA rfl ag36 rfl ((Bk.frame hg hr id).seg) (by rw [hce]; rfl) (OW.nil (NX.givesD rfl hr))
        refine drawAll.cons (fun Lt zc w1' h1 h2 hr => ?_) ?_
        · obtain rfl : zc = 0 := Nat.le_antisymm h2 h1
          refine OW.call (vs := [.agg (ruleCells x.rank x.mat cv x.cookie).toArray]) rfl (by rw [← hce]; rfl) cl80 (Dg.at_does _ _ _ _ w1') ?_
          rintro _ w5 ⟨rfl, f5⟩
          exact OW.nil (NX.givesD rfl (Fr0.trans hr f5))
        refine drawAll.cons (fun Lt zc w1' h1 h2 hr => ?_) ?_
        · rcases Nat.eq_zero_or_pos zc with z0 | z0
          · subst z0; exact OW.lookup (plOf x) rfl mp149 plKey zr3 rfl rfl (Pl.lits_wf (plOf_wf hwf)) hok2 (MapBk.frame hs2 hr id) (OW.nil (NX.givesD hgd hr))
          · obtain rfl : zc = 1 := Nat.le_antisymm h2 z0
            exact OW.lookup (plOf x) rfl mp149 plKey zr3 rfl rfl (Pl.lits_wf (plOf_wf hwf)) hok3' hr.2.bk (OW.nil (NX.givesD (by rw [hkv3, kvGet_set, if_pos rfl]; rfl) hr))
        refine drawAll.cons (fun Lt zc w1' h1 h2 hr => ?_) ?_
        · refine OW.add rfl rfl rfl (by omega) (OW.nil (NX.givesD ?_ hr))
          first | rfl | exact congrArg (Value.int .i64) (by omega)
        refine drawAll.cons (fun Lt zc w1' h1 h2 hr => ?_) ?_
        · obtain rfl : zc = 0 := Nat.le_antisymm h2 h1
          refine OW.mapEntryS (plOf x) rfl mp149 plKey zr3 rfl rfl (Pl.lits_wf (plOf_wf hwf)) hok2 (hraw.frame hr id) ?_
          intro w2' f2' z2' m2'
          rw [← hst, hgd] at m2' ⊢
          exact OW.nil (NX.givesD rfl ⟨(Fr0.any hr).trans f2', by rw [hkv3]; exact m2'⟩)
        refine drawAll.cons (fun Lt zc w1' h1 h2 hr => ?_) ?_
        · obtain rfl : zc = 1 := Nat.le_antisymm h2 h1
          exact OW.extract rfl rfl rfl (OW.nil (NX.givesD rfl hr))
        exact drawAll.nil
      intro w1' hr
      obtain ⟨hr1, hr2⟩ := hr
      refine OW.entryStore rfl rfl rfl hr2 ?_
      intro w3' f3' z3' m3'
      have hcn' : Counts _ (xs ++ [x]) := Counts.snoc' hcn (kv' := kv3) x (fun p hp => by rw [hkv3, kvGet_set, if_neg hp])
      have hok3 := kvSet_mem (k := plOf x) (v := .int .i64 ((cnt xs (plOf x) : Nat) + 1)) (ok := fun (p : Pl) => intsWf p.lits) (Pl.lits_wf (plOf_wf hwf)) hok3'
      have fs3 : Fr (fun j => j = bs) W w3' := hr1.trans f3'
      have k83 := k8'.frame fs3 (by omega)
      have hg3 := hg.frame fs3 (by omega)
      have k73 := k7'.frame fs3 (by omega)
      refine OW.nil ?_
      refine NX.seq ?_
      refine CW.seq ?_
      refine CW.drawG [⟨0, 0, false⟩, ⟨0, 0, false⟩, ⟨0, 0, false⟩, ⟨0, 0, false⟩, ⟨0, 0, false⟩] 0 [.map (some bs), .agg (cs (l.length - 1 - k)).toArray, plV (plOf x), .int .i64 (((cnt xs (plOf x) : Nat) : Int) + 1), .bool (decide ((((cnt xs (plOf x) : Nat) : Int) + 1) = 1))] (fun _ zw => Fr0 w3' zw) MIX rfl rfl (Fr.drew w3') ?_ ?_
      · refine drawAll.cons (fun Lt zc w4' h1 h2 hr => ?_) ?_
        · obtain rfl : zc = 0 := Nat.le_antisymm h2 h1
          exact OW.load1 rfl ct149 rfl (Bk.cell (Bk.frame k83 hr id) rfl) (OW.nil (NX.givesD rfl hr))
        refine drawAll.cons (fun Lt zc w4' h1 h2 hr => ?_) ?_
        · obtain rfl : zc = 0 := Nat.le_antisymm h2 h1
          exact OW.loadA rfl ag36 rfl ((Bk.frame hg3 hr id).seg) (by rw [hce]; rfl) (OW.nil (NX.givesD rfl hr))
        refine drawAll.cons (fun Lt zc w4' h1 h2 hr => ?_) ?_
        · obtain rfl : zc = 0 := Nat.le_antisymm h2 h1
          refine OW.call (vs := [.agg (ruleCells x.rank x.mat cv x.cookie).toArray]) rfl (by rw [← hce]; rfl) cl80 (Dg.at_does _ _ _ _ w4') ?_
          rintro _ w5 ⟨rfl, f5⟩
          exact OW.nil (NX.givesD rfl (Fr0.trans hr f5))
        refine drawAll.cons (fun Lt zc w4' h1 h2 hr => ?_) ?_
        · obtain rfl : zc = 0 := Nat.le_antisymm h2 h1
          exact OW.lookup (plOf x) rfl mp149 plKey zr3 rfl rfl (Pl.lits_wf (plOf_wf hwf)) hok3 (MapBk.frame m3' hr id) (OW.nil (NX.givesD (by rw [kvGet_set, if_pos rfl]; rfl) hr))
        refine drawAll.cons (fun Lt zc w4' h1 h2 hr => ?_) ?_
        · obtain rfl : zc = 0 := Nat.le_antisymm h2 h1
          exact OW.eql rfl rfl rfl (OW.nil (NX.givesD rfl hr))
        exact drawAll.nil
      intro w4' hr
      refine NX.seq ?_
      have f4 : Fr (fun j => j = bs) W w4' := fs3.trans (Fr0.any hr)
      have k84 := k83.frame hr id
      have hg4 := hg3.frame hr id
      have k74 := k73.frame hr id
      have m4 := m3'.frame hr id
      have hit4 := cell_keep hit f4 (by omega)
      have hov4 := hov.frame plR_ok f4 (fun j hj c => by have := hown j hj; omega) (fun _ h => h.elim)
      refine CW.cond rfl (fun hc1' => ?_) (fun hc1' => ?_)
      · have hc0 : cnt xs (plOf x) = 0 := by omega
        refine CW.drawFL 4 (fun a b => Fr0 a b) [fun v _ => v = ov, fun v _ => v = .agg (cs (l.length - 1 - k)).toArray, fun v _ => v = plV (plOf x), fun v u => ∃ bb, v = .slice (some ⟨bb, 0, none⟩) 1 1 ∧ Seg u bb 0 (plOf x).cells] MIX rfl rfl rfl (fun _ _ _ h g => Fr0.trans h g) (Fr.drew w4') (by
                intro F hF v a b hr hv
                simp only [List.mem_cons, List.not_mem_nil, or_false] at hF
                rcases hF with rfl | rfl | rfl | rfl
                · exact hv
                · exact hv
                · exact hv
                · obtain ⟨bb, h1, h2⟩ := hv; exact ⟨bb, h1, h2.frame hr id⟩) ?_ ?_
        · refine drawFAll.cons (fun Lt w5' hr hsub hdeps d hd => ?_) ?_
          · obtain rfl : 40 = d := by cases hd; rfl
            exact OW.load1 rfl ct78 (hsub _ _ rfl) (Bk.cell (Bk.frame k74 hr id) rfl) (OW.nil (NX.givesF (Sub.refl _) (Fr.refl _ _) rfl))
          refine drawFAll.cons (fun Lt w5' hr hsub hdeps d hd => ?_) ?_
          · obtain rfl : 41 = d := by cases hd; rfl
            exact OW.loadA rfl ag36 (hsub _ _ rfl) ((Bk.frame hg4 hr id).seg) (by rw [hce]; rfl) (OW.nil (NX.givesF (Sub.refl _) (Fr.refl _ _) rfl))
          refine drawFAll.cons (fun Lt w5' hr hsub hdeps d hd => ?_) ?_
          · obtain rfl : 42 = d := by cases hd; rfl
            obtain ⟨_, dx, v1, Fx, ho1, hd1, hF1, hl1, hv1⟩ := hdeps 1 (by decide)
            obtain rfl := Option.some.inj ho1
            obtain rfl : 41 = dx := Option.some.inj hd1
            obtain rfl := Option.some.inj hF1
            subst hv1
            refine OW.call (vs := [.agg (ruleCells x.rank x.mat cv x.cookie).toArray]) rfl (by simp only [evls, evl, hl1, hce]) cl80 (Dg.at_does _ _ _ _ _) ?_
            rintro _ w5 ⟨rfl, f5⟩
            exact OW.nil (NX.givesF (Sub.refl _) f5 rfl)
          refine drawFAll.cons (fun Lt w5' hr hsub hdeps d hd => ?_) ?_
          · obtain rfl : 43 = d := by cases hd; rfl
            obtain ⟨_, dx, v2, Fx, ho2, hd2, hF2, hl2, hv2⟩ := hdeps 2 (by decide)
            obtain rfl := Option.some.inj ho2
            obtain rfl : 42 = dx := Option.some.inj hd2
            obtain rfl := Option.some.inj hF2
            subst hv2
            refine OW.buildOne rfl el78 zr82 rfl rfl hl2 (c := (plOf x).cells) rfl rfl rfl ?_
            intro bb w5 n5
            exact OW.nil (NX.givesF (Sub.refl _) n5.fr ⟨bb, rfl, Seg.ofNew n5⟩)
          exact drawFAll.nil
        intro Lt w5' hr hsub hall
        obtain ⟨dx, v0, Fx, hd0, hF0, hl0, hv0⟩ := hall 0 _ (by decide) rfl
        obtain rfl : 40 = dx := Option.some.inj hd0
        obtain rfl := Option.some.inj hF0
        obtain ⟨dx, v3, Fx, hd3, hF3, hl3, hv3⟩ := hall 3 _ (by decide) rfl
        obtain rfl : 43 = dx := Option.some.inj hd3
        obtain rfl := Option.some.inj hF3
        obtain ⟨bb, e3, sg3⟩ := hv3
        subst e3
        subst hv0
        have k75 := k74.frame hr id
        have f5 : Fr (fun j => j = bs) W w5' := f4.trans (Fr0.any hr)
        refine OW.appendOne (R := plR) (X := fun _ => False) (el := plOf x) plR_ok rfl ap78 (hl0) (hl3) (hov4.frame plR_ok hr (fun _ _ h => h) (fun _ h => h.elim)) sg3 ⟨rfl, plOf_wf hwf⟩ ?_ ?_ (fun _ h => h.elim) ?_
        · have := ords_le xs; omega
        · have := ords_le xs; omega
        intro v6 w6' o6 f6' g6
        have hbo : ∀ j, v0.ownBlock = some j → w6.heap.size + 2 ≤ j := hown
        refine OW.store (T := 78) (cs := [v0]) (hsub 7 _ rfl) rfl (by rw [OwnSl.cells1 o6]; exact sz78) (k75.frame f6' (fun c => by have := hbo _ c; omega)) (by rw [OwnSl.cells1 o6]; exact Nat.le_refl _) (by rw [OwnSl.cells1 o6]; exact fun y hy => by simp at hy; subst hy; exact OwnSl.one o6) ?_
        intro w7' f7' z7' b7'
        refine OW.nil ?_
        refine NX.blockN ?_
        rw [OwnSl.cells1 o6] at b7'
        have hno : ∀ j, v6.ownBlock = some j → w6.heap.size + 2 ≤ j := fun j hj => by
          rcases g6 j hj with c | c
          · exact hbo j c
          · have := f5.size; have := hr.size; omega
        have fT : Fr (fun j => j = bs ∨ j = b7 ∨ v0.ownBlock = some j) W w7' := ((f5.mono fun _ _ h => .inl h).trans (f6'.mono fun _ _ h => .inr (.inr h))).trans (f7'.mono fun _ _ h => .inr (.inl h))
        have hord : ords (xs ++ [x]) = ords xs ++ [plOf x] := by
          rw [ords_snoc, ordStep, if_neg]
          intro h; have := (mem_ords xs (plOf x)).1 h; omega
        have hT : ∀ j, (j = bs ∨ j = b7 ∨ v0.ownBlock = some j) → j = bs ∨ j = b7 ∨ w6.heap.size + 2 ≤ j := fun j c => c.imp id (Or.imp id (hbo j))
        have m7 := ((m4.frame hr id).frame f6' (fun c => by have := hbo _ c; omega)).frame f7' (by omega)
        refine fun a ha => ⟨rfl, ⟨by omega, h2.next fT hT hw6 b7' (by rw [hrev, hord]; exact o6.frame plR_ok f7' (fun j hj c => by have := hno j hj; omega) (fun _ c => c.elim)) m7 hok3 (by rw [hrev]; exact hcn') hno⟩, Kp.fr fT (fun j hj c => by rcases hT j c with e | e | e <;> omega)⟩
      · refine CW.skip ?_
        refine NX.blockN ?_
        have hord : ords (xs ++ [x]) = ords xs := by
          rw [ords_snoc, ordStep, if_pos]
          exact (mem_ords xs (plOf x)).2 (by omega)
        refine fun a ha => ⟨rfl, ⟨by omega, h2.next f4 (fun j c => .inl c) hw6 k74 (by rw [hrev, hord]; exact hov4) m4 hok3 (by rw [hrev]; exact hcn') hown⟩, Kp.fr f4 (fun j hj c => by omega)⟩
    rintro w9 ⟨_, h2⟩ hdef
    obtain ⟨fW2, k8', hit, km', ⟨ov, kv2, k7', hov, hs2, hok2, hcn, hown⟩, hb⟩ := h2
    rw [List.take_of_length_le (by simp)] at hov
    have hol : (ords l.reverse).length ≤ 140737488355328 := by have := ords_le l.reverse; rw [List.length_reverse] at this; omega
    refine NX.blockN ?_
    refine NX.seq ?_
    refine CW.seq ?_
    refine CW.region ?_
    refine OW.load1 rfl ct78 rfl (Bk.cell (o := 0) k7' rfl) ?_
    have hrv : Does Try.prog 82 [ov] w9 fun _ u => Fr (fun j => ov.ownBlock = some j) w9 u ∧ SlR 23 plR (fun j => w6.heap.size + 2 ≤ j) u ov (ords l.reverse).reverse := by
      by_cases h0 : 0 < (ords l.reverse).length
      · obtain ⟨b, cap, post, f, hv, hcap, hA, hel⟩ := hov.arr plR_ok h0
        refine (Di.reverse_does (pre := []) (cap := cap) hol hA).mono' hv ?_
        rintro v' u ⟨g1, g2⟩
        refine ⟨g2.mono fun j _ c => by rw [hv, c]; rfl, ?_⟩
        rw [hv]
        have g3 : Arr u b 82 23 (ords l.reverse).reverse.length [] post (fun k => f ((ords l.reverse).length - 1 - k)) := by rw [List.length_reverse]; exact g1
        have := Arr.sl (R := plR) (X := fun j => w6.heap.size + 2 ≤ j) (cap := cap) g3 (by simpa using hcap) (by simpa using hol) (hown b (by rw [hv]; rfl)) (fun i x hx => ?_)
        · rwa [List.length_reverse] at this
        · have hi : i < (ords l.reverse).length := by
            rcases Nat.lt_or_ge i (ords l.reverse).length with g | g
            · exact g
            · rw [List.getElem?_eq_none (by simpa using g)] at hx; cases hx
          rw [List.getElem?_reverse hi] at hx
          exact hel _ x hx
      · have h1 : ords l.reverse = [] := List.eq_nil_of_length_eq_zero (by omega)
        rw [h1] at hov ⊢
        obtain ⟨cs, ho, _⟩ := hov
        rcases ho.shape with ⟨hv, _⟩ | ⟨b, cap, hv, _⟩
        · rw [hv]; exact Di.reverse0_does.mono fun v' u e => ⟨e ▸ Fr.refl _ _, .inl ⟨_, _, rfl, rfl⟩⟩
        · rw [hv]; exact Di.reverse0_does.mono fun v' u e => ⟨e ▸ Fr.refl _ _, .inl ⟨_, _, rfl, rfl⟩⟩
    refine OW.call rfl rfl cl82 (hrv) ?_
    rintro _ w10 ⟨f10, hsl⟩
    have k710 : Bk w10 b7 78 [ov] := k7'.frame f10 (fun c => by have := hown _ c; omega)
    have f910 : Fr0 w w10 := fW2.trans' f10 (fun j hj c => by have := hown _ c; omega)
    have km10 := km'.frame f10 (fun c => by have := hown _ c; omega)
    have hdef10 : w10.heap[w6.heap.size]? = some (.deferred (some [])) := f10.here hdef (fun c => by have := hown _ c; omega)
    refine OW.nil ?_
    refine NX.seq ?_
    refine CW.seq ?_
    refine CW.drawG [⟨0, 0, false⟩, ⟨0, 0, false⟩, ⟨0, 0, false⟩, ⟨0, 0, false⟩] 0 [.map (some bm), ov, .map (some bm), ov] (fun _ zw => Fr0 w10 zw) MIX rfl rfl (Fr.drew w10) ?_ ?_
    · refine drawAll.cons (fun Lt zc w11 h1 h2 hr => ?_) ?_
      · obtain rfl : zc = 0 := Nat.le_antisymm h2 h1
        exact OW.move rfl rfl (OW.nil (NX.givesD rfl hr))
      refine drawAll.cons (fun Lt zc w11 h1 h2 hr => ?_) ?_
      · obtain rfl : zc = 0 := Nat.le_antisymm h2 h1
        exact OW.load1 rfl ct78 rfl (Bk.cell (Bk.frame k710 hr id) rfl) (OW.nil (NX.givesD rfl hr))
      refine drawAll.cons (fun Lt zc w11 h1 h2 hr => ?_) ?_
      · obtain rfl : zc = 0 := Nat.le_antisymm h2 h1
        exact OW.assign rfl rfl (OW.nil (NX.givesD rfl hr))
      refine drawAll.cons (fun Lt zc w11 h1 h2 hr => ?_) ?_
      · obtain rfl : zc = 0 := Nat.le_antisymm h2 h1
        exact OW.assign rfl rfl (OW.nil (NX.givesD rfl hr))
      exact drawAll.nil
    intro w11 hr
    refine NX.seq ?_
    refine CW.ret ?_
    exact NX.retM2 rfl rfl rfl (hr.here hdef10 id) (fun w12 f12 => ⟨bm, kv, ov, rfl, (f910.trans hr).trans' f12 (fun j hj c => by omega), (km10.frame hr id).frame f12 (by omega), hok, hto, (hsl.frame plR_ok ((Fr0.any hr).trans f12) (fun j h c => by omega)).mono plR_ok (fun _ _ => trivial)⟩)

end Go.Eng.Dj
