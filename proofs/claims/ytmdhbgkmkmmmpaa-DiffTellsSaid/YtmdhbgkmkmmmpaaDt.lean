/-
  Law 14's comparing of messages, stepped through.
  No condition.
-/
import Derived.Test.YtmdhbgkmkmmmpaaDq
import Derived.Test.YtmdhbgkmkmmmpaaLst
import Derived.Test.YtmdhbgkmkmmmpaaDat7
import Derived.Test.YtmdhbgkmkmmmpaaProg
import Derived.KernelRfl
namespace Go.Eng.Dt
open Go Go.Eng Go.Proofs
theorem MIX : Try.prog.follows .mixedOrders = true := by kernel_rfl

theorem ag36 : aggSz Try.prog 36 = some 25 := by kernel_rfl
theorem ag45 : aggSz Try.prog 45 = some 36 := by kernel_rfl
theorem ag98 : aggSz Try.prog 98 = some 2 := by kernel_rfl
theorem cl39 : callable Try.prog 39 = true := by kernel_rfl
theorem cl78 : callable Try.prog 78 = true := by kernel_rfl
theorem cl79 : callable Try.prog 79 = true := by kernel_rfl
theorem ct38 : cellTy Try.prog 38 = true := by kernel_rfl
theorem ct39 : cellTy Try.prog 39 = true := by kernel_rfl
theorem ct4 : cellTy Try.prog 4 = true := by kernel_rfl
theorem ct40 : cellTy Try.prog 40 = true := by kernel_rfl
theorem ct41 : cellTy Try.prog 41 = true := by kernel_rfl
theorem ct42 : cellTy Try.prog 42 = true := by kernel_rfl
theorem ct43 : cellTy Try.prog 43 = true := by kernel_rfl
theorem eg98 : Try.prog.eqGuardType Try.prog.depth 98 = false := by kernel_rfl
theorem el26 : elemIs Try.prog 26 = some (45, 36) := by kernel_rfl
theorem el41 : elemIs Try.prog 41 = some (40, 1) := by kernel_rfl
theorem el43 : elemIs Try.prog 43 = some (100, 27) := by kernel_rfl
theorem fo100_0 : fieldOff Try.prog 100 0 = some 0 := by kernel_rfl
theorem fo100_1 : fieldOff Try.prog 100 1 = some 25 := by kernel_rfl
theorem fo45_0 : fieldOff Try.prog 45 0 = some 0 := by kernel_rfl
theorem fo45_1 : fieldOff Try.prog 45 1 = some 1 := by kernel_rfl
theorem fo45_10 : fieldOff Try.prog 45 10 = some 34 := by kernel_rfl
theorem fo45_11 : fieldOff Try.prog 45 11 = some 35 := by kernel_rfl
theorem fo45_2 : fieldOff Try.prog 45 2 = some 2 := by kernel_rfl
theorem fo45_3 : fieldOff Try.prog 45 3 = some 3 := by kernel_rfl
theorem fo45_4 : fieldOff Try.prog 45 4 = some 28 := by kernel_rfl
theorem fo45_5 : fieldOff Try.prog 45 5 = some 29 := by kernel_rfl
theorem fo45_6 : fieldOff Try.prog 45 6 = some 30 := by kernel_rfl
theorem fo45_7 : fieldOff Try.prog 45 7 = some 31 := by kernel_rfl
theorem fo45_8 : fieldOff Try.prog 45 8 = some 32 := by kernel_rfl
theorem fo45_9 : fieldOff Try.prog 45 9 = some 33 := by kernel_rfl
theorem u_4 : Try.prog.underlying 4 = some (.bool) := by kernel_rfl
theorem u_42 : Try.prog.underlying 42 = some (.slice 5) := by kernel_rfl
theorem u_5 : Try.prog.underlying 5 = some (.int .u8) := by kernel_rfl
theorem u_9 : Try.prog.underlying 9 = some (.string) := by kernel_rfl

theorem cntFlat : Flat Try.prog 98 [.u64, .u64] := ⟨by kernel_rfl, by kernel_rfl, by kernel_rfl, by kernel_rfl⟩

theorem ports_does {X Y : Nat → Prop} {a b : List Nat} {va vb : Value} (w : World) (hx : SlR 1 portR X w va a) (hy : SlR 1 portR Y w vb b) : Does Try.prog 78 [va, vb] w fun v w' => v = .bool (decide (a = b)) ∧ Fr0 w w' := by
  obtain ⟨pa, ca, rfl, hla⟩ := hx.shape
  obtain ⟨pb, cb, rfl, hlb⟩ := hy.shape
  refine Does.enter Try.func78 rfl rfl ?_
  show CW _ _ _ _ 26 [] [(0, .slice pa a.length ca), (1, .slice pb b.length cb)] w
  refine CW.seq ?_
  refine CW.region ?_
  refine OW.assign rfl rfl ?_
  refine OW.nil ?_
  refine NX.seq ?_
  refine CW.seq ?_
  refine CW.seq ?_
  refine CW.region ?_
  refine OW.move rfl rfl ?_
  refine OW.len rfl el41 rfl ?_
  refine OW.move rfl rfl ?_
  refine OW.len rfl el41 rfl ?_
  refine OW.neq rfl rfl rfl ?_
  refine OW.nil ?_
  refine NX.seq ?_
  refine CW.cond rfl (fun hl0 => ?_) (fun hl0 => ?_)
  · refine CW.seq ?_
    refine CW.region ?_
    refine OW.assign rfl rfl ?_
    refine OW.nil ?_
    refine NX.seq ?_
    refine CW.ret ?_
    refine NX.thenRet ?_
    exact NX.ret1 rfl rfl (⟨bfalse (ne_len (by omega)), Fr.refl _ _⟩)
  · have hl : a.length = b.length := by omega
    refine CW.skip ?_
    refine NX.seq ?_
    refine CW.seq ?_
    refine CW.seq ?_
    refine CW.region ?_
    refine OW.assign rfl rfl ?_
    refine OW.nil ?_
    refine NX.seq ?_
    refine CW.block ?_
    refine CW.loop (α := Nat) (fun i => [(0, .slice pa a.length ca), (1, .slice pb b.length cb), (5, .int .i64 ((i : Nat) : Int))]) (fun i U => i ≤ a.length ∧ (∀ j, j < i → a[j]? = b[j]?) ∧ Fr0 w U) (fun i => a.length - i) 0 (Sub.cons rfl (Sub.cons rfl (Sub.cons rfl (Sub.nil _)))) ⟨Nat.zero_le _, fun j h => absurd h (Nat.not_lt_zero _), Fr.refl _ _⟩ ?_
    rintro i U1 ⟨hi, hall, g1⟩
    refine CW.seq ?_
    refine CW.seq ?_
    refine CW.region ?_
    refine OW.move rfl rfl ?_
    refine OW.move rfl rfl ?_
    refine OW.len rfl el41 rfl ?_
    refine OW.lss rfl rfl rfl ?_
    refine OW.nil ?_
    refine NX.seq ?_
    refine CW.cond rfl (fun hlt => ?_) (fun hlt => ?_)
    · have hil : i < a.length := by omega
      have hil2 : i < b.length := by omega
      obtain ⟨ba, oa, hpa, hra⟩ := hx.at' hil
      subst hpa
      obtain ⟨bb, ob, hpb, hrb⟩ := hy.at' hil2
      subst hpb
      obtain ⟨x, hx1, hx2⟩ := getL hil
      obtain ⟨y, hy1, hy2⟩ := getL hil2
      obtain ⟨_, sx, rfl, hwx⟩ := hra i x hx2
      obtain ⟨_, sy, rfl, hwy⟩ := hrb i y hy2
      refine CW.skip ?_
      refine NX.seq ?_
      refine CW.seq ?_
      refine CW.block ?_
      refine CW.seq ?_
      refine CW.drawX [(0, false), (1, false), (2, false), (3, false), (4, false), (5, false), (6, false), (7, false), (8, false)] (fun z => Fr0 U1 z) MIX (by kernel_rfl) (fun _ h => h) ?_
      intro z1 hz1
      refine XW.val rfl rfl (fun zw hz => OW.move rfl rfl (OW.nil NX.calm)) ?_
      refine XW.val rfl rfl (fun zw hz => OW.move rfl rfl (OW.nil NX.calm)) ?_
      refine XW.val rfl rfl (fun zw hz => OW.indexAddr rfl el41 rfl rfl (⟨by omega, by omega⟩) (OW.nil NX.calm)) ?_
      refine XW.val rfl rfl (fun zw hz => OW.load1 rfl ct40 rfl (((sx.frame g1 id).frame hz id).one 0 rfl) (OW.nil NX.calm)) ?_
      refine XW.val rfl rfl (fun zw hz => OW.move rfl rfl (OW.nil NX.calm)) ?_
      refine XW.val rfl rfl (fun zw hz => OW.move rfl rfl (OW.nil NX.calm)) ?_
      refine XW.val rfl rfl (fun zw hz => OW.indexAddr rfl el41 rfl rfl (⟨by omega, by omega⟩) (OW.nil NX.calm)) ?_
      refine XW.val rfl rfl (fun zw hz => OW.load1 rfl ct40 rfl (((sy.frame g1 id).frame hz id).one 0 rfl) (OW.nil NX.calm)) ?_
      refine XW.val rfl rfl (fun zw hz => OW.neq rfl rfl rfl (OW.nil NX.calm)) ?_
      refine XW.nil ?_
      refine NX.seq ?_
      refine CW.cond rfl (fun hd => ?_) (fun hd => ?_)
      · refine CW.seq ?_
        refine CW.region ?_
        refine OW.assign rfl rfl ?_
        refine OW.nil ?_
        refine NX.seq ?_
        refine CW.ret ?_
        refine NX.blockRet ?_
        refine NX.thenRet ?_
        refine NX.thenRet ?_
        refine NX.blockRet ?_
        refine NX.thenRet ?_
        exact NX.ret1 rfl rfl (⟨bfalse (ne_at hx2 hy2 (by omega)), g1.trans hz1⟩)
      · refine CW.skip ?_
        refine NX.blockN ?_
        refine NX.seq ?_
        refine CW.region ?_
        refine OW.move rfl rfl ?_
        refine OW.add rfl rfl rfl (by omega) ?_
        refine OW.assign rfl rfl ?_
        refine OW.nil ?_
        exact NX.loop (i + 1) ((Sub.cons rfl (Sub.cons rfl (Sub.cons rfl (Sub.nil _))))) (⟨by omega, fun j hj => by
            rcases Nat.lt_or_ge j i with c | c
            · exact hall j c
            · obtain rfl : j = i := by omega
              rw [hx2, hy2, show x = y by omega], g1.trans hz1⟩) (by omega)
    · refine CW.exit ?_
      refine NX.thenExit ?_
      refine NX.thenExit ?_
      refine NX.blockEq ?_
      refine NX.seq ?_
      refine CW.seq ?_
      refine CW.region ?_
      refine OW.assign rfl rfl ?_
      refine OW.nil ?_
      refine NX.seq ?_
      refine CW.ret ?_
      exact NX.ret1 rfl rfl (⟨btrue (ext_upto hl fun j hj => hall j (by omega)), g1⟩)

theorem msg_ext {a b : Msg} (h1 : a.typ = b.typ) (h2 : a.id = b.id) (h3 : a.act = b.act) (h4 : a.rule = b.rule) (h5 : a.port = b.port) (h6 : a.up = b.up) (h7 : a.sw = b.sw) (h8 : a.ports = b.ports) (h9 : a.edge = b.edge) (h10 : a.frame = b.frame) (h11 : a.helds = b.helds) (h12 : a.code = b.code) : a = b := by
  cases a; cases b; simp_all
theorem held_ext {a b : Held} (h1 : a.rule = b.rule) (h2 : a.packets = b.packets) (h3 : a.bytes = b.bytes) : a = b := by cases a; cases b; simp_all
theorem of_not {p : Prop} [Decidable p] (h : (!decide p) = false) : p := by simpa using h
theorem not_of {p : Prop} [Decidable p] (h : (!decide p) = true) : ¬ p := by simpa using h

theorem rule_in {m : Msg} {rank : Int} {mt : Mat} {cv : Value} {ck : Nat} {vp ve vf vh : Value} (j : Nat) (v : Value) (h : (ruleCells rank mt cv ck)[j]? = some v) : (msgXCells m (ruleCells rank mt cv ck) vp ve vf vh)[3 + j]? = some v := by
  rw [show 3 + j = j + 3 by omega]
  show (ruleCells rank mt cv ck ++ _)[j]? = some v
  rw [List.getElem?_append_left]
  · exact h
  · rcases Nat.lt_or_ge j (ruleCells rank mt cv ck).length with c | c
    · exact c
    · rw [List.getElem?_eq_none c] at h; cases h
theorem rc_in {rc : List Value} {p b : Nat} (hl : rc.length = 25) (j : Nat) (v : Value) (h : rc[j]? = some v) : (heldCells rc p b)[0 + j]? = some v := by
  rw [Nat.zero_add]
  unfold heldCells
  rw [List.getElem?_append_left]
  · exact h
  · rcases Nat.lt_or_ge j rc.length with c | c
    · exact c
    · rw [List.getElem?_eq_none c] at h; cases h
theorem cnt_in {rc : List Value} {p b : Nat} (hl : rc.length = 25) (j : Nat) (v : Value) (h : (ints [(.u64, (p : Int)), (.u64, (b : Int))])[j]? = some v) : (heldCells rc p b)[25 + j]? = some v := by
  unfold heldCells
  rw [List.getElem?_append_right (by omega), hl, show 25 + j - 25 = j by omega]
  exact h
theorem cnt_wf {p b : Nat} (hp : p < 18446744073709551616) (hb : b < 18446744073709551616) : intsWf [(.u64, (p : Int)), (.u64, (b : Int))] := by
  intro q hq
  simp only [List.mem_cons, List.not_mem_nil, or_false] at hq
  rcases hq with rfl | rfl
  · exact wf_u64 hp
  · exact wf_u64 hb
theorem cnt_eq {x y : Held} (hr : x.rule = y.rule) (h : ¬ [(IntKind.u64, (x.packets : Int)), (.u64, (x.bytes : Int))] ≠ [(.u64, (y.packets : Int)), (.u64, (y.bytes : Int))]) : x = y := by
  have := Decidable.not_not.1 h
  simp only [List.cons.injEq, Prod.mk.injEq, true_and, and_true] at this
  exact held_ext hr (by omega) (by omega)

theorem like_does {X Y : Nat → Prop} {a b : Msg} {ca cb : List Value} (w : World) (ha : msgXR X w ca a) (hb : msgXR Y w cb b) : Does Try.prog 39 [.agg ca.toArray, .agg cb.toArray] w fun v w' => v = .bool (decide (a = b)) ∧ Fr0 w w' := by
  obtain ⟨_, vpa, vea, vfa, vha, rfl, ⟨cva, rfl, hcpa, hwra⟩, hpa, hea, hfa, hha, hwa⟩ := ha
  obtain ⟨pha, cha, rfl, hlha⟩ := hha.shape
  obtain ⟨_, vpb, veb, vfb, vhb, rfl, ⟨cvb, rfl, hcpb, hwrb⟩, hpb, heb, hfb, hhb, hwb⟩ := hb
  obtain ⟨phb, chb, rfl, hlhb⟩ := hhb.shape
  refine Does.enter Try.func39 rfl rfl ?_
  show CW _ _ _ _ 129 [] [(0, .agg (msgXCells a (ruleCells a.rule.rank a.rule.mat cva a.rule.cookie) vpa vea vfa (.slice pha a.helds.length cha)).toArray), (1, .agg (msgXCells b (ruleCells b.rule.rank b.rule.mat cvb b.rule.cookie) vpb veb vfb (.slice phb b.helds.length chb)).toArray)] w
  refine CW.seq ?_
  refine CW.region ?_
  refine OW.boxA rfl rfl ?_
  intro b1 w1 n1
  refine OW.boxA rfl rfl ?_
  intro b2 w2 n2
  have e1 : Bk w2 b1 45 (msgXCells a (ruleCells a.rule.rank a.rule.mat cva a.rule.cookie) vpa vea vfa (.slice pha a.helds.length cha)) := n1.bk.frame n2.fr id
  have e2 : Bk w2 b2 45 (msgXCells b (ruleCells b.rule.rank b.rule.mat cvb b.rule.cookie) vpb veb vfb (.slice phb b.helds.length chb)) := n2.bk
  have f2 : Fr0 w w2 := n1.fr.trans n2.fr
  refine OW.assign rfl rfl ?_
  refine OW.nil ?_
  refine NX.seq ?_
  refine CW.seq ?_
  refine CW.seq ?_
  refine CW.region ?_
  refine OW.fieldAddr rfl fo45_0 rfl ?_
  refine OW.load1 rfl ct38 rfl (e1.cell (o := 0) rfl) ?_
  refine OW.fieldAddr rfl fo45_0 rfl ?_
  refine OW.load1 rfl ct38 rfl (e2.cell (o := 0) rfl) ?_
  refine OW.neq rfl rfl rfl ?_
  refine OW.move rfl rfl ?_
  refine OW.ways (s := 11) rfl (fun htyp => ?_) (fun htyp => ?_)
  · refine OW.gnoD rfl rfl rfl rfl ?_
    refine OW.gnoD rfl rfl rfl rfl ?_
    refine OW.gnoD rfl rfl rfl rfl ?_
    refine OW.gnoD rfl rfl rfl rfl ?_
    refine OW.gnoD rfl rfl rfl rfl ?_
    refine OW.pickT rfl rfl rfl ?_
    refine OW.move rfl rfl ?_
    refine OW.gnoD rfl rfl rfl rfl ?_
    refine OW.gnoD rfl rfl rfl rfl ?_
    refine OW.gnoD rfl rfl rfl rfl ?_
    refine OW.gnoD rfl rfl rfl rfl ?_
    refine OW.gnoD rfl rfl rfl rfl ?_
    refine OW.pickT rfl rfl rfl ?_
    refine OW.move rfl rfl ?_
    refine OW.gnoD rfl rfl rfl rfl ?_
    refine OW.gnoD rfl rfl rfl rfl ?_
    refine OW.gnoD rfl rfl rfl rfl ?_
    refine OW.gnoD rfl rfl rfl rfl ?_
    refine OW.gnoD rfl rfl rfl rfl ?_
    refine OW.pickT rfl rfl rfl ?_
    refine OW.move rfl rfl ?_
    refine OW.gnoD rfl rfl rfl rfl ?_
    refine OW.gnoD rfl rfl rfl rfl ?_
    refine OW.gnoD rfl rfl rfl rfl ?_
    refine OW.gnoD rfl rfl rfl rfl ?_
    refine OW.gnoD rfl rfl rfl rfl ?_
    refine OW.pickT rfl rfl rfl ?_
    refine OW.move rfl rfl ?_
    refine OW.gnoD rfl rfl rfl rfl ?_
    refine OW.gnoD rfl rfl rfl rfl ?_
    refine OW.gnoD rfl rfl rfl rfl ?_
    refine OW.gnoD rfl rfl rfl rfl ?_
    refine OW.gnoD rfl rfl rfl rfl ?_
    refine OW.pickT rfl rfl rfl ?_
    refine OW.move rfl rfl ?_
    refine OW.gnoD rfl rfl rfl rfl ?_
    refine OW.gnoD rfl rfl rfl rfl ?_
    refine OW.gnoD rfl rfl rfl rfl ?_
    refine OW.gnoD rfl rfl rfl rfl ?_
    refine OW.gnoD rfl rfl rfl rfl ?_
    refine OW.pickT rfl rfl rfl ?_
    refine OW.move rfl rfl ?_
    refine OW.gnoD rfl rfl rfl rfl ?_
    refine OW.gnoD rfl rfl rfl rfl ?_
    refine OW.gnoD rfl rfl rfl rfl ?_
    refine OW.gnoD rfl rfl rfl rfl ?_
    refine OW.gnoD rfl rfl rfl rfl ?_
    refine OW.gnoD rfl rfl rfl rfl ?_
    refine OW.gnoD rfl rfl rfl rfl ?_
    refine OW.pickT rfl rfl rfl ?_
    refine OW.nil ?_
    refine NX.seq ?_
    refine CW.condT rfl ?_
    refine CW.seq ?_
    refine CW.region ?_
    refine OW.assign rfl rfl ?_
    refine OW.nil ?_
    refine NX.seq ?_
    refine CW.ret ?_
    refine NX.thenRet ?_
    exact NX.ret1 rfl rfl (⟨bfalse (fun e => htyp (by rw [e])), f2⟩)
  · refine OW.gyes rfl rfl ?_
    refine OW.fieldAddr rfl fo45_1 rfl ?_
    refine OW.gyes rfl rfl ?_
    refine OW.load1 rfl ct39 rfl (e1.cell (o := 1) rfl) ?_
    refine OW.gyes rfl rfl ?_
    refine OW.fieldAddr rfl fo45_1 rfl ?_
    refine OW.gyes rfl rfl ?_
    refine OW.load1 rfl ct39 rfl (e2.cell (o := 1) rfl) ?_
    refine OW.gyes rfl rfl ?_
    refine OW.neq rfl rfl rfl ?_
    refine OW.pickF rfl rfl rfl ?_
    refine OW.move rfl rfl ?_
    refine OW.ways (s := 18) rfl (fun hid => ?_) (fun hid => ?_)
    · refine OW.gnoD rfl rfl rfl rfl ?_
      refine OW.gnoD rfl rfl rfl rfl ?_
      refine OW.gnoD rfl rfl rfl rfl ?_
      refine OW.gnoD rfl rfl rfl rfl ?_
      refine OW.gnoD rfl rfl rfl rfl ?_
      refine OW.pickT rfl rfl rfl ?_
      refine OW.move rfl rfl ?_
      refine OW.gnoD rfl rfl rfl rfl ?_
      refine OW.gnoD rfl rfl rfl rfl ?_
      refine OW.gnoD rfl rfl rfl rfl ?_
      refine OW.gnoD rfl rfl rfl rfl ?_
      refine OW.gnoD rfl rfl rfl rfl ?_
      refine OW.pickT rfl rfl rfl ?_
      refine OW.move rfl rfl ?_
      refine OW.gnoD rfl rfl rfl rfl ?_
      refine OW.gnoD rfl rfl rfl rfl ?_
      refine OW.gnoD rfl rfl rfl rfl ?_
      refine OW.gnoD rfl rfl rfl rfl ?_
      refine OW.gnoD rfl rfl rfl rfl ?_
      refine OW.pickT rfl rfl rfl ?_
      refine OW.move rfl rfl ?_
      refine OW.gnoD rfl rfl rfl rfl ?_
      refine OW.gnoD rfl rfl rfl rfl ?_
      refine OW.gnoD rfl rfl rfl rfl ?_
      refine OW.gnoD rfl rfl rfl rfl ?_
      refine OW.gnoD rfl rfl rfl rfl ?_
      refine OW.pickT rfl rfl rfl ?_
      refine OW.move rfl rfl ?_
      refine OW.gnoD rfl rfl rfl rfl ?_
      refine OW.gnoD rfl rfl rfl rfl ?_
      refine OW.gnoD rfl rfl rfl rfl ?_
      refine OW.gnoD rfl rfl rfl rfl ?_
      refine OW.gnoD rfl rfl rfl rfl ?_
      refine OW.pickT rfl rfl rfl ?_
      refine OW.move rfl rfl ?_
      refine OW.gnoD rfl rfl rfl rfl ?_
      refine OW.gnoD rfl rfl rfl rfl ?_
      refine OW.gnoD rfl rfl rfl rfl ?_
      refine OW.gnoD rfl rfl rfl rfl ?_
      refine OW.gnoD rfl rfl rfl rfl ?_
      refine OW.gnoD rfl rfl rfl rfl ?_
      refine OW.gnoD rfl rfl rfl rfl ?_
      refine OW.pickT rfl rfl rfl ?_
      refine OW.nil ?_
      refine NX.seq ?_
      refine CW.condT rfl ?_
      refine CW.seq ?_
      refine CW.region ?_
      refine OW.assign rfl rfl ?_
      refine OW.nil ?_
      refine NX.seq ?_
      refine CW.ret ?_
      refine NX.thenRet ?_
      exact NX.ret1 rfl rfl (⟨bfalse (fun e => hid (by rw [e])), f2⟩)
    · refine OW.gyes rfl rfl ?_
      refine OW.fieldAddr rfl fo45_2 rfl ?_
      refine OW.gyes rfl rfl ?_
      refine OW.load1 rfl ct38 rfl (e1.cell (o := 2) rfl) ?_
      refine OW.gyes rfl rfl ?_
      refine OW.fieldAddr rfl fo45_2 rfl ?_
      refine OW.gyes rfl rfl ?_
      refine OW.load1 rfl ct38 rfl (e2.cell (o := 2) rfl) ?_
      refine OW.gyes rfl rfl ?_
      refine OW.neq rfl rfl rfl ?_
      refine OW.pickF rfl rfl rfl ?_
      refine OW.move rfl rfl ?_
      refine OW.ways (s := 25) rfl (fun hact => ?_) (fun hact => ?_)
      · refine OW.gnoD rfl rfl rfl rfl ?_
        refine OW.gnoD rfl rfl rfl rfl ?_
        refine OW.gnoD rfl rfl rfl rfl ?_
        refine OW.gnoD rfl rfl rfl rfl ?_
        refine OW.gnoD rfl rfl rfl rfl ?_
        refine OW.pickT rfl rfl rfl ?_
        refine OW.move rfl rfl ?_
        refine OW.gnoD rfl rfl rfl rfl ?_
        refine OW.gnoD rfl rfl rfl rfl ?_
        refine OW.gnoD rfl rfl rfl rfl ?_
        refine OW.gnoD rfl rfl rfl rfl ?_
        refine OW.gnoD rfl rfl rfl rfl ?_
        refine OW.pickT rfl rfl rfl ?_
        refine OW.move rfl rfl ?_
        refine OW.gnoD rfl rfl rfl rfl ?_
        refine OW.gnoD rfl rfl rfl rfl ?_
        refine OW.gnoD rfl rfl rfl rfl ?_
        refine OW.gnoD rfl rfl rfl rfl ?_
        refine OW.gnoD rfl rfl rfl rfl ?_
        refine OW.pickT rfl rfl rfl ?_
        refine OW.move rfl rfl ?_
        refine OW.gnoD rfl rfl rfl rfl ?_
        refine OW.gnoD rfl rfl rfl rfl ?_
        refine OW.gnoD rfl rfl rfl rfl ?_
        refine OW.gnoD rfl rfl rfl rfl ?_
        refine OW.gnoD rfl rfl rfl rfl ?_
        refine OW.pickT rfl rfl rfl ?_
        refine OW.move rfl rfl ?_
        refine OW.gnoD rfl rfl rfl rfl ?_
        refine OW.gnoD rfl rfl rfl rfl ?_
        refine OW.gnoD rfl rfl rfl rfl ?_
        refine OW.gnoD rfl rfl rfl rfl ?_
        refine OW.gnoD rfl rfl rfl rfl ?_
        refine OW.gnoD rfl rfl rfl rfl ?_
        refine OW.gnoD rfl rfl rfl rfl ?_
        refine OW.pickT rfl rfl rfl ?_
        refine OW.nil ?_
        refine NX.seq ?_
        refine CW.condT rfl ?_
        refine CW.seq ?_
        refine CW.region ?_
        refine OW.assign rfl rfl ?_
        refine OW.nil ?_
        refine NX.seq ?_
        refine CW.ret ?_
        refine NX.thenRet ?_
        exact NX.ret1 rfl rfl (⟨bfalse (fun e => hact (by rw [e])), f2⟩)
      · refine OW.gyes rfl rfl ?_
        refine OW.fieldAddr rfl fo45_4 rfl ?_
        refine OW.gyes rfl rfl ?_
        refine OW.load1 rfl ct40 rfl (e1.cell (o := 28) rfl) ?_
        refine OW.gyes rfl rfl ?_
        refine OW.fieldAddr rfl fo45_4 rfl ?_
        refine OW.gyes rfl rfl ?_
        refine OW.load1 rfl ct40 rfl (e2.cell (o := 28) rfl) ?_
        refine OW.gyes rfl rfl ?_
        refine OW.neq rfl rfl rfl ?_
        refine OW.pickF rfl rfl rfl ?_
        refine OW.move rfl rfl ?_
        refine OW.ways (s := 32) rfl (fun hport => ?_) (fun hport => ?_)
        · refine OW.gnoD rfl rfl rfl rfl ?_
          refine OW.gnoD rfl rfl rfl rfl ?_
          refine OW.gnoD rfl rfl rfl rfl ?_
          refine OW.gnoD rfl rfl rfl rfl ?_
          refine OW.gnoD rfl rfl rfl rfl ?_
          refine OW.pickT rfl rfl rfl ?_
          refine OW.move rfl rfl ?_
          refine OW.gnoD rfl rfl rfl rfl ?_
          refine OW.gnoD rfl rfl rfl rfl ?_
          refine OW.gnoD rfl rfl rfl rfl ?_
          refine OW.gnoD rfl rfl rfl rfl ?_
          refine OW.gnoD rfl rfl rfl rfl ?_
          refine OW.pickT rfl rfl rfl ?_
          refine OW.move rfl rfl ?_
          refine OW.gnoD rfl rfl rfl rfl ?_
          refine OW.gnoD rfl rfl rfl rfl ?_
          refine OW.gnoD rfl rfl rfl rfl ?_
          refine OW.gnoD rfl rfl rfl rfl ?_
          refine OW.gnoD rfl rfl rfl rfl ?_
          refine OW.pickT rfl rfl rfl ?_
          refine OW.move rfl rfl ?_
          refine OW.gnoD rfl rfl rfl rfl ?_
          refine OW.gnoD rfl rfl rfl rfl ?_
          refine OW.gnoD rfl rfl rfl rfl ?_
          refine OW.gnoD rfl rfl rfl rfl ?_
          refine OW.gnoD rfl rfl rfl rfl ?_
          refine OW.gnoD rfl rfl rfl rfl ?_
          refine OW.gnoD rfl rfl rfl rfl ?_
          refine OW.pickT rfl rfl rfl ?_
          refine OW.nil ?_
          refine NX.seq ?_
          refine CW.condT rfl ?_
          refine CW.seq ?_
          refine CW.region ?_
          refine OW.assign rfl rfl ?_
          refine OW.nil ?_
          refine NX.seq ?_
          refine CW.ret ?_
          refine NX.thenRet ?_
          exact NX.ret1 rfl rfl (⟨bfalse (fun e => hport (by rw [e])), f2⟩)
        · refine OW.gyes rfl rfl ?_
          refine OW.fieldAddr rfl fo45_5 rfl ?_
          refine OW.gyes rfl rfl ?_
          refine OW.load1 rfl ct4 rfl (e1.cell (o := 29) rfl) ?_
          refine OW.gyes rfl rfl ?_
          refine OW.fieldAddr rfl fo45_5 rfl ?_
          refine OW.gyes rfl rfl ?_
          refine OW.load1 rfl ct4 rfl (e2.cell (o := 29) rfl) ?_
          refine OW.gyes rfl rfl ?_
          refine OW.neqBool rfl u_4 rfl rfl ?_
          refine OW.pickF rfl rfl rfl ?_
          refine OW.move rfl rfl ?_
          refine OW.ways (s := 39) rfl (fun hup => ?_) (fun hup => ?_)
          · refine OW.gnoD rfl rfl rfl rfl ?_
            refine OW.gnoD rfl rfl rfl rfl ?_
            refine OW.gnoD rfl rfl rfl rfl ?_
            refine OW.gnoD rfl rfl rfl rfl ?_
            refine OW.gnoD rfl rfl rfl rfl ?_
            refine OW.pickT rfl rfl rfl ?_
            refine OW.move rfl rfl ?_
            refine OW.gnoD rfl rfl rfl rfl ?_
            refine OW.gnoD rfl rfl rfl rfl ?_
            refine OW.gnoD rfl rfl rfl rfl ?_
            refine OW.gnoD rfl rfl rfl rfl ?_
            refine OW.gnoD rfl rfl rfl rfl ?_
            refine OW.pickT rfl rfl rfl ?_
            refine OW.move rfl rfl ?_
            refine OW.gnoD rfl rfl rfl rfl ?_
            refine OW.gnoD rfl rfl rfl rfl ?_
            refine OW.gnoD rfl rfl rfl rfl ?_
            refine OW.gnoD rfl rfl rfl rfl ?_
            refine OW.gnoD rfl rfl rfl rfl ?_
            refine OW.gnoD rfl rfl rfl rfl ?_
            refine OW.gnoD rfl rfl rfl rfl ?_
            refine OW.pickT rfl rfl rfl ?_
            refine OW.nil ?_
            refine NX.seq ?_
            refine CW.condT rfl ?_
            refine CW.seq ?_
            refine CW.region ?_
            refine OW.assign rfl rfl ?_
            refine OW.nil ?_
            refine NX.seq ?_
            refine CW.ret ?_
            refine NX.thenRet ?_
            exact NX.ret1 rfl rfl (⟨bfalse (fun e => hup (by rw [e])), f2⟩)
          · refine OW.gyes rfl rfl ?_
            refine OW.fieldAddr rfl fo45_6 rfl ?_
            refine OW.gyes rfl rfl ?_
            refine OW.load1 rfl ct40 rfl (e1.cell (o := 30) rfl) ?_
            refine OW.gyes rfl rfl ?_
            refine OW.fieldAddr rfl fo45_6 rfl ?_
            refine OW.gyes rfl rfl ?_
            refine OW.load1 rfl ct40 rfl (e2.cell (o := 30) rfl) ?_
            refine OW.gyes rfl rfl ?_
            refine OW.neq rfl rfl rfl ?_
            refine OW.pickF rfl rfl rfl ?_
            refine OW.move rfl rfl ?_
            refine OW.ways (s := 46) rfl (fun hsw => ?_) (fun hsw => ?_)
            · refine OW.gnoD rfl rfl rfl rfl ?_
              refine OW.gnoD rfl rfl rfl rfl ?_
              refine OW.gnoD rfl rfl rfl rfl ?_
              refine OW.gnoD rfl rfl rfl rfl ?_
              refine OW.gnoD rfl rfl rfl rfl ?_
              refine OW.pickT rfl rfl rfl ?_
              refine OW.move rfl rfl ?_
              refine OW.gnoD rfl rfl rfl rfl ?_
              refine OW.gnoD rfl rfl rfl rfl ?_
              refine OW.gnoD rfl rfl rfl rfl ?_
              refine OW.gnoD rfl rfl rfl rfl ?_
              refine OW.gnoD rfl rfl rfl rfl ?_
              refine OW.gnoD rfl rfl rfl rfl ?_
              refine OW.gnoD rfl rfl rfl rfl ?_
              refine OW.pickT rfl rfl rfl ?_
              refine OW.nil ?_
              refine NX.seq ?_
              refine CW.condT rfl ?_
              refine CW.seq ?_
              refine CW.region ?_
              refine OW.assign rfl rfl ?_
              refine OW.nil ?_
              refine NX.seq ?_
              refine CW.ret ?_
              refine NX.thenRet ?_
              exact NX.ret1 rfl rfl (⟨bfalse (fun e => hsw (by rw [e])), f2⟩)
            · refine OW.gyes rfl rfl ?_
              refine OW.fieldAddr rfl fo45_11 rfl ?_
              refine OW.gyes rfl rfl ?_
              refine OW.load1 rfl ct40 rfl (e1.cell (o := 35) rfl) ?_
              refine OW.gyes rfl rfl ?_
              refine OW.fieldAddr rfl fo45_11 rfl ?_
              refine OW.gyes rfl rfl ?_
              refine OW.load1 rfl ct40 rfl (e2.cell (o := 35) rfl) ?_
              refine OW.gyes rfl rfl ?_
              refine OW.neq rfl rfl rfl ?_
              refine OW.pickF rfl rfl rfl ?_
              refine OW.move rfl rfl ?_
              refine OW.ways (s := 53) rfl (fun hcode => ?_) (fun hcode => ?_)
              · refine OW.gnoD rfl rfl rfl rfl ?_
                refine OW.gnoD rfl rfl rfl rfl ?_
                refine OW.gnoD rfl rfl rfl rfl ?_
                refine OW.gnoD rfl rfl rfl rfl ?_
                refine OW.gnoD rfl rfl rfl rfl ?_
                refine OW.gnoD rfl rfl rfl rfl ?_
                refine OW.gnoD rfl rfl rfl rfl ?_
                refine OW.pickT rfl rfl rfl ?_
                refine OW.nil ?_
                refine NX.seq ?_
                refine CW.condT rfl ?_
                refine CW.seq ?_
                refine CW.region ?_
                refine OW.assign rfl rfl ?_
                refine OW.nil ?_
                refine NX.seq ?_
                refine CW.ret ?_
                refine NX.thenRet ?_
                exact NX.ret1 rfl rfl (⟨bfalse (fun e => hcode (by rw [e])), f2⟩)
              · refine OW.gyes rfl rfl ?_
                refine OW.fieldAddr rfl fo45_9 rfl ?_
                refine OW.gyes rfl rfl ?_
                refine OW.load1 rfl ct42 rfl (e1.cell (o := 33) rfl) ?_
                refine OW.gyes rfl rfl ?_
                refine OW.bytesStr rfl u_42 u_5 u_9 rfl (sf hfa byteR_ok f2) ?_
                refine OW.gyes rfl rfl ?_
                refine OW.fieldAddr rfl fo45_9 rfl ?_
                refine OW.gyes rfl rfl ?_
                refine OW.load1 rfl ct42 rfl (e2.cell (o := 33) rfl) ?_
                refine OW.gyes rfl rfl ?_
                refine OW.bytesStr rfl u_42 u_5 u_9 rfl (sf hfb byteR_ok f2) ?_
                refine OW.gyes rfl rfl ?_
                refine OW.neqStr rfl rfl rfl ?_
                refine OW.pickF rfl rfl rfl ?_
                refine OW.nil ?_
                refine NX.seq ?_
                refine CW.cond rfl (fun hframe => ?_) (fun hframe => ?_)
                · refine CW.seq ?_
                  refine CW.region ?_
                  refine OW.assign rfl rfl ?_
                  refine OW.nil ?_
                  refine NX.seq ?_
                  refine CW.ret ?_
                  refine NX.thenRet ?_
                  exact NX.ret1 rfl rfl (⟨bfalse (fun e => hframe (by rw [e])), f2⟩)
                · have hframe' : a.frame = b.frame := str_inj (bytes_lt hfa) (bytes_lt hfb) (Decidable.not_not.1 hframe)
                  refine CW.skip ?_
                  refine NX.seq ?_
                  refine CW.seq ?_
                  refine CW.seq ?_
                  refine CW.region ?_
                  refine OW.fieldAddr rfl fo45_7 rfl ?_
                  refine OW.load1 rfl ct41 rfl (e1.cell (o := 31) rfl) ?_
                  refine OW.fieldAddr rfl fo45_7 rfl ?_
                  refine OW.load1 rfl ct41 rfl (e2.cell (o := 31) rfl) ?_
                  refine OW.call rfl rfl cl78 (ports_does _ (sf hpa portR_ok f2) (sf hpb portR_ok f2)) ?_
                  rintro _ w3 ⟨rfl, f3⟩
                  have f2 := f2.trans f3
                  have e1 := e1.frame f3 id
                  have e2 := e2.frame f3 id
                  refine OW.not rfl rfl ?_
                  refine OW.move rfl rfl ?_
                  refine OW.waysB (s := 68) rfl (fun hports => ?_) (fun hports => ?_)
                  · refine OW.gnoD rfl rfl rfl rfl ?_
                    refine OW.gnoD rfl rfl rfl rfl ?_
                    refine OW.gnoD rfl rfl rfl rfl ?_
                    refine OW.gnoD rfl rfl rfl rfl ?_
                    refine OW.gnoD rfl rfl rfl rfl ?_
                    refine OW.gnoD rfl rfl rfl rfl ?_
                    refine OW.pickT rfl rfl rfl ?_
                    refine OW.move rfl rfl ?_
                    refine OW.gnoD rfl rfl rfl rfl ?_
                    refine OW.gnoD rfl rfl rfl rfl ?_
                    refine OW.gnoD rfl rfl rfl rfl ?_
                    refine OW.gnoD rfl rfl rfl rfl ?_
                    refine OW.gnoD rfl rfl rfl rfl ?_
                    refine OW.gnoD rfl rfl rfl rfl ?_
                    refine OW.pickT rfl rfl rfl ?_
                    refine OW.move rfl rfl ?_
                    refine OW.gnoD rfl rfl rfl rfl ?_
                    refine OW.gnoD rfl rfl rfl rfl ?_
                    refine OW.gnoD rfl rfl rfl rfl ?_
                    refine OW.gnoD rfl rfl rfl rfl ?_
                    refine OW.gnoD rfl rfl rfl rfl ?_
                    refine OW.gnoD rfl rfl rfl rfl ?_
                    refine OW.gnoD rfl rfl rfl rfl ?_
                    refine OW.pickT rfl rfl rfl ?_
                    refine OW.nil ?_
                    refine NX.seq ?_
                    refine CW.condT rfl ?_
                    refine CW.seq ?_
                    refine CW.region ?_
                    refine OW.assign rfl rfl ?_
                    refine OW.nil ?_
                    refine NX.seq ?_
                    refine CW.ret ?_
                    refine NX.thenRet ?_
                    exact NX.ret1 rfl rfl (⟨bfalse (fun e => not_of hports (by rw [e])), f2⟩)
                  · refine OW.gyes rfl rfl ?_
                    refine OW.fieldAddr rfl fo45_8 rfl ?_
                    refine OW.gyes rfl rfl ?_
                    refine OW.load1 rfl ct41 rfl (e1.cell (o := 32) rfl) ?_
                    refine OW.gyes rfl rfl ?_
                    refine OW.fieldAddr rfl fo45_8 rfl ?_
                    refine OW.gyes rfl rfl ?_
                    refine OW.load1 rfl ct41 rfl (e2.cell (o := 32) rfl) ?_
                    refine OW.gyes rfl rfl ?_
                    refine OW.call rfl rfl cl78 (ports_does _ (sf hea portR_ok f2) (sf heb portR_ok f2)) ?_
                    rintro _ w3 ⟨rfl, f3⟩
                    have f2 := f2.trans f3
                    have e1 := e1.frame f3 id
                    have e2 := e2.frame f3 id
                    refine OW.gyes rfl rfl ?_
                    refine OW.not rfl rfl ?_
                    refine OW.pickF rfl rfl rfl ?_
                    refine OW.move rfl rfl ?_
                    refine OW.waysB (s := 76) rfl (fun hedge => ?_) (fun hedge => ?_)
                    · refine OW.gnoD rfl rfl rfl rfl ?_
                      refine OW.gnoD rfl rfl rfl rfl ?_
                      refine OW.gnoD rfl rfl rfl rfl ?_
                      refine OW.gnoD rfl rfl rfl rfl ?_
                      refine OW.gnoD rfl rfl rfl rfl ?_
                      refine OW.gnoD rfl rfl rfl rfl ?_
                      refine OW.pickT rfl rfl rfl ?_
                      refine OW.move rfl rfl ?_
                      refine OW.gnoD rfl rfl rfl rfl ?_
                      refine OW.gnoD rfl rfl rfl rfl ?_
                      refine OW.gnoD rfl rfl rfl rfl ?_
                      refine OW.gnoD rfl rfl rfl rfl ?_
                      refine OW.gnoD rfl rfl rfl rfl ?_
                      refine OW.gnoD rfl rfl rfl rfl ?_
                      refine OW.gnoD rfl rfl rfl rfl ?_
                      refine OW.pickT rfl rfl rfl ?_
                      refine OW.nil ?_
                      refine NX.seq ?_
                      refine CW.condT rfl ?_
                      refine CW.seq ?_
                      refine CW.region ?_
                      refine OW.assign rfl rfl ?_
                      refine OW.nil ?_
                      refine NX.seq ?_
                      refine CW.ret ?_
                      refine NX.thenRet ?_
                      exact NX.ret1 rfl rfl (⟨bfalse (fun e => not_of hedge (by rw [e])), f2⟩)
                    · refine OW.gyes rfl rfl ?_
                      refine OW.fieldAddr rfl fo45_3 rfl ?_
                      refine OW.gyes rfl rfl ?_
                      refine OW.loadA rfl ag36 rfl (e1.segAt 3 ((ruleCells a.rule.rank a.rule.mat cva a.rule.cookie)) (fun j v e => rule_in j v e)) (rfl) ?_
                      refine OW.gyes rfl rfl ?_
                      refine OW.fieldAddr rfl fo45_3 rfl ?_
                      refine OW.gyes rfl rfl ?_
                      refine OW.loadA rfl ag36 rfl (e2.segAt 3 ((ruleCells b.rule.rank b.rule.mat cvb b.rule.cookie)) (fun j v e => rule_in j v e)) (rfl) ?_
                      refine OW.gyes rfl rfl ?_
                      refine OW.call rfl rfl cl79 (Dq.rules_does _ ⟨_, rfl, sf hcpa cpsR_ok f2, hwra⟩ ⟨_, rfl, sf hcpb cpsR_ok f2, hwrb⟩) ?_
                      rintro _ w3 ⟨rfl, f3⟩
                      have f2 := f2.trans f3
                      have e1 := e1.frame f3 id
                      have e2 := e2.frame f3 id
                      refine OW.gyes rfl rfl ?_
                      refine OW.not rfl rfl ?_
                      refine OW.pickF rfl rfl rfl ?_
                      refine OW.move rfl rfl ?_
                      refine OW.waysB (s := 84) rfl (fun hrule => ?_) (fun hrule => ?_)
                      · refine OW.gnoD rfl rfl rfl rfl ?_
                        refine OW.gnoD rfl rfl rfl rfl ?_
                        refine OW.gnoD rfl rfl rfl rfl ?_
                        refine OW.gnoD rfl rfl rfl rfl ?_
                        refine OW.gnoD rfl rfl rfl rfl ?_
                        refine OW.gnoD rfl rfl rfl rfl ?_
                        refine OW.gnoD rfl rfl rfl rfl ?_
                        refine OW.pickT rfl rfl rfl ?_
                        refine OW.nil ?_
                        refine NX.seq ?_
                        refine CW.condT rfl ?_
                        refine CW.seq ?_
                        refine CW.region ?_
                        refine OW.assign rfl rfl ?_
                        refine OW.nil ?_
                        refine NX.seq ?_
                        refine CW.ret ?_
                        refine NX.thenRet ?_
                        exact NX.ret1 rfl rfl (⟨bfalse (fun e => not_of hrule (by rw [e])), f2⟩)
                      · refine OW.gyes rfl rfl ?_
                        refine OW.fieldAddr rfl fo45_10 rfl ?_
                        refine OW.gyes rfl rfl ?_
                        refine OW.load1 rfl ct43 rfl (e1.cell (o := 34) rfl) ?_
                        refine OW.gyes rfl rfl ?_
                        refine OW.len rfl el43 rfl ?_
                        refine OW.gyes rfl rfl ?_
                        refine OW.fieldAddr rfl fo45_10 rfl ?_
                        refine OW.gyes rfl rfl ?_
                        refine OW.load1 rfl ct43 rfl (e2.cell (o := 34) rfl) ?_
                        refine OW.gyes rfl rfl ?_
                        refine OW.len rfl el43 rfl ?_
                        refine OW.gyes rfl rfl ?_
                        refine OW.neq rfl rfl rfl ?_
                        refine OW.pickF rfl rfl rfl ?_
                        refine OW.nil ?_
                        refine NX.seq ?_
                        refine CW.cond rfl (fun hlen => ?_) (fun hlen => ?_)
                        · refine CW.seq ?_
                          refine CW.region ?_
                          refine OW.assign rfl rfl ?_
                          refine OW.nil ?_
                          refine NX.seq ?_
                          refine CW.ret ?_
                          refine NX.thenRet ?_
                          exact NX.ret1 rfl rfl (⟨bfalse (fun e => hlen (by rw [e])), f2⟩)
                        · have hl : a.helds.length = b.helds.length := by omega
                          refine CW.skip ?_
                          refine NX.seq ?_
                          refine CW.seq ?_
                          refine CW.seq ?_
                          refine CW.region ?_
                          refine OW.assign rfl rfl ?_
                          refine OW.nil ?_
                          refine NX.seq ?_
                          refine CW.block ?_
                          refine CW.loop (α := Nat) (fun i => [(2, .pointer (some ⟨b1, 0, none⟩)), (3, .pointer (some ⟨b2, 0, none⟩)), (5, .int .i64 ((i : Nat) : Int))]) (fun i U => i ≤ a.helds.length ∧ (∀ j, j < i → a.helds[j]? = b.helds[j]?) ∧ Fr0 w U ∧ Bk U b1 45 (msgXCells a (ruleCells a.rule.rank a.rule.mat cva a.rule.cookie) vpa vea vfa (.slice pha a.helds.length cha)) ∧ Bk U b2 45 (msgXCells b (ruleCells b.rule.rank b.rule.mat cvb b.rule.cookie) vpb veb vfb (.slice phb b.helds.length chb))) (fun i => a.helds.length - i) 0 (Sub.cons rfl (Sub.cons rfl (Sub.cons rfl (Sub.nil _)))) ⟨Nat.zero_le _, (fun j h => absurd h (Nat.not_lt_zero _)), f2, e1, e2⟩ ?_
                          rintro i U1 ⟨hi, hall, g1, e1, e2⟩
                          refine CW.seq ?_
                          refine CW.seq ?_
                          refine CW.region ?_
                          refine OW.move rfl rfl ?_
                          refine OW.fieldAddr rfl fo45_10 rfl ?_
                          refine OW.load1 rfl ct43 rfl (e1.cell (o := 34) rfl) ?_
                          refine OW.len rfl el43 rfl ?_
                          refine OW.lss rfl rfl rfl ?_
                          refine OW.nil ?_
                          refine NX.seq ?_
                          refine CW.cond rfl (fun hlt => ?_) (fun hlt => ?_)
                          · have hil : i < a.helds.length := by omega
                            have hil2 : i < b.helds.length := by omega
                            obtain ⟨ba, oa, hpa', hra⟩ := hha.at' hil
                            subst hpa'
                            obtain ⟨bb, ob, hpb', hrb⟩ := hhb.at' hil2
                            subst hpb'
                            obtain ⟨x, hx1, hx2⟩ := getL hil
                            obtain ⟨y, hy1, hy2⟩ := getL hil2
                            obtain ⟨_, sx, rx, rfl, hrx, hx3, hx4⟩ := hra i x hx2
                            obtain ⟨_, sy, ry, rfl, hry, hy3, hy4⟩ := hrb i y hy2
                            have hcx := ruleR_ok.len hrx
                            have hcy := ruleR_ok.len hry
                            refine CW.skip ?_
                            refine NX.seq ?_
                            refine CW.seq ?_
                            refine CW.block ?_
                            refine CW.seq ?_
                            refine CW.drawX [(0, false), (1, false), (2, false), (3, false), (4, false), (5, false), (6, false), (7, false), (8, false), (9, false), (10, false), (11, false), (12, false), (13, false), (14, false), (15, false), (16, false), (17, false), (18, false), (19, false), (20, false), (21, false), (22, false), (23, false), (24, false), (25, false), (26, true), (27, false), (28, false)] (fun z => Fr0 U1 z) MIX (by kernel_rfl) (fun _ h => h) ?_
                            intro z1 hz1
                            refine XW.val rfl rfl (fun zw hz => OW.fieldAddr rfl fo45_10 rfl (OW.nil NX.calm)) ?_
                            refine XW.val rfl rfl (fun zw hz => OW.load1 rfl ct43 rfl ((e1.frame hz id).cell (o := 34) rfl) (OW.nil NX.calm)) ?_
                            refine XW.val rfl rfl (fun zw hz => OW.move rfl rfl (OW.nil NX.calm)) ?_
                            refine XW.val rfl rfl (fun zw hz => OW.indexAddr rfl el43 rfl rfl (⟨by omega, by omega⟩) (OW.nil NX.calm)) ?_
                            refine XW.val rfl rfl (fun zw hz => OW.fieldAddr rfl fo100_1 rfl (OW.nil NX.calm)) ?_
                            refine XW.val rfl rfl (fun zw hz => OW.loadA rfl ag98 rfl (((sx.frame g1 id).frame hz id).sub 25 (fun j v e => cnt_in hcx j v e)) (rfl) (OW.nil NX.calm)) ?_
                            refine XW.val rfl rfl (fun zw hz => OW.fieldAddr rfl fo45_10 rfl (OW.nil NX.calm)) ?_
                            refine XW.val rfl rfl (fun zw hz => OW.load1 rfl ct43 rfl ((e2.frame hz id).cell (o := 34) rfl) (OW.nil NX.calm)) ?_
                            refine XW.val rfl rfl (fun zw hz => OW.move rfl rfl (OW.nil NX.calm)) ?_
                            refine XW.val rfl rfl (fun zw hz => OW.indexAddr rfl el43 rfl rfl (⟨by omega, by omega⟩) (OW.nil NX.calm)) ?_
                            refine XW.val rfl rfl (fun zw hz => OW.fieldAddr rfl fo100_1 rfl (OW.nil NX.calm)) ?_
                            refine XW.val rfl rfl (fun zw hz => OW.loadA rfl ag98 rfl (((sy.frame g1 id).frame hz id).sub 25 (fun j v e => cnt_in hcy j v e)) (rfl) (OW.nil NX.calm)) ?_
                            refine XW.val rfl rfl (fun zw hz => OW.neqA (l := [(.u64, (x.packets : Int)), (.u64, (x.bytes : Int))]) (r := [(.u64, (y.packets : Int)), (.u64, (y.bytes : Int))]) rfl cntFlat eg98 rfl rfl rfl rfl (cnt_wf hx3 hx4) (cnt_wf hy3 hy4) (OW.nil NX.calm)) ?_
                            refine XW.val rfl rfl (fun zw hz => OW.move rfl rfl (OW.nil NX.calm)) ?_
                            refine XW.ways (s := 113) rfl (fun hcn => ?_) (fun hcn => ?_)
                            · refine XW.gno rfl rfl rfl rfl ?_
                              refine XW.gno rfl rfl rfl rfl ?_
                              refine XW.gno rfl rfl rfl rfl ?_
                              refine XW.gno rfl rfl rfl rfl ?_
                              refine XW.gno rfl rfl rfl rfl ?_
                              refine XW.gno rfl rfl rfl rfl ?_
                              refine XW.gno rfl rfl rfl rfl ?_
                              refine XW.gno rfl rfl rfl rfl ?_
                              refine XW.gno rfl rfl rfl rfl ?_
                              refine XW.gno rfl rfl rfl rfl ?_
                              refine XW.gno rfl rfl rfl rfl ?_
                              refine XW.gno rfl rfl rfl rfl ?_
                              refine XW.gnoW rfl rfl rfl rfl ?_
                              refine XW.gno rfl rfl rfl rfl ?_
                              refine XW.val rfl rfl (fun zw hz => OW.pickT rfl rfl rfl (OW.nil NX.calm)) ?_
                              refine XW.nil ?_
                              refine NX.seq ?_
                              refine CW.condT rfl ?_
                              refine CW.seq ?_
                              refine CW.region ?_
                              refine OW.assign rfl rfl ?_
                              refine OW.nil ?_
                              refine NX.seq ?_
                              refine CW.ret ?_
                              refine NX.blockRet ?_
                              refine NX.thenRet ?_
                              refine NX.thenRet ?_
                              refine NX.blockRet ?_
                              refine NX.thenRet ?_
                              exact NX.ret1 rfl rfl (⟨bfalse (fun e => ne_at hx2 hy2 (fun e2 => hcn (by rw [e2])) (by rw [e])), g1.trans hz1⟩)
                            · refine XW.val rfl rfl (fun zw hz => OW.gyes rfl rfl (OW.fieldAddr rfl fo45_10 rfl (OW.nil NX.calm))) ?_
                              refine XW.val rfl rfl (fun zw hz => OW.gyes rfl rfl (OW.load1 rfl ct43 rfl ((e1.frame hz id).cell (o := 34) rfl) (OW.nil NX.calm))) ?_
                              refine XW.val rfl rfl (fun zw hz => OW.gyes rfl rfl (OW.move rfl rfl (OW.nil NX.calm))) ?_
                              refine XW.val rfl rfl (fun zw hz => OW.gyes rfl rfl (OW.indexAddr rfl el43 rfl rfl (⟨by omega, by omega⟩) (OW.nil NX.calm))) ?_
                              refine XW.val rfl rfl (fun zw hz => OW.gyes rfl rfl (OW.fieldAddr rfl fo100_0 rfl (OW.nil NX.calm))) ?_
                              refine XW.val rfl rfl (fun zw hz => OW.gyes rfl rfl (OW.loadA rfl ag36 rfl (((sx.frame g1 id).frame hz id).sub 0 (fun j v e => rc_in hcx j v e)) (hcx) (OW.nil NX.calm))) ?_
                              refine XW.val rfl rfl (fun zw hz => OW.gyes rfl rfl (OW.fieldAddr rfl fo45_10 rfl (OW.nil NX.calm))) ?_
                              refine XW.val rfl rfl (fun zw hz => OW.gyes rfl rfl (OW.load1 rfl ct43 rfl ((e2.frame hz id).cell (o := 34) rfl) (OW.nil NX.calm))) ?_
                              refine XW.val rfl rfl (fun zw hz => OW.gyes rfl rfl (OW.move rfl rfl (OW.nil NX.calm))) ?_
                              refine XW.val rfl rfl (fun zw hz => OW.gyes rfl rfl (OW.indexAddr rfl el43 rfl rfl (⟨by omega, by omega⟩) (OW.nil NX.calm))) ?_
                              refine XW.val rfl rfl (fun zw hz => OW.gyes rfl rfl (OW.fieldAddr rfl fo100_0 rfl (OW.nil NX.calm))) ?_
                              refine XW.val rfl rfl (fun zw hz => OW.gyes rfl rfl (OW.loadA rfl ag36 rfl (((sy.frame g1 id).frame hz id).sub 0 (fun j v e => rc_in hcy j v e)) (hcy) (OW.nil NX.calm))) ?_
                              refine XW.does ?_
                              refine OW.gyes rfl rfl ?_
                              refine OW.call rfl rfl cl79 (Dq.rules_does _ (rf hrx ruleR_ok (g1.trans hz1)) (rf hry ruleR_ok (g1.trans hz1))) ?_
                              rintro _ w4 ⟨rfl, f4⟩
                              refine OW.nil (NX.does (hz1.trans f4) ?_)
                              refine XW.val rfl rfl (fun zw hz => OW.gyes rfl rfl (OW.not rfl rfl (OW.nil NX.calm))) ?_
                              refine XW.val rfl rfl (fun zw hz => OW.pickF rfl rfl rfl (OW.nil NX.calm)) ?_
                              refine XW.nil ?_
                              refine NX.seq ?_
                              refine CW.condB rfl (fun hru => ?_) (fun hru => ?_)
                              · refine CW.seq ?_
                                refine CW.region ?_
                                refine OW.assign rfl rfl ?_
                                refine OW.nil ?_
                                refine NX.seq ?_
                                refine CW.ret ?_
                                refine NX.blockRet ?_
                                refine NX.thenRet ?_
                                refine NX.thenRet ?_
                                refine NX.blockRet ?_
                                refine NX.thenRet ?_
                                exact NX.ret1 rfl rfl (⟨bfalse (fun e => ne_at hx2 hy2 (fun e2 => not_of hru (by rw [e2])) (by rw [e])), (g1.trans hz1).trans f4⟩)
                              · refine CW.skip ?_
                                refine NX.blockN ?_
                                refine NX.seq ?_
                                refine CW.region ?_
                                refine OW.move rfl rfl ?_
                                refine OW.add rfl rfl rfl (by omega) ?_
                                refine OW.assign rfl rfl ?_
                                refine OW.nil ?_
                                exact NX.loop (i + 1) ((Sub.cons rfl (Sub.cons rfl (Sub.cons rfl (Sub.nil _))))) (⟨by omega, (fun j hj => by
                                    rcases Nat.lt_or_ge j i with c | c
                                    · exact hall j c
                                    · obtain rfl : j = i := by omega
                                      rw [hx2, hy2, cnt_eq (of_not hru) hcn]), (g1.trans hz1).trans f4, (e1.frame hz1 id).frame f4 id, (e2.frame hz1 id).frame f4 id⟩) (by omega)
                          · refine CW.exit ?_
                            refine NX.thenExit ?_
                            refine NX.thenExit ?_
                            refine NX.blockEq ?_
                            refine NX.seq ?_
                            refine CW.seq ?_
                            refine CW.region ?_
                            refine OW.assign rfl rfl ?_
                            refine OW.nil ?_
                            refine NX.seq ?_
                            refine CW.ret ?_
                            exact NX.ret1 rfl rfl (⟨btrue (msg_ext (by omega) (by omega) (by omega) (of_not hrule) (by omega) (Decidable.not_not.1 hup) (by omega) (of_not hports) (of_not hedge) hframe' (ext_upto hl fun j hj => hall j (by omega)) (by omega)), g1⟩)

theorem all_does {X Y : Nat → Prop} {a b : List Msg} {va vb : Value} (w : World) (hx : SlR 36 msgXR X w va a) (hy : SlR 36 msgXR Y w vb b) : Does Try.prog 15 [va, vb] w fun v w' => v = .bool (decide (a = b)) ∧ Fr0 w w' := by
  obtain ⟨pa, ca, rfl, hla⟩ := hx.shape
  obtain ⟨pb, cb, rfl, hlb⟩ := hy.shape
  refine Does.enter Try.func15 rfl rfl ?_
  show CW _ _ _ _ 27 [] [(0, .slice pa a.length ca), (1, .slice pb b.length cb)] w
  refine CW.seq ?_
  refine CW.region ?_
  refine OW.assign rfl rfl ?_
  refine OW.nil ?_
  refine NX.seq ?_
  refine CW.seq ?_
  refine CW.seq ?_
  refine CW.region ?_
  refine OW.move rfl rfl ?_
  refine OW.len rfl el26 rfl ?_
  refine OW.move rfl rfl ?_
  refine OW.len rfl el26 rfl ?_
  refine OW.neq rfl rfl rfl ?_
  refine OW.nil ?_
  refine NX.seq ?_
  refine CW.cond rfl (fun hl0 => ?_) (fun hl0 => ?_)
  · refine CW.seq ?_
    refine CW.region ?_
    refine OW.assign rfl rfl ?_
    refine OW.nil ?_
    refine NX.seq ?_
    refine CW.ret ?_
    refine NX.thenRet ?_
    exact NX.ret1 rfl rfl (⟨bfalse (ne_len (by omega)), Fr.refl _ _⟩)
  · have hl : a.length = b.length := by omega
    refine CW.skip ?_
    refine NX.seq ?_
    refine CW.seq ?_
    refine CW.seq ?_
    refine CW.region ?_
    refine OW.assign rfl rfl ?_
    refine OW.nil ?_
    refine NX.seq ?_
    refine CW.block ?_
    refine CW.loop (α := Nat) (fun i => [(0, .slice pa a.length ca), (1, .slice pb b.length cb), (5, .int .i64 ((i : Nat) : Int))]) (fun i U => i ≤ a.length ∧ (∀ j, j < i → a[j]? = b[j]?) ∧ Fr0 w U) (fun i => a.length - i) 0 (Sub.cons rfl (Sub.cons rfl (Sub.cons rfl (Sub.nil _)))) ⟨Nat.zero_le _, fun j h => absurd h (Nat.not_lt_zero _), Fr.refl _ _⟩ ?_
    rintro i U1 ⟨hi, hall, g1⟩
    refine CW.seq ?_
    refine CW.seq ?_
    refine CW.region ?_
    refine OW.move rfl rfl ?_
    refine OW.move rfl rfl ?_
    refine OW.len rfl el26 rfl ?_
    refine OW.lss rfl rfl rfl ?_
    refine OW.nil ?_
    refine NX.seq ?_
    refine CW.cond rfl (fun hlt => ?_) (fun hlt => ?_)
    · have hil : i < a.length := by omega
      have hil2 : i < b.length := by omega
      obtain ⟨ba, oa, hpa, hra⟩ := hx.at' hil
      subst hpa
      obtain ⟨bb, ob, hpb, hrb⟩ := hy.at' hil2
      subst hpb
      obtain ⟨x, hx1, hx2⟩ := getL hil
      obtain ⟨y, hy1, hy2⟩ := getL hil2
      obtain ⟨cx, sx, hrx⟩ := hra i x hx2
      obtain ⟨cy, sy, hry⟩ := hrb i y hy2
      have hcx := msgXR_ok.len hrx
      have hcy := msgXR_ok.len hry
      refine CW.skip ?_
      refine NX.seq ?_
      refine CW.seq ?_
      refine CW.block ?_
      refine CW.seq ?_
      refine CW.drawX [(0, false), (1, false), (2, false), (3, false), (4, false), (5, false), (6, false), (7, false), (8, true), (9, false)] (fun z => Fr0 U1 z) MIX (by kernel_rfl) (fun _ h => h) ?_
      intro z1 hz1
      refine XW.val rfl rfl (fun zw hz => OW.move rfl rfl (OW.nil NX.calm)) ?_
      refine XW.val rfl rfl (fun zw hz => OW.move rfl rfl (OW.nil NX.calm)) ?_
      refine XW.val rfl rfl (fun zw hz => OW.indexAddr rfl el26 rfl rfl (⟨by omega, by omega⟩) (OW.nil NX.calm)) ?_
      refine XW.val rfl rfl (fun zw hz => OW.loadA rfl ag45 rfl ((sx.frame g1 id).frame hz id) (hcx) (OW.nil NX.calm)) ?_
      refine XW.val rfl rfl (fun zw hz => OW.move rfl rfl (OW.nil NX.calm)) ?_
      refine XW.val rfl rfl (fun zw hz => OW.move rfl rfl (OW.nil NX.calm)) ?_
      refine XW.val rfl rfl (fun zw hz => OW.indexAddr rfl el26 rfl rfl (⟨by omega, by omega⟩) (OW.nil NX.calm)) ?_
      refine XW.val rfl rfl (fun zw hz => OW.loadA rfl ag45 rfl ((sy.frame g1 id).frame hz id) (hcy) (OW.nil NX.calm)) ?_
      refine XW.does ?_
      refine OW.call rfl rfl cl39 (like_does _ (rf hrx msgXR_ok (g1.trans hz1)) (rf hry msgXR_ok (g1.trans hz1))) ?_
      rintro _ w4 ⟨rfl, f4⟩
      refine OW.nil (NX.does (hz1.trans f4) ?_)
      refine XW.val rfl rfl (fun zw hz => OW.not rfl rfl (OW.nil NX.calm)) ?_
      refine XW.nil ?_
      refine NX.seq ?_
      refine CW.condB rfl (fun hd => ?_) (fun hd => ?_)
      · refine CW.seq ?_
        refine CW.region ?_
        refine OW.assign rfl rfl ?_
        refine OW.nil ?_
        refine NX.seq ?_
        refine CW.ret ?_
        refine NX.blockRet ?_
        refine NX.thenRet ?_
        refine NX.thenRet ?_
        refine NX.blockRet ?_
        refine NX.thenRet ?_
        exact NX.ret1 rfl rfl (⟨bfalse (ne_at hx2 hy2 (not_of hd)), (g1.trans hz1).trans f4⟩)
      · refine CW.skip ?_
        refine NX.blockN ?_
        refine NX.seq ?_
        refine CW.region ?_
        refine OW.move rfl rfl ?_
        refine OW.add rfl rfl rfl (by omega) ?_
        refine OW.assign rfl rfl ?_
        refine OW.nil ?_
        exact NX.loop (i + 1) ((Sub.cons rfl (Sub.cons rfl (Sub.cons rfl (Sub.nil _))))) (⟨by omega, fun j hj => by
            rcases Nat.lt_or_ge j i with c | c
            · exact hall j c
            · obtain rfl : j = i := by omega
              rw [hx2, hy2, of_not hd], (g1.trans hz1).trans f4⟩) (by omega)
    · refine CW.exit ?_
      refine NX.thenExit ?_
      refine NX.thenExit ?_
      refine NX.blockEq ?_
      refine NX.seq ?_
      refine CW.seq ?_
      refine CW.region ?_
      refine OW.assign rfl rfl ?_
      refine OW.nil ?_
      refine NX.seq ?_
      refine CW.ret ?_
      exact NX.ret1 rfl rfl (⟨btrue (ext_upto hl fun j hj => hall j (by omega)), g1⟩)

end Go.Eng.Dt
