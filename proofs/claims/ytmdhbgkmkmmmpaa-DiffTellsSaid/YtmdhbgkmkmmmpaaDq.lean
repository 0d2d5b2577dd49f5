/-
  How rules are held against each other, stepped through.
  No condition.
-/
import Derived.Test.YtmdhbgkmkmmmpaaDg
import Derived.Test.YtmdhbgkmkmmmpaaDat6
import Derived.Test.YtmdhbgkmkmmmpaaEngS
import Derived.Test.YtmdhbgkmkmmmpaaProg
import Derived.KernelRfl
namespace Go.Eng.Dq
open Go Go.Eng Go.Proofs
theorem MIX : Try.prog.follows .mixedOrders = true := by kernel_rfl

theorem ag33 : aggSz Try.prog 33 = some 22 := by kernel_rfl
theorem ag36 : aggSz Try.prog 36 = some 25 := by kernel_rfl
theorem ag89 : aggSz Try.prog 89 = some 3 := by kernel_rfl
theorem cl129 : callable Try.prog 129 = true := by kernel_rfl
theorem cl46 : callable Try.prog 46 = true := by kernel_rfl
theorem cl88 : callable Try.prog 88 = true := by kernel_rfl
theorem ct29 : cellTy Try.prog 29 = true := by kernel_rfl
theorem ct3 : cellTy Try.prog 3 = true := by kernel_rfl
theorem ct34 : cellTy Try.prog 34 = true := by kernel_rfl
theorem ct75 : cellTy Try.prog 75 = true := by kernel_rfl
theorem eg33 : Try.prog.eqGuardType Try.prog.depth 33 = false := by kernel_rfl
theorem eg89 : Try.prog.eqGuardType Try.prog.depth 89 = false := by kernel_rfl
theorem el34 : elemIs Try.prog 34 = some (75, 1) := by kernel_rfl
theorem el75 : elemIs Try.prog 75 = some (89, 3) := by kernel_rfl
theorem fo36_0 : fieldOff Try.prog 36 0 = some 0 := by kernel_rfl
theorem fo36_1 : fieldOff Try.prog 36 1 = some 1 := by kernel_rfl
theorem fo36_2 : fieldOff Try.prog 36 2 = some 23 := by kernel_rfl
theorem fo36_3 : fieldOff Try.prog 36 3 = some 24 := by kernel_rfl

theorem matFlat : Flat Try.prog 33 (List.replicate 22 .u64) := ⟨by kernel_rfl, by kernel_rfl, by kernel_rfl, by kernel_rfl⟩
theorem actFlat : Flat Try.prog 89 [.i8, .i8, .u64] := ⟨by kernel_rfl, by kernel_rfl, by kernel_rfl, by kernel_rfl⟩
theorem ne_at {α : Type} {a b : List α} {i : Nat} {x y : α} (hx : a[i]? = some x) (hy : b[i]? = some y) (h : x ≠ y) : a ≠ b := fun e => by subst e; rw [hx] at hy; cases hy; exact h rfl
theorem ne_len {α : Type} {a b : List α} (h : a.length ≠ b.length) : a ≠ b := fun e => h (by rw [e])
theorem bfalse {α : Type} [DecidableEq α] {a b : α} (h : a ≠ b) : Value.bool false = Value.bool (decide (a = b)) := by rw [decide_eq_false h]
theorem btrue {α : Type} [DecidableEq α] {a b : α} (h : a = b) : Value.bool true = Value.bool (decide (a = b)) := by rw [decide_eq_true h]
theorem ext_upto {α : Type} {a b : List α} (hl : a.length = b.length) (h : ∀ j, j < a.length → a[j]? = b[j]?) : a = b := by
  apply List.ext_getElem?
  intro j
  rcases Nat.lt_or_ge j a.length with c | c
  · exact h j c
  · rw [List.getElem?_eq_none c, List.getElem?_eq_none (by omega)]

theorem same_does {X Y : Nat → Prop} {a b : List (List Actn)} {va vb : Value} (w : World) (hx : SlR 1 cpsR X w va a) (hy : SlR 1 cpsR Y w vb b) : Does Try.prog 88 [va, vb] w fun v w' => v = .bool (decide (a = b)) ∧ Fr0 w w' := by
  obtain ⟨pa, ca, rfl, hla⟩ := hx.shape
  obtain ⟨pb, cb, rfl, hlb⟩ := hy.shape
  refine Does.enter Try.func88 rfl rfl ?_
  show CW _ _ _ _ 53 [] [(0, .slice pa a.length ca), (1, .slice pb b.length cb)] w
  refine CW.seq ?_
  refine CW.region ?_
  refine OW.assign rfl rfl ?_
  refine OW.nil ?_
  refine NX.seq ?_
  refine CW.seq ?_
  refine CW.seq ?_
  refine CW.region ?_
  refine OW.move rfl rfl ?_
  refine OW.len rfl el34 rfl ?_
  refine OW.move rfl rfl ?_
  refine OW.len rfl el34 rfl ?_
  refine OW.neq rfl rfl rfl ?_
  refine OW.nil ?_
  refine NX.seq ?_
  refine CW.cond rfl (fun hl0 => ?_) (fun hl0 => ?_)
  · refine CW.seq ?_
    refine CW.region ?_
    refine OW.assign rfl rfl ?_
    refine OW.nil ?_
    refine NX.seq ?_
    refine CW.ret ?_
    refine NX.thenRet ?_
    exact NX.ret1 rfl rfl (⟨bfalse (ne_len (by omega)), Fr.refl _ _⟩)
  · have hl : a.length = b.length := by omega
    refine CW.skip ?_
    refine NX.seq ?_
    refine CW.seq ?_
    refine CW.seq ?_
    refine CW.region ?_
    refine OW.assign rfl rfl ?_
    refine OW.nil ?_
    refine NX.seq ?_
    refine CW.block ?_
    refine CW.loop (α := Nat) (fun i => [(0, .slice pa a.length ca), (1, .slice pb b.length cb), (5, .int .i64 ((i : Nat) : Int))]) (fun i U => i ≤ a.length ∧ (∀ j, j < i → a[j]? = b[j]?) ∧ Fr0 w U) (fun i => a.length - i) 0 (Sub.cons rfl (Sub.cons rfl (Sub.cons rfl (Sub.nil _)))) ⟨Nat.zero_le _, fun j h => absurd h (Nat.not_lt_zero _), Fr.refl _ _⟩ ?_
    rintro i U1 ⟨hi, hall, g1⟩
    refine CW.seq ?_
    refine CW.seq ?_
    refine CW.region ?_
    refine OW.move rfl rfl ?_
    refine OW.move rfl rfl ?_
    refine OW.len rfl el34 rfl ?_
    refine OW.lss rfl rfl rfl ?_
    refine OW.nil ?_
    refine NX.seq ?_
    refine CW.cond rfl (fun hlt => ?_) (fun hlt => ?_)
    · have hil : i < a.length := by omega
      have hil2 : i < b.length := by omega
      obtain ⟨ba, oa, hpa, hra⟩ := hx.at' hil
      subst hpa
      obtain ⟨bb, ob, hpb, hrb⟩ := hy.at' hil2
      subst hpb
      obtain ⟨xs, hxs⟩ : ∃ xs, a[i]? = some xs := ⟨_, List.getElem?_eq_getElem hil⟩
      obtain ⟨ys, hys⟩ : ∃ ys, b[i]? = some ys := ⟨_, List.getElem?_eq_getElem hil2⟩
      obtain ⟨_, sgx, vx, rfl, hxx⟩ := hra i xs hxs
      obtain ⟨_, sgy, vy, rfl, hyy⟩ := hrb i ys hys
      obtain ⟨px, cx, rfl, hlx⟩ := hxx.shape
      obtain ⟨py, cy, rfl, hly⟩ := hyy.shape
      refine CW.skip ?_
      refine NX.seq ?_
      refine CW.seq ?_
      refine CW.block ?_
      refine CW.seq ?_
      refine CW.seq ?_
      refine CW.drawX [(0, false), (1, false), (2, false), (3, false), (4, false), (5, false), (6, false), (7, false), (8, false), (9, false), (10, false)] (fun z => Fr0 U1 z) MIX (by kernel_rfl) (fun _ h => h) ?_
      intro z1 hz1
      refine XW.val rfl rfl (fun zw hz => OW.move rfl rfl (OW.nil NX.calm)) ?_
      refine XW.val rfl rfl (fun zw hz => OW.move rfl rfl (OW.nil NX.calm)) ?_
      refine XW.val rfl rfl (fun zw hz => OW.indexAddr rfl el34 rfl rfl (⟨by omega, by omega⟩) (OW.nil NX.calm)) ?_
      refine XW.val rfl rfl (fun zw hz => OW.load1 rfl ct75 rfl (((sgx.frame g1 id).frame hz id).one 0 rfl) (OW.nil NX.calm)) ?_
      refine XW.len rfl el75 rfl ?_
      refine XW.val rfl rfl (fun zw hz => OW.move rfl rfl (OW.nil NX.calm)) ?_
      refine XW.val rfl rfl (fun zw hz => OW.move rfl rfl (OW.nil NX.calm)) ?_
      refine XW.val rfl rfl (fun zw hz => OW.indexAddr rfl el34 rfl rfl (⟨by omega, by omega⟩) (OW.nil NX.calm)) ?_
      refine XW.val rfl rfl (fun zw hz => OW.load1 rfl ct75 rfl (((sgy.frame g1 id).frame hz id).one 0 rfl) (OW.nil NX.calm)) ?_
      refine XW.len rfl el75 rfl ?_
      refine XW.val rfl rfl (fun zw hz => OW.neq rfl rfl rfl (OW.nil NX.calm)) ?_
      refine XW.nil ?_
      refine NX.seq ?_
      refine CW.cond rfl (fun hne => ?_) (fun hne => ?_)
      · refine CW.seq ?_
        refine CW.region ?_
        refine OW.assign rfl rfl ?_
        refine OW.nil ?_
        refine NX.seq ?_
        refine CW.ret ?_
        refine NX.thenRet ?_
        refine NX.blockRet ?_
        refine NX.thenRet ?_
        refine NX.thenRet ?_
        refine NX.blockRet ?_
        refine NX.thenRet ?_
        exact NX.ret1 rfl rfl (⟨bfalse (ne_at hxs hys (ne_len (by omega))), g1.trans hz1⟩)
      · have hll : xs.length = ys.length := by omega
        have g2 := g1.trans hz1
        refine CW.skip ?_
        refine NX.seq ?_
        refine CW.seq ?_
        refine CW.region ?_
        refine OW.assign rfl rfl ?_
        refine OW.nil ?_
        refine NX.seq ?_
        refine CW.block ?_
        refine CW.loop (α := Nat) (fun m => [(0, .slice (some ⟨ba, oa, none⟩) a.length ca), (1, .slice (some ⟨bb, ob, none⟩) b.length cb), (5, .int .i64 ((i : Nat) : Int)), (6, .int .i64 ((m : Nat) : Int))]) (fun m U => m ≤ xs.length ∧ (∀ j, j < m → xs[j]? = ys[j]?) ∧ Fr0 w U) (fun m => xs.length - m) 0 (Sub.cons rfl (Sub.cons rfl (Sub.cons rfl (Sub.cons rfl (Sub.nil _))))) ⟨Nat.zero_le _, fun j h => absurd h (Nat.not_lt_zero _), g2⟩ ?_
        rintro m U2 ⟨hm, hin, g3⟩
        refine CW.seq ?_
        refine CW.seq ?_
        refine CW.region ?_
        refine OW.move rfl rfl ?_
        refine OW.move rfl rfl ?_
        refine OW.move rfl rfl ?_
        refine OW.indexAddr rfl el34 rfl rfl (⟨by omega, by omega⟩) ?_
        refine OW.load1 rfl ct75 rfl ((sgx.frame g3 id).one 0 rfl) ?_
        refine OW.len rfl el75 rfl ?_
        refine OW.lss rfl rfl rfl ?_
        refine OW.nil ?_
        refine NX.seq ?_
        refine CW.cond rfl (fun hlm => ?_) (fun hlm => ?_)
        · have hml : m < xs.length := by omega
          have hml2 : m < ys.length := by omega
          obtain ⟨bx, ox, hpx, hrx⟩ := hxx.at' hml
          subst hpx
          obtain ⟨by', oy, hpy, hry⟩ := hyy.at' hml2
          subst hpy
          obtain ⟨x, hx1⟩ : ∃ x, xs[m]? = some x := ⟨_, List.getElem?_eq_getElem hml⟩
          obtain ⟨y, hy1⟩ : ∃ y, ys[m]? = some y := ⟨_, List.getElem?_eq_getElem hml2⟩
          obtain ⟨_, sx, rfl, hwx⟩ := hrx m x hx1
          obtain ⟨_, sy, rfl, hwy⟩ := hry m y hy1
          refine CW.skip ?_
          refine NX.seq ?_
          refine CW.seq ?_
          refine CW.block ?_
          refine CW.seq ?_
          refine CW.drawX [(0, false), (1, false), (2, false), (3, false), (4, false), (5, false), (6, false), (7, false), (8, false), (9, false), (10, false), (11, false), (12, false), (13, false), (14, false)] (fun z => Fr0 U2 z) MIX (by kernel_rfl) (fun _ h => h) ?_
          intro z2 hz2
          refine XW.val rfl rfl (fun zw hz => OW.move rfl rfl (OW.nil NX.calm)) ?_
          refine XW.val rfl rfl (fun zw hz => OW.move rfl rfl (OW.nil NX.calm)) ?_
          refine XW.val rfl rfl (fun zw hz => OW.indexAddr rfl el34 rfl rfl (⟨by omega, by omega⟩) (OW.nil NX.calm)) ?_
          refine XW.val rfl rfl (fun zw hz => OW.load1 rfl ct75 rfl (((sgx.frame g3 id).frame hz id).one 0 rfl) (OW.nil NX.calm)) ?_
          refine XW.val rfl rfl (fun zw hz => OW.move rfl rfl (OW.nil NX.calm)) ?_
          refine XW.val rfl rfl (fun zw hz => OW.indexAddr rfl el75 rfl rfl (⟨by omega, by omega⟩) (OW.nil NX.calm)) ?_
          refine XW.val rfl rfl (fun zw hz => OW.loadA rfl ag89 rfl (((sx.frame g3 id).frame hz id)) (rfl) (OW.nil NX.calm)) ?_
          refine XW.val rfl rfl (fun zw hz => OW.move rfl rfl (OW.nil NX.calm)) ?_
          refine XW.val rfl rfl (fun zw hz => OW.move rfl rfl (OW.nil NX.calm)) ?_
          refine XW.val rfl rfl (fun zw hz => OW.indexAddr rfl el34 rfl rfl (⟨by omega, by omega⟩) (OW.nil NX.calm)) ?_
          refine XW.val rfl rfl (fun zw hz => OW.load1 rfl ct75 rfl (((sgy.frame g3 id).frame hz id).one 0 rfl) (OW.nil NX.calm)) ?_
          refine XW.val rfl rfl (fun zw hz => OW.move rfl rfl (OW.nil NX.calm)) ?_
          refine XW.val rfl rfl (fun zw hz => OW.indexAddr rfl el75 rfl rfl (⟨by omega, by omega⟩) (OW.nil NX.calm)) ?_
          refine XW.val rfl rfl (fun zw hz => OW.loadA rfl ag89 rfl (((sy.frame g3 id).frame hz id)) (rfl) (OW.nil NX.calm)) ?_
          refine XW.val rfl rfl (fun zw hz => OW.neqA (l := x.lits) (r := y.lits) rfl actFlat eg89 rfl rfl rfl rfl (Actn.lits_wf hwx) (Actn.lits_wf hwy) (OW.nil NX.calm)) ?_
          refine XW.nil ?_
          refine NX.seq ?_
          refine CW.cond rfl (fun hd => ?_) (fun hd => ?_)
          · refine CW.seq ?_
            refine CW.region ?_
            refine OW.assign rfl rfl ?_
            refine OW.nil ?_
            refine NX.seq ?_
            refine CW.ret ?_
            refine NX.blockRet ?_
            refine NX.thenRet ?_
            refine NX.thenRet ?_
            refine NX.blockRet ?_
            refine NX.blockRet ?_
            refine NX.thenRet ?_
            refine NX.thenRet ?_
            refine NX.blockRet ?_
            refine NX.thenRet ?_
            exact NX.ret1 rfl rfl (⟨bfalse (ne_at hxs hys (ne_at hx1 hy1 fun e => hd (by rw [e]))), g3.trans hz2⟩)
          · refine CW.skip ?_
            refine NX.blockN ?_
            refine NX.seq ?_
            refine CW.region ?_
            refine OW.move rfl rfl ?_
            refine OW.add rfl rfl rfl (by omega) ?_
            refine OW.assign rfl rfl ?_
            refine OW.nil ?_
            exact NX.loop (m + 1) ((Sub.cons rfl (Sub.cons rfl (Sub.cons rfl (Sub.cons rfl (Sub.nil _)))))) (⟨by omega, fun j hj => by
                rcases Nat.lt_or_ge j m with c | c
                · exact hin j c
                · obtain rfl : j = m := by omega
                  rw [hx1, hy1, Actn.lits_inj (Decidable.not_not.1 hd)], g3.trans hz2⟩) (by omega)
        · refine CW.exit ?_
          refine NX.thenExit ?_
          refine NX.thenExit ?_
          refine NX.blockEq ?_
          refine NX.blockN ?_
          refine NX.seq ?_
          refine CW.region ?_
          refine OW.move rfl rfl ?_
          refine OW.add rfl rfl rfl (by omega) ?_
          refine OW.assign rfl rfl ?_
          refine OW.nil ?_
          exact NX.loop (i + 1) ((Sub.cons rfl (Sub.cons rfl (Sub.cons rfl (Sub.nil _))))) (⟨by omega, fun j hj => by
              rcases Nat.lt_or_ge j i with c | c
              · exact hall j c
              · obtain rfl : j = i := by omega
                rw [hxs, hys, ext_upto hll fun j hj => hin j (by omega)], g3⟩) (by omega)
    · refine CW.exit ?_
      refine NX.thenExit ?_
      refine NX.thenExit ?_
      refine NX.blockEq ?_
      refine NX.seq ?_
      refine CW.seq ?_
      refine CW.region ?_
      refine OW.assign rfl rfl ?_
      refine OW.nil ?_
      refine NX.seq ?_
      refine CW.ret ?_
      exact NX.ret1 rfl rfl (⟨btrue (ext_upto hl fun j hj => hall j (by omega)), g1⟩)

theorem copies_does {X Y : Nat → Prop} {a b : List (List Actn)} {va vb : Value} (w : World) (hx : SlR 1 cpsR X w va a) (hy : SlR 1 cpsR Y w vb b) : Does Try.prog 129 [va, vb] w fun v w' => v = .bool (decide (a = b)) ∧ Fr0 w w' := by
  obtain ⟨pa, ca, rfl, hla⟩ := hx.shape
  obtain ⟨pb, cb, rfl, hlb⟩ := hy.shape
  refine Does.enter Try.func129 rfl rfl ?_
  show CW _ _ _ _ 53 [] [(0, .slice pa a.length ca), (1, .slice pb b.length cb)] w
  refine CW.seq ?_
  refine CW.region ?_
  refine OW.assign rfl rfl ?_
  refine OW.nil ?_
  refine NX.seq ?_
  refine CW.seq ?_
  refine CW.seq ?_
  refine CW.region ?_
  refine OW.move rfl rfl ?_
  refine OW.len rfl el34 rfl ?_
  refine OW.move rfl rfl ?_
  refine OW.len rfl el34 rfl ?_
  refine OW.neq rfl rfl rfl ?_
  refine OW.nil ?_
  refine NX.seq ?_
  refine CW.cond rfl (fun hl0 => ?_) (fun hl0 => ?_)
  · refine CW.seq ?_
    refine CW.region ?_
    refine OW.assign rfl rfl ?_
    refine OW.nil ?_
    refine NX.seq ?_
    refine CW.ret ?_
    refine NX.thenRet ?_
    exact NX.ret1 rfl rfl (⟨bfalse (ne_len (by omega)), Fr.refl _ _⟩)
  · have hl : a.length = b.length := by omega
    refine CW.skip ?_
    refine NX.seq ?_
    refine CW.seq ?_
    refine CW.seq ?_
    refine CW.region ?_
    refine OW.assign rfl rfl ?_
    refine OW.nil ?_
    refine NX.seq ?_
    refine CW.block ?_
    refine CW.loop (α := Nat) (fun i => [(0, .slice pa a.length ca), (1, .slice pb b.length cb), (5, .int .i64 ((i : Nat) : Int))]) (fun i U => i ≤ a.length ∧ (∀ j, j < i → a[j]? = b[j]?) ∧ Fr0 w U) (fun i => a.length - i) 0 (Sub.cons rfl (Sub.cons rfl (Sub.cons rfl (Sub.nil _)))) ⟨Nat.zero_le _, fun j h => absurd h (Nat.not_lt_zero _), Fr.refl _ _⟩ ?_
    rintro i U1 ⟨hi, hall, g1⟩
    refine CW.seq ?_
    refine CW.seq ?_
    refine CW.region ?_
    refine OW.move rfl rfl ?_
    refine OW.move rfl rfl ?_
    refine OW.len rfl el34 rfl ?_
    refine OW.lss rfl rfl rfl ?_
    refine OW.nil ?_
    refine NX.seq ?_
    refine CW.cond rfl (fun hlt => ?_) (fun hlt => ?_)
    · have hil : i < a.length := by omega
      have hil2 : i < b.length := by omega
      obtain ⟨ba, oa, hpa, hra⟩ := hx.at' hil
      subst hpa
      obtain ⟨bb, ob, hpb, hrb⟩ := hy.at' hil2
      subst hpb
      obtain ⟨xs, hxs⟩ : ∃ xs, a[i]? = some xs := ⟨_, List.getElem?_eq_getElem hil⟩
      obtain ⟨ys, hys⟩ : ∃ ys, b[i]? = some ys := ⟨_, List.getElem?_eq_getElem hil2⟩
      obtain ⟨_, sgx, vx, rfl, hxx⟩ := hra i xs hxs
      obtain ⟨_, sgy, vy, rfl, hyy⟩ := hrb i ys hys
      obtain ⟨px, cx, rfl, hlx⟩ := hxx.shape
      obtain ⟨py, cy, rfl, hly⟩ := hyy.shape
      refine CW.skip ?_
      refine NX.seq ?_
      refine CW.seq ?_
      refine CW.block ?_
      refine CW.seq ?_
      refine CW.seq ?_
      refine CW.drawX [(0, false), (1, false), (2, false), (3, false), (4, false), (5, false), (6, false), (7, false), (8, false), (9, false), (10, false)] (fun z => Fr0 U1 z) MIX (by kernel_rfl) (fun _ h => h) ?_
      intro z1 hz1
      refine XW.val rfl rfl (fun zw hz => OW.move rfl rfl (OW.nil NX.calm)) ?_
      refine XW.val rfl rfl (fun zw hz => OW.move rfl rfl (OW.nil NX.calm)) ?_
      refine XW.val rfl rfl (fun zw hz => OW.indexAddr rfl el34 rfl rfl (⟨by omega, by omega⟩) (OW.nil NX.calm)) ?_
      refine XW.val rfl rfl (fun zw hz => OW.load1 rfl ct75 rfl (((sgx.frame g1 id).frame hz id).one 0 rfl) (OW.nil NX.calm)) ?_
      refine XW.len rfl el75 rfl ?_
      refine XW.val rfl rfl (fun zw hz => OW.move rfl rfl (OW.nil NX.calm)) ?_
      refine XW.val rfl rfl (fun zw hz => OW.move rfl rfl (OW.nil NX.calm)) ?_
      refine XW.val rfl rfl (fun zw hz => OW.indexAddr rfl el34 rfl rfl (⟨by omega, by omega⟩) (OW.nil NX.calm)) ?_
      refine XW.val rfl rfl (fun zw hz => OW.load1 rfl ct75 rfl (((sgy.frame g1 id).frame hz id).one 0 rfl) (OW.nil NX.calm)) ?_
      refine XW.len rfl el75 rfl ?_
      refine XW.val rfl rfl (fun zw hz => OW.neq rfl rfl rfl (OW.nil NX.calm)) ?_
      refine XW.nil ?_
      refine NX.seq ?_
      refine CW.cond rfl (fun hne => ?_) (fun hne => ?_)
      · refine CW.seq ?_
        refine CW.region ?_
        refine OW.assign rfl rfl ?_
        refine OW.nil ?_
        refine NX.seq ?_
        refine CW.ret ?_
        refine NX.thenRet ?_
        refine NX.blockRet ?_
        refine NX.thenRet ?_
        refine NX.thenRet ?_
        refine NX.blockRet ?_
        refine NX.thenRet ?_
        exact NX.ret1 rfl rfl (⟨bfalse (ne_at hxs hys (ne_len (by omega))), g1.trans hz1⟩)
      · have hll : xs.length = ys.length := by omega
        have g2 := g1.trans hz1
        refine CW.skip ?_
        refine NX.seq ?_
        refine CW.seq ?_
        refine CW.region ?_
        refine OW.assign rfl rfl ?_
        refine OW.nil ?_
        refine NX.seq ?_
        refine CW.block ?_
        refine CW.loop (α := Nat) (fun m => [(0, .slice (some ⟨ba, oa, none⟩) a.length ca), (1, .slice (some ⟨bb, ob, none⟩) b.length cb), (5, .int .i64 ((i : Nat) : Int)), (6, .int .i64 ((m : Nat) : Int))]) (fun m U => m ≤ xs.length ∧ (∀ j, j < m → xs[j]? = ys[j]?) ∧ Fr0 w U) (fun m => xs.length - m) 0 (Sub.cons rfl (Sub.cons rfl (Sub.cons rfl (Sub.cons rfl (Sub.nil _))))) ⟨Nat.zero_le _, fun j h => absurd h (Nat.not_lt_zero _), g2⟩ ?_
        rintro m U2 ⟨hm, hin, g3⟩
        refine CW.seq ?_
        refine CW.seq ?_
        refine CW.region ?_
        refine OW.move rfl rfl ?_
        refine OW.move rfl rfl ?_
        refine OW.move rfl rfl ?_
        refine OW.indexAddr rfl el34 rfl rfl (⟨by omega, by omega⟩) ?_
        refine OW.load1 rfl ct75 rfl ((sgx.frame g3 id).one 0 rfl) ?_
        refine OW.len rfl el75 rfl ?_
        refine OW.lss rfl rfl rfl ?_
        refine OW.nil ?_
        refine NX.seq ?_
        refine CW.cond rfl (fun hlm => ?_) (fun hlm => ?_)
        · have hml : m < xs.length := by omega
          have hml2 : m < ys.length := by omega
          obtain ⟨bx, ox, hpx, hrx⟩ := hxx.at' hml
          subst hpx
          obtain ⟨by', oy, hpy, hry⟩ := hyy.at' hml2
          subst hpy
          obtain ⟨x, hx1⟩ : ∃ x, xs[m]? = some x := ⟨_, List.getElem?_eq_getElem hml⟩
          obtain ⟨y, hy1⟩ : ∃ y, ys[m]? = some y := ⟨_, List.getElem?_eq_getElem hml2⟩
          obtain ⟨_, sx, rfl, hwx⟩ := hrx m x hx1
          obtain ⟨_, sy, rfl, hwy⟩ := hry m y hy1
          refine CW.skip ?_
          refine NX.seq ?_
          refine CW.seq ?_
          refine CW.block ?_
          refine CW.seq ?_
          refine CW.drawX [(0, false), (1, false), (2, false), (3, false), (4, false), (5, false), (6, false), (7, false), (8, false), (9, false), (10, false), (11, false), (12, false), (13, false), (14, false)] (fun z => Fr0 U2 z) MIX (by kernel_rfl) (fun _ h => h) ?_
          intro z2 hz2
          refine XW.val rfl rfl (fun zw hz => OW.move rfl rfl (OW.nil NX.calm)) ?_
          refine XW.val rfl rfl (fun zw hz => OW.move rfl rfl (OW.nil NX.calm)) ?_
          refine XW.val rfl rfl (fun zw hz => OW.indexAddr rfl el34 rfl rfl (⟨by omega, by omega⟩) (OW.nil NX.calm)) ?_
          refine XW.val rfl rfl (fun zw hz => OW.load1 rfl ct75 rfl (((sgx.frame g3 id).frame hz id).one 0 rfl) (OW.nil NX.calm)) ?_
          refine XW.val rfl rfl (fun zw hz => OW.move rfl rfl (OW.nil NX.calm)) ?_
          refine XW.val rfl rfl (fun zw hz => OW.indexAddr rfl el75 rfl rfl (⟨by omega, by omega⟩) (OW.nil NX.calm)) ?_
          refine XW.val rfl rfl (fun zw hz => OW.loadA rfl ag89 rfl (((sx.frame g3 id).frame hz id)) (rfl) (OW.nil NX.calm)) ?_
          refine XW.val rfl rfl (fun zw hz => OW.move rfl rfl (OW.nil NX.calm)) ?_
          refine XW.val rfl rfl (fun zw hz => OW.move rfl rfl (OW.nil NX.calm)) ?_
          refine XW.val rfl rfl (fun zw hz => OW.indexAddr rfl el34 rfl rfl (⟨by omega, by omega⟩) (OW.nil NX.calm)) ?_
          refine XW.val rfl rfl (fun zw hz => OW.load1 rfl ct75 rfl (((sgy.frame g3 id).frame hz id).one 0 rfl) (OW.nil NX.calm)) ?_
          refine XW.val rfl rfl (fun zw hz => OW.move rfl rfl (OW.nil NX.calm)) ?_
          refine XW.val rfl rfl (fun zw hz => OW.indexAddr rfl el75 rfl rfl (⟨by omega, by omega⟩) (OW.nil NX.calm)) ?_
          refine XW.val rfl rfl (fun zw hz => OW.loadA rfl ag89 rfl (((sy.frame g3 id).frame hz id)) (rfl) (OW.nil NX.calm)) ?_
          refine XW.val rfl rfl (fun zw hz => OW.neqA (l := x.lits) (r := y.lits) rfl actFlat eg89 rfl rfl rfl rfl (Actn.lits_wf hwx) (Actn.lits_wf hwy) (OW.nil NX.calm)) ?_
          refine XW.nil ?_
          refine NX.seq ?_
          refine CW.cond rfl (fun hd => ?_) (fun hd => ?_)
          · refine CW.seq ?_
            refine CW.region ?_
            refine OW.assign rfl rfl ?_
            refine OW.nil ?_
            refine NX.seq ?_
            refine CW.ret ?_
            refine NX.blockRet ?_
            refine NX.thenRet ?_
            refine NX.thenRet ?_
            refine NX.blockRet ?_
            refine NX.blockRet ?_
            refine NX.thenRet ?_
            refine NX.thenRet ?_
            refine NX.blockRet ?_
            refine NX.thenRet ?_
            exact NX.ret1 rfl rfl (⟨bfalse (ne_at hxs hys (ne_at hx1 hy1 fun e => hd (by rw [e]))), g3.trans hz2⟩)
          · refine CW.skip ?_
            refine NX.blockN ?_
            refine NX.seq ?_
            refine CW.region ?_
            refine OW.move rfl rfl ?_
            refine OW.add rfl rfl rfl (by omega) ?_
            refine OW.assign rfl rfl ?_
            refine OW.nil ?_
            exact NX.loop (m + 1) ((Sub.cons rfl (Sub.cons rfl (Sub.cons rfl (Sub.cons rfl (Sub.nil _)))))) (⟨by omega, fun j hj => by
                rcases Nat.lt_or_ge j m with c | c
                · exact hin j c
                · obtain rfl : j = m := by omega
                  rw [hx1, hy1, Actn.lits_inj (Decidable.not_not.1 hd)], g3.trans hz2⟩) (by omega)
        · refine CW.exit ?_
          refine NX.thenExit ?_
          refine NX.thenExit ?_
          refine NX.blockEq ?_
          refine NX.blockN ?_
          refine NX.seq ?_
          refine CW.region ?_
          refine OW.move rfl rfl ?_
          refine OW.add rfl rfl rfl (by omega) ?_
          refine OW.assign rfl rfl ?_
          refine OW.nil ?_
          exact NX.loop (i + 1) ((Sub.cons rfl (Sub.cons rfl (Sub.cons rfl (Sub.nil _))))) (⟨by omega, fun j hj => by
              rcases Nat.lt_or_ge j i with c | c
              · exact hall j c
              · obtain rfl : j = i := by omega
                rw [hxs, hys, ext_upto hll fun j hj => hin j (by omega)], g3⟩) (by omega)
    · refine CW.exit ?_
      refine NX.thenExit ?_
      refine NX.thenExit ?_
      refine NX.blockEq ?_
      refine NX.seq ?_
      refine CW.seq ?_
      refine CW.region ?_
      refine OW.assign rfl rfl ?_
      refine OW.nil ?_
      refine NX.seq ?_
      refine CW.ret ?_
      exact NX.ret1 rfl rfl (⟨btrue (ext_upto hl fun j hj => hall j (by omega)), g1⟩)

theorem place_does {X Y : Nat → Prop} {a b : Rule} {ca cb : List Value} (w : World) (ha : ruleR X w ca a) (hb : ruleR Y w cb b) : Does Try.prog 46 [.agg ca.toArray, .agg cb.toArray] w fun v w' => v = .bool (decide (plOf a = plOf b)) ∧ Fr0 w w' := by
  obtain ⟨cva, rfl, hcpa, hwa⟩ := ha
  obtain ⟨cvb, rfl, hcpb, hwb⟩ := hb
  refine Does.enter Try.func46 rfl rfl ?_
  show CW _ _ _ _ 17 [] [(0, .agg (ruleCells a.rank a.mat cva a.cookie).toArray), (1, .agg (ruleCells b.rank b.mat cvb b.cookie).toArray)] w
  refine CW.seq ?_
  refine CW.region ?_
  refine OW.boxA rfl rfl ?_
  intro b1 w1 n1
  refine OW.boxA rfl rfl ?_
  intro b2 w2 n2
  have e1 : Bk w2 b1 36 (ruleCells a.rank a.mat cva a.cookie) := n1.bk.frame n2.fr id
  have e2 : Bk w2 b2 36 (ruleCells b.rank b.mat cvb b.cookie) := n2.bk
  have f2 : Fr0 w w2 := n1.fr.trans n2.fr
  refine OW.assign rfl rfl ?_
  refine OW.nil ?_
  refine NX.seq ?_
  refine CW.seq ?_
  refine CW.region ?_
  refine OW.fieldAddr rfl fo36_0 rfl ?_
  refine OW.load1 rfl ct3 rfl (e1.cell (o := 0) rfl) ?_
  refine OW.fieldAddr rfl fo36_0 rfl ?_
  refine OW.load1 rfl ct3 rfl (e2.cell (o := 0) rfl) ?_
  refine OW.eql rfl rfl rfl ?_
  refine OW.move rfl rfl ?_
  refine OW.ways (s := 10) rfl (fun hrank => ?_) (fun hrank => ?_)
  · refine OW.gyes rfl rfl ?_
    refine OW.fieldAddr rfl fo36_1 rfl ?_
    refine OW.gyes rfl rfl ?_
    refine OW.loadA rfl ag33 rfl (e1.segAt 1 a.mat.cells (fun j v e => Dg.ruleCells_mat j v e)) (rfl) ?_
    refine OW.gyes rfl rfl ?_
    refine OW.fieldAddr rfl fo36_1 rfl ?_
    refine OW.gyes rfl rfl ?_
    refine OW.loadA rfl ag33 rfl (e2.segAt 1 b.mat.cells (fun j v e => Dg.ruleCells_mat j v e)) (rfl) ?_
    refine OW.gyes rfl rfl ?_
    refine OW.eqlA (l := a.mat.lits) (r := b.mat.lits) rfl matFlat eg33 rfl rfl rfl rfl (Mat.lits_wf hwa.2.2.1) (Mat.lits_wf hwb.2.2.1) ?_
    refine OW.pickT rfl rfl rfl ?_
    refine OW.assign rfl rfl ?_
    refine OW.nil ?_
    refine NX.seq ?_
    refine CW.ret ?_
    exact NX.ret1 rfl rfl (⟨congrArg Value.bool (decide_eq_decide.2 ⟨fun h => by simp only [plOf, Pl.mk.injEq]; exact ⟨hrank, Mat.lits_inj h⟩, fun h => by rw [show a.mat = b.mat from congrArg Pl.mat h]⟩), f2⟩)
  · refine OW.gnoD rfl rfl rfl rfl ?_
    refine OW.gnoD rfl rfl rfl rfl ?_
    refine OW.gnoD rfl rfl rfl rfl ?_
    refine OW.gnoD rfl rfl rfl rfl ?_
    refine OW.gnoD rfl rfl rfl rfl ?_
    refine OW.pickF rfl rfl rfl ?_
    refine OW.assign rfl rfl ?_
    refine OW.nil ?_
    refine NX.seq ?_
    refine CW.ret ?_
    exact NX.ret1 rfl rfl (⟨bfalse fun e => hrank (congrArg Pl.rank e), f2⟩)

theorem rule_ext {a b : Rule} (h1 : a.rank = b.rank) (h2 : a.mat = b.mat) (h3 : a.cookie = b.cookie) (h4 : a.cps = b.cps) : a = b := by cases a; cases b; simp_all

theorem rules_does {X Y : Nat → Prop} {a b : Rule} {ca cb : List Value} (w : World) (ha : ruleR X w ca a) (hb : ruleR Y w cb b) : Does Try.prog 79 [.agg ca.toArray, .agg cb.toArray] w fun v w' => v = .bool (decide (a = b)) ∧ Fr0 w w' := by
  obtain ⟨cva, rfl, hcpa, hwa⟩ := ha
  obtain ⟨cvb, rfl, hcpb, hwb⟩ := hb
  refine Does.enter Try.func79 rfl rfl ?_
  show CW _ _ _ _ 31 [] [(0, .agg (ruleCells a.rank a.mat cva a.cookie).toArray), (1, .agg (ruleCells b.rank b.mat cvb b.cookie).toArray)] w
  refine CW.seq ?_
  refine CW.region ?_
  refine OW.boxA rfl rfl ?_
  intro b1 w1 n1
  refine OW.boxA rfl rfl ?_
  intro b2 w2 n2
  have e1 : Bk w2 b1 36 (ruleCells a.rank a.mat cva a.cookie) := n1.bk.frame n2.fr id
  have e2 : Bk w2 b2 36 (ruleCells b.rank b.mat cvb b.cookie) := n2.bk
  have f2 : Fr0 w w2 := n1.fr.trans n2.fr
  refine OW.assign rfl rfl ?_
  refine OW.nil ?_
  refine NX.seq ?_
  refine CW.seq ?_
  refine CW.region ?_
  refine OW.fieldAddr rfl fo36_0 rfl ?_
  refine OW.load1 rfl ct3 rfl (e1.cell (o := 0) rfl) ?_
  refine OW.fieldAddr rfl fo36_0 rfl ?_
  refine OW.load1 rfl ct3 rfl (e2.cell (o := 0) rfl) ?_
  refine OW.eql rfl rfl rfl ?_
  refine OW.move rfl rfl ?_
  refine OW.ways (s := 10) rfl (fun hrank => ?_) (fun hrank => ?_)
  · refine OW.gyes rfl rfl ?_
    refine OW.fieldAddr rfl fo36_1 rfl ?_
    refine OW.gyes rfl rfl ?_
    refine OW.loadA rfl ag33 rfl (e1.segAt 1 a.mat.cells (fun j v e => Dg.ruleCells_mat j v e)) (rfl) ?_
    refine OW.gyes rfl rfl ?_
    refine OW.fieldAddr rfl fo36_1 rfl ?_
    refine OW.gyes rfl rfl ?_
    refine OW.loadA rfl ag33 rfl (e2.segAt 1 b.mat.cells (fun j v e => Dg.ruleCells_mat j v e)) (rfl) ?_
    refine OW.gyes rfl rfl ?_
    refine OW.eqlA (l := a.mat.lits) (r := b.mat.lits) rfl matFlat eg33 rfl rfl rfl rfl (Mat.lits_wf hwa.2.2.1) (Mat.lits_wf hwb.2.2.1) ?_
    refine OW.pickT rfl rfl rfl ?_
    refine OW.move rfl rfl ?_
    refine OW.ways (s := 17) rfl (fun hmat => ?_) (fun hmat => ?_)
    · refine OW.gyes rfl rfl ?_
      refine OW.fieldAddr rfl fo36_3 rfl ?_
      refine OW.gyes rfl rfl ?_
      refine OW.load1 rfl ct29 rfl (e1.cell (o := 24) rfl) ?_
      refine OW.gyes rfl rfl ?_
      refine OW.fieldAddr rfl fo36_3 rfl ?_
      refine OW.gyes rfl rfl ?_
      refine OW.load1 rfl ct29 rfl (e2.cell (o := 24) rfl) ?_
      refine OW.gyes rfl rfl ?_
      refine OW.eql rfl rfl rfl ?_
      refine OW.pickT rfl rfl rfl ?_
      refine OW.move rfl rfl ?_
      refine OW.ways (s := 24) rfl (fun hcookie => ?_) (fun hcookie => ?_)
      · refine OW.gyes rfl rfl ?_
        refine OW.fieldAddr rfl fo36_2 rfl ?_
        refine OW.gyes rfl rfl ?_
        refine OW.load1 rfl ct34 rfl (e1.cell (o := 23) rfl) ?_
        refine OW.gyes rfl rfl ?_
        refine OW.fieldAddr rfl fo36_2 rfl ?_
        refine OW.gyes rfl rfl ?_
        refine OW.load1 rfl ct34 rfl (e2.cell (o := 23) rfl) ?_
        refine OW.gyes rfl rfl ?_
        refine OW.call rfl rfl cl129 (copies_does w2 (hcpa.frame cpsR_ok f2 (fun _ _ h => h)) (hcpb.frame cpsR_ok f2 (fun _ _ h => h))) ?_
        rintro _ w3 ⟨rfl, f3⟩
        refine OW.pickT rfl rfl rfl ?_
        refine OW.assign rfl rfl ?_
        refine OW.nil ?_
        refine NX.seq ?_
        refine CW.ret ?_
        exact NX.ret1 rfl rfl (⟨congrArg Value.bool (decide_eq_decide.2 ⟨fun h => rule_ext hrank (Mat.lits_inj hmat) (by omega) h, fun h => by rw [h]⟩), f2.trans f3⟩)
      · refine OW.gnoD rfl rfl rfl rfl ?_
        refine OW.gnoD rfl rfl rfl rfl ?_
        refine OW.gnoD rfl rfl rfl rfl ?_
        refine OW.gnoD rfl rfl rfl rfl ?_
        refine OW.gnoD rfl rfl rfl rfl ?_
        refine OW.pickF rfl rfl rfl ?_
        refine OW.assign rfl rfl ?_
        refine OW.nil ?_
        refine NX.seq ?_
        refine CW.ret ?_
        exact NX.ret1 rfl rfl (⟨bfalse fun e => hcookie (by rw [e]), f2⟩)
    · refine OW.gnoD rfl rfl rfl rfl ?_
      refine OW.gnoD rfl rfl rfl rfl ?_
      refine OW.gnoD rfl rfl rfl rfl ?_
      refine OW.gnoD rfl rfl rfl rfl ?_
      refine OW.gnoD rfl rfl rfl rfl ?_
      refine OW.pickF rfl rfl rfl ?_
      refine OW.move rfl rfl ?_
      refine OW.gnoD rfl rfl rfl rfl ?_
      refine OW.gnoD rfl rfl rfl rfl ?_
      refine OW.gnoD rfl rfl rfl rfl ?_
      refine OW.gnoD rfl rfl rfl rfl ?_
      refine OW.gnoD rfl rfl rfl rfl ?_
      refine OW.pickF rfl rfl rfl ?_
      refine OW.assign rfl rfl ?_
      refine OW.nil ?_
      refine NX.seq ?_
      refine CW.ret ?_
      exact NX.ret1 rfl rfl (⟨bfalse fun e => hmat (by rw [e]), f2⟩)
  · refine OW.gnoD rfl rfl rfl rfl ?_
    refine OW.gnoD rfl rfl rfl rfl ?_
    refine OW.gnoD rfl rfl rfl rfl ?_
    refine OW.gnoD rfl rfl rfl rfl ?_
    refine OW.gnoD rfl rfl rfl rfl ?_
    refine OW.pickF rfl rfl rfl ?_
    refine OW.move rfl rfl ?_
    refine OW.gnoD rfl rfl rfl rfl ?_
    refine OW.gnoD rfl rfl rfl rfl ?_
    refine OW.gnoD rfl rfl rfl rfl ?_
    refine OW.gnoD rfl rfl rfl rfl ?_
    refine OW.gnoD rfl rfl rfl rfl ?_
    refine OW.pickF rfl rfl rfl ?_
    refine OW.move rfl rfl ?_
    refine OW.gnoD rfl rfl rfl rfl ?_
    refine OW.gnoD rfl rfl rfl rfl ?_
    refine OW.gnoD rfl rfl rfl rfl ?_
    refine OW.gnoD rfl rfl rfl rfl ?_
    refine OW.gnoD rfl rfl rfl rfl ?_
    refine OW.pickF rfl rfl rfl ?_
    refine OW.assign rfl rfl ?_
    refine OW.nil ?_
    refine NX.seq ?_
    refine CW.ret ?_
    exact NX.ret1 rfl rfl (⟨bfalse fun e => hrank (by rw [e]), f2⟩)

theorem alike_does {X Y : Nat → Prop} {a b : Rule} {ca cb : List Value} (w : World) (ha : ruleR X w ca a) (hb : ruleR Y w cb b) : Does Try.prog 47 [.agg ca.toArray, .agg cb.toArray] w fun v w' => v = .bool (decide (a = b)) ∧ Fr0 w w' := by
  obtain ⟨cva, rfl, hcpa, hwa⟩ := ha
  obtain ⟨cvb, rfl, hcpb, hwb⟩ := hb
  refine Does.enter Try.func47 rfl rfl ?_
  show CW _ _ _ _ 22 [] [(0, .agg (ruleCells a.rank a.mat cva a.cookie).toArray), (1, .agg (ruleCells b.rank b.mat cvb b.cookie).toArray)] w
  refine CW.seq ?_
  refine CW.region ?_
  refine OW.boxA rfl rfl ?_
  intro b1 w1 n1
  refine OW.boxA rfl rfl ?_
  intro b2 w2 n2
  have e1 : Bk w2 b1 36 (ruleCells a.rank a.mat cva a.cookie) := n1.bk.frame n2.fr id
  have e2 : Bk w2 b2 36 (ruleCells b.rank b.mat cvb b.cookie) := n2.bk
  have f2 : Fr0 w w2 := n1.fr.trans n2.fr
  refine OW.assign rfl rfl ?_
  refine OW.nil ?_
  refine NX.seq ?_
  refine CW.seq ?_
  refine CW.region ?_
  refine OW.loadA rfl ag36 rfl (e1.seg) (rfl) ?_
  refine OW.loadA rfl ag36 rfl (e2.seg) (rfl) ?_
  refine OW.call rfl rfl cl46 (place_does w2 ⟨_, rfl, hcpa.frame cpsR_ok f2 (fun _ _ h => h), hwa⟩ ⟨_, rfl, hcpb.frame cpsR_ok f2 (fun _ _ h => h), hwb⟩) ?_
  rintro _ w3 ⟨rfl, f3⟩
  have f2 := f2.trans f3
  replace e1 := e1.frame f3 id
  replace e2 := e2.frame f3 id
  obtain ⟨w2, hw2⟩ : ∃ w2, w2 = w3 := ⟨_, rfl⟩
  subst hw2
  refine OW.move rfl rfl ?_
  refine OW.ways (s := 8) rfl (fun hplace => ?_) (fun hplace => ?_)
  · refine OW.gyes rfl rfl ?_
    refine OW.fieldAddr rfl fo36_3 rfl ?_
    refine OW.gyes rfl rfl ?_
    refine OW.load1 rfl ct29 rfl (e1.cell (o := 24) rfl) ?_
    refine OW.gyes rfl rfl ?_
    refine OW.fieldAddr rfl fo36_3 rfl ?_
    refine OW.gyes rfl rfl ?_
    refine OW.load1 rfl ct29 rfl (e2.cell (o := 24) rfl) ?_
    refine OW.gyes rfl rfl ?_
    refine OW.eql rfl rfl rfl ?_
    refine OW.pickT rfl rfl rfl ?_
    refine OW.move rfl rfl ?_
    refine OW.ways (s := 15) rfl (fun hcookie => ?_) (fun hcookie => ?_)
    · refine OW.gyes rfl rfl ?_
      refine OW.fieldAddr rfl fo36_2 rfl ?_
      refine OW.gyes rfl rfl ?_
      refine OW.load1 rfl ct34 rfl (e1.cell (o := 23) rfl) ?_
      refine OW.gyes rfl rfl ?_
      refine OW.fieldAddr rfl fo36_2 rfl ?_
      refine OW.gyes rfl rfl ?_
      refine OW.load1 rfl ct34 rfl (e2.cell (o := 23) rfl) ?_
      refine OW.gyes rfl rfl ?_
      refine OW.call rfl rfl cl88 (same_does w2 (hcpa.frame cpsR_ok f2 (fun _ _ h => h)) (hcpb.frame cpsR_ok f2 (fun _ _ h => h))) ?_
      rintro _ w3 ⟨rfl, f3⟩
      refine OW.pickT rfl rfl rfl ?_
      refine OW.assign rfl rfl ?_
      refine OW.nil ?_
      refine NX.seq ?_
      refine CW.ret ?_
      exact NX.ret1 rfl rfl (⟨congrArg Value.bool (decide_eq_decide.2 ⟨fun h => rule_ext (congrArg Pl.rank hplace) (congrArg Pl.mat hplace) (by omega) h, fun h => by rw [h]⟩), f2.trans f3⟩)
    · refine OW.gnoD rfl rfl rfl rfl ?_
      refine OW.gnoD rfl rfl rfl rfl ?_
      refine OW.gnoD rfl rfl rfl rfl ?_
      refine OW.gnoD rfl rfl rfl rfl ?_
      refine OW.gnoD rfl rfl rfl rfl ?_
      refine OW.pickF rfl rfl rfl ?_
      refine OW.assign rfl rfl ?_
      refine OW.nil ?_
      refine NX.seq ?_
      refine CW.ret ?_
      exact NX.ret1 rfl rfl (⟨bfalse fun e => hcookie (by rw [e]), f2⟩)
  · refine OW.gnoD rfl rfl rfl rfl ?_
    refine OW.gnoD rfl rfl rfl rfl ?_
    refine OW.gnoD rfl rfl rfl rfl ?_
    refine OW.gnoD rfl rfl rfl rfl ?_
    refine OW.gnoD rfl rfl rfl rfl ?_
    refine OW.pickF rfl rfl rfl ?_
    refine OW.move rfl rfl ?_
    refine OW.gnoD rfl rfl rfl rfl ?_
    refine OW.gnoD rfl rfl rfl rfl ?_
    refine OW.gnoD rfl rfl rfl rfl ?_
    refine OW.gnoD rfl rfl rfl rfl ?_
    refine OW.gnoD rfl rfl rfl rfl ?_
    refine OW.pickF rfl rfl rfl ?_
    refine OW.assign rfl rfl ?_
    refine OW.nil ?_
    refine NX.seq ?_
    refine CW.ret ?_
    exact NX.ret1 rfl rfl (⟨bfalse fun e => hplace (by rw [e]), f2⟩)

end Go.Eng.Dq
