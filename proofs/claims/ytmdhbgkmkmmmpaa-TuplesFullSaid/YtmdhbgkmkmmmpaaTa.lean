/-
  Matches, stepped through.
  No condition.
-/
import Derived.Test.YtmdhbgkmkmmmpaaMat
import Derived.Test.YtmdhbgkmkmmmpaaProg
import Derived.KernelRfl
namespace Go.Eng.Ta
open Go Go.Eng Go.Proofs
theorem MIX : Try.prog.follows .mixedOrders = true := by kernel_rfl

theorem ag31 : aggSz Try.prog 31 = some 11 := by kernel_rfl
theorem ag33 : aggSz Try.prog 33 = some 22 := by kernel_rfl
theorem ar31 : arrIs Try.prog 31 = some (11, 29, 1) := by kernel_rfl
theorem cl122 : callable Try.prog 122 = true := by kernel_rfl
theorem cl127 : callable Try.prog 127 = true := by kernel_rfl
theorem cl63 : callable Try.prog 63 = true := by kernel_rfl
theorem cl72 : callable Try.prog 72 = true := by kernel_rfl
theorem ct29 : cellTy Try.prog 29 = true := by kernel_rfl
theorem fo33_0 : fieldOff Try.prog 33 0 = some 0 := by kernel_rfl
theorem fo33_1 : fieldOff Try.prog 33 1 = some 11 := by kernel_rfl
theorem in101 : Try.prog.underlying 101 = some (.int .u64) := by kernel_rfl
theorem in38 : Try.prog.underlying 38 = some (.int .i8) := by kernel_rfl
theorem un3 : (Try.prog.underlying 3).isSome = true := by kernel_rfl

theorem widthS_nn (a : Int) : 0 ≤ widthS a ∧ widthS a < 64 := by
  unfold widthS
  split
  · omega
  · rename_i h
    have : a = 0 ∨ a = 1 ∨ a = 2 ∨ a = 3 ∨ a = 4 ∨ a = 5 ∨ a = 6 ∨ a = 7 ∨ a = 8 ∨ a = 9 ∨ a = 10 := by omega
    rcases this with rfl | rfl | rfl | rfl | rfl | rfl | rfl | rfl | rfl | rfl | rfl <;> decide
theorem mapE {c : Bool} {a b : Value} (h : c = true) : a = if c = true then a else b := by rw [if_pos h]
theorem mapN {c : Bool} {a b : Value} (h : c = false) : b = if c = true then a else b := by rw [h]; rfl

theorem mask_in {m : Mat} (j : Nat) (v : Value) (h : m.mask.cells[j]? = some v) : m.cells[11 + j]? = some v := by
  unfold Mat.cells
  rw [List.getElem?_append_right (by show 11 ≤ 11 + j; omega), show 11 + j - m.val.cells.length = j by show 11 + j - 11 = j; omega]
  exact h
theorem val_in {m : Mat} (j : Nat) (v : Value) (h : m.val.cells[j]? = some v) : m.cells[0 + j]? = some v := by
  unfold Mat.cells
  rw [Nat.zero_add, List.getElem?_append_left]
  · exact h
  · rcases Nat.lt_or_ge j m.val.cells.length with c | c
    · exact c
    · rw [List.getElem?_eq_none c] at h; cases h

theorem refHit_n {m : Mat} {h : Hdr} {i : Nat} (hd : band (h.at i : Nat) (m.mask.at i : Nat) ≠ ((m.val.at i : Nat) : Int)) : hitAt m h i = false := by
  unfold hitAt; unfold band at hd; simp only [Int.toNat_natCast] at hd
  exact decide_eq_false fun e => hd (by rw [e])
theorem refHit_y {m : Mat} {h : Hdr} {i : Nat} (hd : ¬ band (h.at i : Nat) (m.mask.at i : Nat) ≠ ((m.val.at i : Nat) : Int)) : hitAt m h i = true := by
  have hd := Decidable.not_not.1 hd
  unfold hitAt; unfold band at hd; simp only [Int.toNat_natCast] at hd
  exact decide_eq_true (by omega)
theorem bxor_bnd {a b : Hdr} (ha : a.wf) (hb : b.wf) {i : Nat} : 0 ≤ bxor (a.at i : Nat) (b.at i : Nat) ∧ bxor (a.at i : Nat) (b.at i : Nat) < 18446744073709551616 := by
  unfold bxor
  simp only [Int.toNat_natCast]
  have := Nat.xor_lt_two_pow (n := 64) (x := a.at i) (y := b.at i) (Hdr.at_lt ha i) (Hdr.at_lt hb i)
  exact ⟨by omega, by omega⟩

theorem refWidth_does {a : Int} (h0 : 0 ≤ a) (hn : a < 11) (w : World) : Does Try.prog 127 [.int .i8 a] w fun v w' => v = .int .i64 (widthS a) ∧ w' = w := by
  refine Does.enter Try.func127 rfl rfl ?_
  show CW _ _ _ _ 20 [] [(0, .int .i8 a)] w
  refine CW.seq ?_
  refine CW.region ?_
  refine OW.assign rfl rfl ?_
  refine OW.nil ?_
  refine NX.seq ?_
  refine CW.seq ?_
  refine CW.seq ?_
  refine CW.region ?_
  refine OW.move rfl rfl ?_
  refine OW.nil ?_
  refine NX.seq ?_
  refine CW.block ?_
  refine CW.seq ?_
  refine CW.seq ?_
  refine CW.region ?_
  refine OW.eql rfl rfl rfl ?_
  refine OW.assign rfl rfl ?_
  refine OW.nil ?_
  refine NX.seq ?_
  refine CW.cond rfl (fun h0 => ?_) (fun h0 => ?_)
  · refine CW.slot (s := 4) rfl (show _ = Value.bool true from congrArg Value.bool (decide_eq_true h0)) ?_
    refine CW.skip ?_
    refine NX.seq ?_
    refine CW.condT rfl ?_
    refine CW.seq ?_
    refine CW.region ?_
    refine OW.assign rfl rfl ?_
    refine OW.nil ?_
    refine NX.seq ?_
    refine CW.ret ?_
    refine NX.blockRet ?_
    refine NX.thenRet ?_
    exact NX.ret1 rfl rfl (⟨by rw [h0]; rfl, rfl⟩)
  · refine CW.slot (s := 4) rfl (show _ = Value.bool false from congrArg Value.bool (decide_eq_false h0)) ?_
    refine CW.region ?_
    refine OW.eql rfl rfl rfl ?_
    refine OW.assign rfl rfl ?_
    refine OW.nil ?_
    refine NX.seq ?_
    refine CW.cond rfl (fun h1 => ?_) (fun h1 => ?_)
    · refine CW.slot (s := 4) rfl (show _ = Value.bool true from congrArg Value.bool (decide_eq_true h1)) ?_
      refine CW.seq ?_
      refine CW.region ?_
      refine OW.assign rfl rfl ?_
      refine OW.nil ?_
      refine NX.seq ?_
      refine CW.ret ?_
      refine NX.blockRet ?_
      refine NX.thenRet ?_
      exact NX.ret1 rfl rfl (⟨by rw [h1]; rfl, rfl⟩)
    · refine CW.slot (s := 4) rfl (show _ = Value.bool false from congrArg Value.bool (decide_eq_false h1)) ?_
      refine CW.seq ?_
      refine CW.seq ?_
      refine CW.region ?_
      refine OW.eql rfl rfl rfl ?_
      refine OW.assign rfl rfl ?_
      refine OW.nil ?_
      refine NX.seq ?_
      refine CW.cond rfl (fun h2 => ?_) (fun h2 => ?_)
      · refine CW.slot (s := 7) rfl (show _ = Value.bool true from congrArg Value.bool (decide_eq_true h2)) ?_
        refine CW.skip ?_
        refine NX.seq ?_
        refine CW.condT rfl ?_
        refine CW.seq ?_
        refine CW.region ?_
        refine OW.assign rfl rfl ?_
        refine OW.nil ?_
        refine NX.seq ?_
        refine CW.ret ?_
        refine NX.blockRet ?_
        refine NX.thenRet ?_
        exact NX.ret1 rfl rfl (⟨by rw [h2]; rfl, rfl⟩)
      · refine CW.slot (s := 7) rfl (show _ = Value.bool false from congrArg Value.bool (decide_eq_false h2)) ?_
        refine CW.seq ?_
        refine CW.region ?_
        refine OW.eql rfl rfl rfl ?_
        refine OW.assign rfl rfl ?_
        refine OW.nil ?_
        refine NX.seq ?_
        refine CW.cond rfl (fun h3 => ?_) (fun h3 => ?_)
        · refine CW.slot (s := 7) rfl (show _ = Value.bool true from congrArg Value.bool (decide_eq_true h3)) ?_
          refine CW.skip ?_
          refine NX.seq ?_
          refine CW.condT rfl ?_
          refine CW.seq ?_
          refine CW.region ?_
          refine OW.assign rfl rfl ?_
          refine OW.nil ?_
          refine NX.seq ?_
          refine CW.ret ?_
          refine NX.blockRet ?_
          refine NX.thenRet ?_
          exact NX.ret1 rfl rfl (⟨by rw [h3]; rfl, rfl⟩)
        · refine CW.slot (s := 7) rfl (show _ = Value.bool false from congrArg Value.bool (decide_eq_false h3)) ?_
          refine CW.seq ?_
          refine CW.region ?_
          refine OW.eql rfl rfl rfl ?_
          refine OW.assign rfl rfl ?_
          refine OW.nil ?_
          refine NX.seq ?_
          refine CW.cond rfl (fun h4 => ?_) (fun h4 => ?_)
          · refine CW.slot (s := 7) rfl (show _ = Value.bool true from congrArg Value.bool (decide_eq_true h4)) ?_
            refine CW.skip ?_
            refine NX.seq ?_
            refine CW.condT rfl ?_
            refine CW.seq ?_
            refine CW.region ?_
            refine OW.assign rfl rfl ?_
            refine OW.nil ?_
            refine NX.seq ?_
            refine CW.ret ?_
            refine NX.blockRet ?_
            refine NX.thenRet ?_
            exact NX.ret1 rfl rfl (⟨by rw [h4]; rfl, rfl⟩)
          · refine CW.slot (s := 7) rfl (show _ = Value.bool false from congrArg Value.bool (decide_eq_false h4)) ?_
            refine CW.seq ?_
            refine CW.region ?_
            refine OW.eql rfl rfl rfl ?_
            refine OW.assign rfl rfl ?_
            refine OW.nil ?_
            refine NX.seq ?_
            refine CW.cond rfl (fun h5 => ?_) (fun h5 => ?_)
            · refine CW.slot (s := 7) rfl (show _ = Value.bool true from congrArg Value.bool (decide_eq_true h5)) ?_
              refine CW.skip ?_
              refine NX.seq ?_
              refine CW.condT rfl ?_
              refine CW.seq ?_
              refine CW.region ?_
              refine OW.assign rfl rfl ?_
              refine OW.nil ?_
              refine NX.seq ?_
              refine CW.ret ?_
              refine NX.blockRet ?_
              refine NX.thenRet ?_
              exact NX.ret1 rfl rfl (⟨by rw [h5]; rfl, rfl⟩)
            · refine CW.slot (s := 7) rfl (show _ = Value.bool false from congrArg Value.bool (decide_eq_false h5)) ?_
              refine CW.region ?_
              refine OW.eql rfl rfl rfl ?_
              refine OW.assign rfl rfl ?_
              refine OW.nil ?_
              refine NX.seq ?_
              refine CW.cond rfl (fun h6 => ?_) (fun h6 => ?_)
              · refine CW.slot (s := 7) rfl (show _ = Value.bool true from congrArg Value.bool (decide_eq_true h6)) ?_
                refine CW.seq ?_
                refine CW.region ?_
                refine OW.assign rfl rfl ?_
                refine OW.nil ?_
                refine NX.seq ?_
                refine CW.ret ?_
                refine NX.blockRet ?_
                refine NX.thenRet ?_
                exact NX.ret1 rfl rfl (⟨by rw [h6]; rfl, rfl⟩)
              · refine CW.slot (s := 7) rfl (show _ = Value.bool false from congrArg Value.bool (decide_eq_false h6)) ?_
                refine CW.seq ?_
                refine CW.region ?_
                refine OW.eql rfl rfl rfl ?_
                refine OW.assign rfl rfl ?_
                refine OW.nil ?_
                refine NX.seq ?_
                refine CW.cond rfl (fun h7 => ?_) (fun h7 => ?_)
                · refine CW.slot (s := 13) rfl (show _ = Value.bool true from congrArg Value.bool (decide_eq_true h7)) ?_
                  refine CW.seq ?_
                  refine CW.region ?_
                  refine OW.assign rfl rfl ?_
                  refine OW.nil ?_
                  refine NX.seq ?_
                  refine CW.ret ?_
                  refine NX.blockRet ?_
                  refine NX.thenRet ?_
                  exact NX.ret1 rfl rfl (⟨by rw [h7]; rfl, rfl⟩)
                · refine CW.slot (s := 13) rfl (show _ = Value.bool false from congrArg Value.bool (decide_eq_false h7)) ?_
                  refine CW.seq ?_
                  refine CW.seq ?_
                  refine CW.region ?_
                  refine OW.eql rfl rfl rfl ?_
                  refine OW.assign rfl rfl ?_
                  refine OW.nil ?_
                  refine NX.seq ?_
                  refine CW.cond rfl (fun h8 => ?_) (fun h8 => ?_)
                  · refine CW.slot (s := 15) rfl (show _ = Value.bool true from congrArg Value.bool (decide_eq_true h8)) ?_
                    refine CW.skip ?_
                    refine NX.seq ?_
                    refine CW.condT rfl ?_
                    refine CW.seq ?_
                    refine CW.region ?_
                    refine OW.assign rfl rfl ?_
                    refine OW.nil ?_
                    refine NX.seq ?_
                    refine CW.ret ?_
                    refine NX.blockRet ?_
                    refine NX.thenRet ?_
                    exact NX.ret1 rfl rfl (⟨by rw [h8]; rfl, rfl⟩)
                  · refine CW.slot (s := 15) rfl (show _ = Value.bool false from congrArg Value.bool (decide_eq_false h8)) ?_
                    refine CW.region ?_
                    refine OW.eql rfl rfl rfl ?_
                    refine OW.assign rfl rfl ?_
                    refine OW.nil ?_
                    refine NX.seq ?_
                    refine CW.cond rfl (fun h9 => ?_) (fun h9 => ?_)
                    · refine CW.slot (s := 15) rfl (show _ = Value.bool true from congrArg Value.bool (decide_eq_true h9)) ?_
                      refine CW.seq ?_
                      refine CW.region ?_
                      refine OW.assign rfl rfl ?_
                      refine OW.nil ?_
                      refine NX.seq ?_
                      refine CW.ret ?_
                      refine NX.blockRet ?_
                      refine NX.thenRet ?_
                      exact NX.ret1 rfl rfl (⟨by rw [h9]; rfl, rfl⟩)
                    · refine CW.slot (s := 15) rfl (show _ = Value.bool false from congrArg Value.bool (decide_eq_false h9)) ?_
                      refine CW.seq ?_
                      refine CW.region ?_
                      refine OW.eql rfl rfl rfl ?_
                      refine OW.assign rfl rfl ?_
                      refine OW.nil ?_
                      refine NX.seq ?_
                      refine CW.cond rfl (fun h10 => ?_) (fun h10 => ?_)
                      · refine CW.slot (s := 18) rfl (show _ = Value.bool true from congrArg Value.bool (decide_eq_true h10)) ?_
                        refine CW.seq ?_
                        refine CW.region ?_
                        refine OW.assign rfl rfl ?_
                        refine OW.nil ?_
                        refine NX.seq ?_
                        refine CW.ret ?_
                        refine NX.blockRet ?_
                        refine NX.thenRet ?_
                        exact NX.ret1 rfl rfl (⟨by rw [h10]; rfl, rfl⟩)
                      · refine CW.slot (s := 18) rfl (show _ = Value.bool false from congrArg Value.bool (decide_eq_false h10)) ?_
                        refine CW.skip ?_
                        refine NX.blockN ?_
                        refine NX.seq ?_
                        refine CW.seq ?_
                        refine CW.region ?_
                        refine OW.assign rfl rfl ?_
                        refine OW.nil ?_
                        refine NX.seq ?_
                        refine CW.ret ?_
                        omega

theorem check_does {m : Mat} (hm : m.wf) (w : World) : Does Try.prog 63 [.agg (m.cells).toArray] w fun v w' => v = (if matOk m = true then .int .i64 0 else .int .i64 20) ∧ Fr0 w w' := by
  refine Does.enter Try.func63 rfl rfl ?_
  show CW _ _ _ _ 28 [] [(0, .agg (m.cells).toArray)] w
  refine CW.seq ?_
  refine CW.region ?_
  refine OW.boxA rfl rfl ?_
  intro b1 w1 n1
  have e1 : Bk w1 b1 33 m.cells := n1.bk
  refine OW.assign rfl rfl ?_
  refine OW.nil ?_
  refine NX.seq ?_
  refine CW.seq ?_
  refine CW.seq ?_
  refine CW.region ?_
  refine OW.fieldAddr rfl fo33_1 rfl ?_
  refine OW.loadA rfl ag31 rfl (e1.segAt 11 m.mask.cells (fun j v e => mask_in j v e)) (rfl) ?_
  refine OW.move rfl rfl ?_
  refine OW.nil ?_
  refine NX.seq ?_
  refine CW.block ?_
  refine CW.loop (α := Nat) (fun i => [(1, .pointer (some ⟨b1, 0, none⟩)), (6, .agg (m.mask.cells).toArray), (7, .int .i64 ((i : Nat) : Int))]) (fun i U => i ≤ 11 ∧ (∀ j, j < i → badAt m j = false) ∧ Bk U b1 33 m.cells ∧ Fr0 w U) (fun i => 11 - i) 0 (Sub.cons rfl (Sub.cons rfl (Sub.cons rfl (Sub.nil _)))) ⟨by omega, (fun j h => absurd h (Nat.not_lt_zero _)), e1, n1.fr⟩ ?_
  rintro i U ⟨hi, hall, e1, g⟩
  refine CW.seq ?_
  refine CW.region ?_
  refine OW.lss rfl rfl rfl ?_
  refine OW.nil ?_
  refine NX.seq ?_
  refine CW.seq ?_
  refine CW.cond rfl (fun hlt => ?_) (fun hlt => ?_)
  · have hil : i < 11 := by omega
    have hwd := widthS_nn (i : Nat)
    refine CW.skip ?_
    refine NX.seq ?_
    refine CW.seq ?_
    refine CW.block ?_
    refine CW.seq ?_
    refine CW.region ?_
    refine OW.move rfl rfl ?_
    refine OW.index rfl ar31 ct29 rfl rfl (⟨by omega, by omega⟩) (m.mask.getO (by simp) hil) ?_
    refine OW.assign rfl rfl ?_
    refine OW.assign rfl rfl ?_
    refine OW.nil ?_
    refine NX.seq ?_
    refine CW.seq ?_
    refine CW.region ?_
    refine OW.move rfl rfl ?_
    refine OW.move rfl rfl ?_
    refine OW.convertI rfl un3 in38 rfl (w_i8 (by omega) (by omega)) ?_
    refine OW.call rfl rfl cl122 (width_does _ U) ?_
    rintro _ w3 ⟨rfl, f3⟩
    replace e1 := e1.frame f3 id
    refine OW.convertI rfl un3 in101 rfl (w_u64 (by omega) (by omega)) ?_
    refine OW.shr rfl rfl rfl (by omega) ?_
    refine OW.neq rfl rfl rfl ?_
    refine OW.move rfl rfl ?_
    refine OW.ways (s := 18) rfl (fun h1 => ?_) (fun h1 => ?_)
    · refine OW.gnoD rfl rfl rfl rfl ?_
      refine OW.gnoD rfl rfl rfl rfl ?_
      refine OW.gnoD rfl rfl rfl rfl ?_
      refine OW.gnoD rfl rfl rfl rfl ?_
      refine OW.gnoD rfl rfl rfl rfl ?_
      refine OW.gnoD rfl rfl rfl rfl ?_
      refine OW.gnoD rfl rfl rfl rfl ?_
      refine OW.pickT rfl rfl rfl ?_
      refine OW.nil ?_
      refine NX.seq ?_
      refine CW.condT rfl ?_
      refine CW.seq ?_
      refine CW.region ?_
      refine OW.assign rfl rfl ?_
      refine OW.nil ?_
      refine NX.seq ?_
      refine CW.ret ?_
      refine NX.blockRet ?_
      refine NX.thenRet ?_
      refine NX.thenRet ?_
      refine NX.blockRet ?_
      refine NX.thenRet ?_
      exact NX.ret1 rfl rfl (⟨mapN (matOk_not hil (by unfold badAt; rw [Bool.or_eq_true]; exact .inl (decide_eq_true h1))), g.trans f3⟩)
    · refine OW.gyes rfl rfl ?_
      refine OW.move rfl rfl ?_
      refine OW.gyes rfl rfl ?_
      refine OW.fieldAddr rfl fo33_0 rfl ?_
      refine OW.gyes rfl rfl ?_
      refine OW.indexAddrArr rfl ar31 rfl rfl (⟨by omega, by omega⟩) ?_
      refine OW.gyes rfl rfl ?_
      refine OW.load1 rfl ct29 rfl (e1.cell (m.getV (by simp) hil)) ?_
      refine OW.gyes rfl rfl ?_
      refine OW.move rfl rfl ?_
      refine OW.gyes rfl rfl ?_
      refine OW.andNot64 rfl rfl rfl ⟨by omega, by have := Hdr.at_lt hm.1 i; omega⟩ ⟨by omega, by have := Hdr.at_lt hm.2 i; omega⟩ ?_
      refine OW.gyes rfl rfl ?_
      refine OW.neq rfl rfl rfl ?_
      refine OW.pickF rfl rfl rfl ?_
      refine OW.nil ?_
      refine NX.seq ?_
      refine CW.cond rfl (fun h2 => ?_) (fun h2 => ?_)
      · refine CW.seq ?_
        refine CW.region ?_
        refine OW.assign rfl rfl ?_
        refine OW.nil ?_
        refine NX.seq ?_
        refine CW.ret ?_
        refine NX.blockRet ?_
        refine NX.thenRet ?_
        refine NX.thenRet ?_
        refine NX.blockRet ?_
        refine NX.thenRet ?_
        exact NX.ret1 rfl rfl (⟨mapN (matOk_not hil (by unfold badAt; rw [Bool.or_eq_true]; exact .inr (decide_eq_true h2))), g.trans f3⟩)
      · refine CW.skip ?_
        refine NX.blockN ?_
        refine NX.seq ?_
        refine CW.region ?_
        refine OW.add rfl rfl rfl (by omega) ?_
        refine OW.move rfl rfl ?_
        refine OW.nil ?_
        exact NX.loop (i + 1) ((Sub.cons rfl (Sub.cons rfl (Sub.cons rfl (Sub.nil _))))) (⟨by omega, (fun j hj => by
            rcases Nat.lt_or_ge j i with c | c
            · exact hall j c
            · obtain rfl : j = i := by omega
              unfold badAt; rw [Bool.or_eq_false_iff]; exact ⟨decide_eq_false h1, decide_eq_false h2⟩), e1, g.trans f3⟩) (by omega)
  · refine CW.exit ?_
    refine NX.thenExit ?_
    refine NX.thenExit ?_
    refine NX.blockEq ?_
    refine NX.seq ?_
    refine CW.seq ?_
    refine CW.region ?_
    refine OW.assign rfl rfl ?_
    refine OW.nil ?_
    refine NX.seq ?_
    refine CW.ret ?_
    exact NX.ret1 rfl rfl (⟨mapE (matOk_iff.2 fun j hj => hall j (by omega)), g⟩)

theorem refCheck_does {m : Mat} (hm : m.wf) (w : World) : Does Try.prog 72 [.agg (m.cells).toArray] w fun v w' => v = (if matOk m = true then .int .i64 0 else .int .i64 20) ∧ Fr0 w w' := by
  refine Does.enter Try.func72 rfl rfl ?_
  show CW _ _ _ _ 29 [] [(0, .agg (m.cells).toArray)] w
  refine CW.seq ?_
  refine CW.region ?_
  refine OW.boxA rfl rfl ?_
  intro b1 w1 n1
  have e1 : Bk w1 b1 33 m.cells := n1.bk
  refine OW.assign rfl rfl ?_
  refine OW.nil ?_
  refine NX.seq ?_
  refine CW.seq ?_
  refine CW.seq ?_
  refine CW.region ?_
  refine OW.assign rfl rfl ?_
  refine OW.nil ?_
  refine NX.seq ?_
  refine CW.block ?_
  refine CW.loop (α := Nat) (fun i => [(1, .pointer (some ⟨b1, 0, none⟩)), (3, .int .i64 ((i : Nat) : Int))]) (fun i U => i ≤ 11 ∧ (∀ j, j < i → badAt m j = false) ∧ Bk U b1 33 m.cells ∧ Fr0 w U) (fun i => 11 - i) 0 (Sub.cons rfl (Sub.cons rfl (Sub.nil _))) ⟨by omega, (fun j h => absurd h (Nat.not_lt_zero _)), e1, n1.fr⟩ ?_
  rintro i U ⟨hi, hall, e1, g⟩
  refine CW.seq ?_
  refine CW.seq ?_
  refine CW.region ?_
  refine OW.move rfl rfl ?_
  refine OW.lss rfl rfl rfl ?_
  refine OW.nil ?_
  refine NX.seq ?_
  refine CW.cond rfl (fun hlt => ?_) (fun hlt => ?_)
  · have hil : i < 11 := by omega
    have hwd := widthS_nn (i : Nat)
    refine CW.skip ?_
    refine NX.seq ?_
    refine CW.seq ?_
    refine CW.block ?_
    refine CW.seq ?_
    refine CW.drawX [(0, false), (1, false), (2, false), (3, false), (4, false), (5, false), (6, true), (7, false), (8, false), (9, false), (10, false), (11, false), (12, false), (13, false), (14, false), (15, false), (16, false), (17, false), (18, false), (19, false), (20, false)] (fun z => Fr0 U z) MIX (by kernel_rfl) (fun _ h => h) ?_
    intro z1 hz1
    refine XW.val rfl rfl (fun zw hz => OW.move rfl rfl (OW.nil NX.calm)) ?_
    refine XW.val rfl rfl (fun zw hz => OW.fieldAddr rfl fo33_1 rfl (OW.nil NX.calm)) ?_
    refine XW.val rfl rfl (fun zw hz => OW.indexAddrArr rfl ar31 rfl rfl (⟨by omega, by omega⟩) (OW.nil NX.calm)) ?_
    refine XW.val rfl rfl (fun zw hz => OW.load1 rfl ct29 rfl ((e1.frame hz id).cell (m.getM (by simp) hil)) (OW.nil NX.calm)) ?_
    refine XW.val rfl rfl (fun zw hz => OW.move rfl rfl (OW.nil NX.calm)) ?_
    refine XW.val rfl rfl (fun zw hz => OW.convertI rfl un3 in38 rfl (w_i8 (by omega) (by omega)) (OW.nil NX.calm)) ?_
    refine XW.does ?_
    refine OW.call rfl rfl cl127 (refWidth_does (by omega) (by omega) _) ?_
    rintro _ w3 ⟨rfl, rfl⟩
    refine OW.nil (NX.does (hz1) ?_)
    refine XW.val rfl rfl (fun zw hz => OW.shr rfl rfl rfl (by omega) (OW.nil NX.calm)) ?_
    refine XW.val rfl rfl (fun zw hz => OW.neq rfl rfl rfl (OW.nil NX.calm)) ?_
    refine XW.val rfl rfl (fun zw hz => OW.move rfl rfl (OW.nil NX.calm)) ?_
    refine XW.ways (s := 17) rfl (fun h1 => ?_) (fun h1 => ?_)
    · refine XW.gno rfl rfl rfl rfl ?_
      refine XW.gno rfl rfl rfl rfl ?_
      refine XW.gno rfl rfl rfl rfl ?_
      refine XW.gno rfl rfl rfl rfl ?_
      refine XW.gno rfl rfl rfl rfl ?_
      refine XW.gno rfl rfl rfl rfl ?_
      refine XW.gno rfl rfl rfl rfl ?_
      refine XW.gno rfl rfl rfl rfl ?_
      refine XW.gno rfl rfl rfl rfl ?_
      refine XW.gno rfl rfl rfl rfl ?_
      refine XW.val rfl rfl (fun zw hz => OW.pickT rfl rfl rfl (OW.nil NX.calm)) ?_
      refine XW.nil ?_
      refine NX.seq ?_
      refine CW.condT rfl ?_
      refine CW.seq ?_
      refine CW.region ?_
      refine OW.assign rfl rfl ?_
      refine OW.nil ?_
      refine NX.seq ?_
      refine CW.ret ?_
      refine NX.blockRet ?_
      refine NX.thenRet ?_
      refine NX.thenRet ?_
      refine NX.blockRet ?_
      refine NX.thenRet ?_
      exact NX.ret1 rfl rfl (⟨mapN (matOk_not hil (by unfold badAt; rw [Bool.or_eq_true]; exact .inl (decide_eq_true h1))), g.trans hz1⟩)
    · refine XW.val rfl rfl (fun zw hz => OW.gyes rfl rfl (OW.move rfl rfl (OW.nil NX.calm))) ?_
      refine XW.val rfl rfl (fun zw hz => OW.gyes rfl rfl (OW.fieldAddr rfl fo33_0 rfl (OW.nil NX.calm))) ?_
      refine XW.val rfl rfl (fun zw hz => OW.gyes rfl rfl (OW.indexAddrArr rfl ar31 rfl rfl (⟨by omega, by omega⟩) (OW.nil NX.calm))) ?_
      refine XW.val rfl rfl (fun zw hz => OW.gyes rfl rfl (OW.load1 rfl ct29 rfl ((e1.frame hz id).cell (m.getV (by simp) hil)) (OW.nil NX.calm))) ?_
      refine XW.val rfl rfl (fun zw hz => OW.gyes rfl rfl (OW.move rfl rfl (OW.nil NX.calm))) ?_
      refine XW.val rfl rfl (fun zw hz => OW.gyes rfl rfl (OW.fieldAddr rfl fo33_1 rfl (OW.nil NX.calm))) ?_
      refine XW.val rfl rfl (fun zw hz => OW.gyes rfl rfl (OW.indexAddrArr rfl ar31 rfl rfl (⟨by omega, by omega⟩) (OW.nil NX.calm))) ?_
      refine XW.val rfl rfl (fun zw hz => OW.gyes rfl rfl (OW.load1 rfl ct29 rfl ((e1.frame hz id).cell (m.getM (by simp) hil)) (OW.nil NX.calm))) ?_
      refine XW.val rfl rfl (fun zw hz => OW.gyes rfl rfl (OW.andNot64 rfl rfl rfl ⟨by omega, by have := Hdr.at_lt hm.1 i; omega⟩ ⟨by omega, by have := Hdr.at_lt hm.2 i; omega⟩ (OW.nil NX.calm))) ?_
      refine XW.val rfl rfl (fun zw hz => OW.gyes rfl rfl (OW.neq rfl rfl rfl (OW.nil NX.calm))) ?_
      refine XW.val rfl rfl (fun zw hz => OW.pickF rfl rfl rfl (OW.nil NX.calm)) ?_
      refine XW.nil ?_
      refine NX.seq ?_
      refine CW.cond rfl (fun h2 => ?_) (fun h2 => ?_)
      · refine CW.seq ?_
        refine CW.region ?_
        refine OW.assign rfl rfl ?_
        refine OW.nil ?_
        refine NX.seq ?_
        refine CW.ret ?_
        refine NX.blockRet ?_
        refine NX.thenRet ?_
        refine NX.thenRet ?_
        refine NX.blockRet ?_
        refine NX.thenRet ?_
        exact NX.ret1 rfl rfl (⟨mapN (matOk_not hil (by unfold badAt; rw [Bool.or_eq_true]; exact .inr (decide_eq_true h2))), g.trans hz1⟩)
      · refine CW.skip ?_
        refine NX.blockN ?_
        refine NX.seq ?_
        refine CW.region ?_
        refine OW.move rfl rfl ?_
        refine OW.add rfl rfl rfl (by omega) ?_
        refine OW.assign rfl rfl ?_
        refine OW.nil ?_
        exact NX.loop (i + 1) ((Sub.cons rfl (Sub.cons rfl (Sub.nil _)))) (⟨by omega, (fun j hj => by
            rcases Nat.lt_or_ge j i with c | c
            · exact hall j c
            · obtain rfl : j = i := by omega
              unfold badAt; rw [Bool.or_eq_false_iff]; exact ⟨decide_eq_false h1, decide_eq_false h2⟩), e1.frame hz1 id, g.trans hz1⟩) (by omega)
  · refine CW.exit ?_
    refine NX.thenExit ?_
    refine NX.thenExit ?_
    refine NX.blockEq ?_
    refine NX.seq ?_
    refine CW.seq ?_
    refine CW.region ?_
    refine OW.assign rfl rfl ?_
    refine OW.nil ?_
    refine NX.seq ?_
    refine CW.ret ?_
    exact NX.ret1 rfl rfl (⟨mapE (matOk_iff.2 fun j hj => hall j (by omega)), g⟩)

theorem hits_does {m : Mat} {h : Hdr} (hm : m.wf) (hh : h.wf) (w : World) : Does Try.prog 30 [.agg (m.cells).toArray, .agg (h.cells).toArray] w fun v w' => v = .bool (hits m h) ∧ Fr0 w w' := by
  refine Does.enter Try.func30 rfl rfl ?_
  show CW _ _ _ _ 28 [] [(0, .agg (m.cells).toArray), (1, .agg (h.cells).toArray)] w
  refine CW.seq ?_
  refine CW.region ?_
  refine OW.boxA rfl rfl ?_
  intro b1 w1 n1
  refine OW.boxA rfl rfl ?_
  intro b2 w2 n2
  have e1 : Bk w2 b1 33 m.cells := n1.bk.frame n2.fr id
  have e2 : Bk w2 b2 31 h.cells := n2.bk
  have f2 : Fr0 w w2 := n1.fr.trans n2.fr
  refine OW.assign rfl rfl ?_
  refine OW.nil ?_
  refine NX.seq ?_
  refine CW.seq ?_
  refine CW.seq ?_
  refine CW.region ?_
  refine OW.loadA rfl ag33 rfl (e1.seg) (rfl) ?_
  refine OW.call rfl rfl cl63 (check_does hm w2) ?_
  rintro _ w3 ⟨rfl, f3⟩
  replace e1 := e1.frame f3 id
  replace e2 := e2.frame f3 id
  have g2 := f2.trans f3
  rcases hok : matOk m
  · simp only [Bool.false_eq_true, if_false]
    refine OW.neq rfl rfl rfl ?_
    refine OW.nil ?_
    refine NX.seq ?_
    refine CW.cond rfl (fun hc => ?_) (fun hc => ?_)
    · refine CW.seq ?_
      refine CW.region ?_
      refine OW.assign rfl rfl ?_
      refine OW.nil ?_
      refine NX.seq ?_
      refine CW.ret ?_
      refine NX.thenRet ?_
      exact NX.ret1 rfl rfl (⟨by rw [hits_bad hok], g2⟩)
    · exact absurd (by decide) hc
  · simp only [if_true]
    refine OW.neq rfl rfl rfl ?_
    refine OW.nil ?_
    refine NX.seq ?_
    refine CW.cond rfl (fun hc => ?_) (fun hc => ?_)
    · exact absurd hc (by decide)
    · refine CW.skip ?_
      refine NX.seq ?_
      refine CW.seq ?_
      refine CW.seq ?_
      refine CW.region ?_
      refine OW.fieldAddr rfl fo33_1 rfl ?_
      refine OW.loadA rfl ag31 rfl (e1.segAt 11 m.mask.cells (fun j v e => mask_in j v e)) (rfl) ?_
      refine OW.move rfl rfl ?_
      refine OW.nil ?_
      refine NX.seq ?_
      refine CW.block ?_
      refine CW.loop (α := Nat) (fun i => [(2, .pointer (some ⟨b1, 0, none⟩)), (3, .pointer (some ⟨b2, 0, none⟩)), (11, .agg (m.mask.cells).toArray), (12, .int .i64 ((i : Nat) : Int))]) (fun i U => i ≤ 11 ∧ (∀ j, j < i → hitAt m h j = true) ∧ Bk U b1 33 m.cells ∧ Bk U b2 31 h.cells ∧ Fr0 w U) (fun i => 11 - i) 0 (Sub.cons rfl (Sub.cons rfl (Sub.cons rfl (Sub.cons rfl (Sub.nil _))))) ⟨by omega, (fun j h => absurd h (Nat.not_lt_zero _)), e1, e2, g2⟩ ?_
      rintro i U ⟨hi, hall, e1, e2, g⟩
      refine CW.seq ?_
      refine CW.region ?_
      refine OW.lss rfl rfl rfl ?_
      refine OW.nil ?_
      refine NX.seq ?_
      refine CW.seq ?_
      refine CW.cond rfl (fun hlt => ?_) (fun hlt => ?_)
      · have hil : i < 11 := by omega
        refine CW.skip ?_
        refine NX.seq ?_
        refine CW.seq ?_
        refine CW.block ?_
        refine CW.seq ?_
        refine CW.region ?_
        refine OW.move rfl rfl ?_
        refine OW.index rfl ar31 ct29 rfl rfl (⟨by omega, by omega⟩) (m.mask.getO (by simp) hil) ?_
        refine OW.assign rfl rfl ?_
        refine OW.assign rfl rfl ?_
        refine OW.nil ?_
        refine NX.seq ?_
        refine CW.seq ?_
        refine CW.drawX [(0, false), (1, false), (2, false), (3, false), (4, false), (5, false), (6, false), (7, false), (8, false), (9, false), (10, false)] (fun z => Fr0 U z) MIX (by kernel_rfl) (fun _ h => h) ?_
        intro z1 hz1
        refine XW.val rfl rfl (fun zw hz => OW.move rfl rfl (OW.nil NX.calm)) ?_
        refine XW.val rfl rfl (fun zw hz => OW.indexAddrArr rfl ar31 rfl rfl (⟨by omega, by omega⟩) (OW.nil NX.calm)) ?_
        refine XW.val rfl rfl (fun zw hz => OW.load1 rfl ct29 rfl ((e2.frame hz id).cell (h.getO (by simp) hil)) (OW.nil NX.calm)) ?_
        refine XW.val rfl rfl (fun zw hz => OW.move rfl rfl (OW.nil NX.calm)) ?_
        refine XW.val rfl rfl (fun zw hz => OW.fieldAddr rfl fo33_0 rfl (OW.nil NX.calm)) ?_
        refine XW.val rfl rfl (fun zw hz => OW.indexAddrArr rfl ar31 rfl rfl (⟨by omega, by omega⟩) (OW.nil NX.calm)) ?_
        refine XW.val rfl rfl (fun zw hz => OW.load1 rfl ct29 rfl ((e1.frame hz id).cell (m.getV (by simp) hil)) (OW.nil NX.calm)) ?_
        refine XW.val rfl rfl (fun zw hz => OW.xor64 rfl rfl rfl ⟨by omega, by have := Hdr.at_lt hh i; omega⟩ ⟨by omega, by have := Hdr.at_lt hm.1 i; omega⟩ (OW.nil NX.calm)) ?_
        refine XW.val rfl rfl (fun zw hz => OW.move rfl rfl (OW.nil NX.calm)) ?_
        refine XW.val rfl rfl (fun zw hz => OW.and64 rfl rfl rfl (bxor_bnd hh hm.1) ⟨by omega, by have := Hdr.at_lt hm.2 i; omega⟩ (OW.nil NX.calm)) ?_
        have hx := hit_xor h hok hil
        refine XW.val rfl rfl (fun zw hz => OW.neq rfl rfl rfl (OW.nil NX.calm)) ?_
        refine XW.nil ?_
        refine NX.seq ?_
        refine CW.cond rfl (fun hd => ?_) (fun hd => ?_)
        · refine CW.seq ?_
          refine CW.region ?_
          refine OW.assign rfl rfl ?_
          refine OW.nil ?_
          refine NX.seq ?_
          refine CW.ret ?_
          refine NX.blockRet ?_
          refine NX.thenRet ?_
          refine NX.thenRet ?_
          refine NX.blockRet ?_
          refine NX.thenRet ?_
          exact NX.ret1 rfl rfl (⟨by rw [hits_not hil (by rw [decide_eq_true hd] at hx; simpa using hx.symm)], g.trans hz1⟩)
        · refine CW.skip ?_
          refine NX.blockN ?_
          refine NX.seq ?_
          refine CW.region ?_
          refine OW.add rfl rfl rfl (by omega) ?_
          refine OW.move rfl rfl ?_
          refine OW.nil ?_
          exact NX.loop (i + 1) ((Sub.cons rfl (Sub.cons rfl (Sub.cons rfl (Sub.cons rfl (Sub.nil _)))))) (⟨by omega, (fun j hj => by
              rcases Nat.lt_or_ge j i with c | c
              · exact hall j c
              · obtain rfl : j = i := by omega
                exact (by rw [decide_eq_false hd] at hx; simpa using hx.symm)), e1.frame hz1 id, e2.frame hz1 id, g.trans hz1⟩) (by omega)
      · refine CW.exit ?_
        refine NX.thenExit ?_
        refine NX.thenExit ?_
        refine NX.blockEq ?_
        refine NX.seq ?_
        refine CW.seq ?_
        refine CW.region ?_
        refine OW.assign rfl rfl ?_
        refine OW.nil ?_
        refine NX.seq ?_
        refine CW.ret ?_
        exact NX.ret1 rfl rfl (⟨by rw [hits_iff.2 ⟨hok, fun j hj => hall j (by omega)⟩], g⟩)

theorem refHits_does {m : Mat} {h : Hdr} (hm : m.wf) (hh : h.wf) (w : World) : Does Try.prog 77 [.agg (m.cells).toArray, .agg (h.cells).toArray] w fun v w' => v = .bool (hits m h) ∧ Fr0 w w' := by
  refine Does.enter Try.func77 rfl rfl ?_
  show CW _ _ _ _ 26 [] [(0, .agg (m.cells).toArray), (1, .agg (h.cells).toArray)] w
  refine CW.seq ?_
  refine CW.region ?_
  refine OW.boxA rfl rfl ?_
  intro b1 w1 n1
  refine OW.boxA rfl rfl ?_
  intro b2 w2 n2
  have e1 : Bk w2 b1 33 m.cells := n1.bk.frame n2.fr id
  have e2 : Bk w2 b2 31 h.cells := n2.bk
  have f2 : Fr0 w w2 := n1.fr.trans n2.fr
  refine OW.assign rfl rfl ?_
  refine OW.nil ?_
  refine NX.seq ?_
  refine CW.seq ?_
  refine CW.seq ?_
  refine CW.region ?_
  refine OW.loadA rfl ag33 rfl (e1.seg) (rfl) ?_
  refine OW.call rfl rfl cl72 (refCheck_does hm w2) ?_
  rintro _ w3 ⟨rfl, f3⟩
  replace e1 := e1.frame f3 id
  replace e2 := e2.frame f3 id
  have g2 := f2.trans f3
  rcases hok : matOk m
  · simp only [Bool.false_eq_true, if_false]
    refine OW.neq rfl rfl rfl ?_
    refine OW.nil ?_
    refine NX.seq ?_
    refine CW.cond rfl (fun hc => ?_) (fun hc => ?_)
    · refine CW.seq ?_
      refine CW.region ?_
      refine OW.assign rfl rfl ?_
      refine OW.nil ?_
      refine NX.seq ?_
      refine CW.ret ?_
      refine NX.thenRet ?_
      exact NX.ret1 rfl rfl (⟨by rw [hits_bad hok], g2⟩)
    · exact absurd (by decide) hc
  · simp only [if_true]
    refine OW.neq rfl rfl rfl ?_
    refine OW.nil ?_
    refine NX.seq ?_
    refine CW.cond rfl (fun hc => ?_) (fun hc => ?_)
    · exact absurd hc (by decide)
    · refine CW.skip ?_
      refine NX.seq ?_
      refine CW.seq ?_
      refine CW.seq ?_
      refine CW.region ?_
      refine OW.assign rfl rfl ?_
      refine OW.nil ?_
      refine NX.seq ?_
      refine CW.block ?_
      refine CW.loop (α := Nat) (fun i => [(2, .pointer (some ⟨b1, 0, none⟩)), (3, .pointer (some ⟨b2, 0, none⟩)), (5, .int .i64 ((i : Nat) : Int))]) (fun i U => i ≤ 11 ∧ (∀ j, j < i → hitAt m h j = true) ∧ Bk U b1 33 m.cells ∧ Bk U b2 31 h.cells ∧ Fr0 w U) (fun i => 11 - i) 0 (Sub.cons rfl (Sub.cons rfl (Sub.cons rfl (Sub.nil _)))) ⟨by omega, (fun j h => absurd h (Nat.not_lt_zero _)), e1, e2, g2⟩ ?_
      rintro i U ⟨hi, hall, e1, e2, g⟩
      refine CW.seq ?_
      refine CW.seq ?_
      refine CW.region ?_
      refine OW.move rfl rfl ?_
      refine OW.lss rfl rfl rfl ?_
      refine OW.nil ?_
      refine NX.seq ?_
      refine CW.cond rfl (fun hlt => ?_) (fun hlt => ?_)
      · have hil : i < 11 := by omega
        refine CW.skip ?_
        refine NX.seq ?_
        refine CW.seq ?_
        refine CW.block ?_
        refine CW.seq ?_
        refine CW.drawX [(0, false), (1, false), (2, false), (3, false), (4, false), (5, false), (6, false), (7, false), (8, false), (9, false), (10, false), (11, false), (12, false)] (fun z => Fr0 U z) MIX (by kernel_rfl) (fun _ h => h) ?_
        intro z1 hz1
        refine XW.val rfl rfl (fun zw hz => OW.move rfl rfl (OW.nil NX.calm)) ?_
        refine XW.val rfl rfl (fun zw hz => OW.indexAddrArr rfl ar31 rfl rfl (⟨by omega, by omega⟩) (OW.nil NX.calm)) ?_
        refine XW.val rfl rfl (fun zw hz => OW.load1 rfl ct29 rfl ((e2.frame hz id).cell (h.getO (by simp) hil)) (OW.nil NX.calm)) ?_
        refine XW.val rfl rfl (fun zw hz => OW.move rfl rfl (OW.nil NX.calm)) ?_
        refine XW.val rfl rfl (fun zw hz => OW.fieldAddr rfl fo33_1 rfl (OW.nil NX.calm)) ?_
        refine XW.val rfl rfl (fun zw hz => OW.indexAddrArr rfl ar31 rfl rfl (⟨by omega, by omega⟩) (OW.nil NX.calm)) ?_
        refine XW.val rfl rfl (fun zw hz => OW.load1 rfl ct29 rfl ((e1.frame hz id).cell (m.getM (by simp) hil)) (OW.nil NX.calm)) ?_
        refine XW.val rfl rfl (fun zw hz => OW.and64 rfl rfl rfl ⟨by omega, by have := Hdr.at_lt hh i; omega⟩ ⟨by omega, by have := Hdr.at_lt hm.2 i; omega⟩ (OW.nil NX.calm)) ?_
        refine XW.val rfl rfl (fun zw hz => OW.move rfl rfl (OW.nil NX.calm)) ?_
        refine XW.val rfl rfl (fun zw hz => OW.fieldAddr rfl fo33_0 rfl (OW.nil NX.calm)) ?_
        refine XW.val rfl rfl (fun zw hz => OW.indexAddrArr rfl ar31 rfl rfl (⟨by omega, by omega⟩) (OW.nil NX.calm)) ?_
        refine XW.val rfl rfl (fun zw hz => OW.load1 rfl ct29 rfl ((e1.frame hz id).cell (m.getV (by simp) hil)) (OW.nil NX.calm)) ?_
        refine XW.val rfl rfl (fun zw hz => OW.neq rfl rfl rfl (OW.nil NX.calm)) ?_
        refine XW.nil ?_
        refine NX.seq ?_
        refine CW.cond rfl (fun hd => ?_) (fun hd => ?_)
        · refine CW.seq ?_
          refine CW.region ?_
          refine OW.assign rfl rfl ?_
          refine OW.nil ?_
          refine NX.seq ?_
          refine CW.ret ?_
          refine NX.blockRet ?_
          refine NX.thenRet ?_
          refine NX.thenRet ?_
          refine NX.blockRet ?_
          refine NX.thenRet ?_
          exact NX.ret1 rfl rfl (⟨by rw [hits_not hil (refHit_n hd)], g.trans hz1⟩)
        · refine CW.skip ?_
          refine NX.blockN ?_
          refine NX.seq ?_
          refine CW.region ?_
          refine OW.move rfl rfl ?_
          refine OW.add rfl rfl rfl (by omega) ?_
          refine OW.assign rfl rfl ?_
          refine OW.nil ?_
          exact NX.loop (i + 1) ((Sub.cons rfl (Sub.cons rfl (Sub.cons rfl (Sub.nil _))))) (⟨by omega, (fun j hj => by
              rcases Nat.lt_or_ge j i with c | c
              · exact hall j c
              · obtain rfl : j = i := by omega
                exact refHit_y hd), e1.frame hz1 id, e2.frame hz1 id, g.trans hz1⟩) (by omega)
      · refine CW.exit ?_
        refine NX.thenExit ?_
        refine NX.thenExit ?_
        refine NX.blockEq ?_
        refine NX.seq ?_
        refine CW.seq ?_
        refine CW.region ?_
        refine OW.assign rfl rfl ?_
        refine OW.nil ?_
        refine NX.seq ?_
        refine CW.ret ?_
        exact NX.ret1 rfl rfl (⟨by rw [hits_iff.2 ⟨hok, fun j hj => hall j (by omega)⟩], g⟩)

end Go.Eng.Ta
