/-
  Small functions of the program, stepped through.
  No condition.
-/
import Derived.Test.YtmdhbgkmkmmmpaaDat
import Derived.Test.YtmdhbgkmkmmmpaaProg
import Derived.KernelRfl
namespace Go.Eng
open Go Go.Proofs

theorem ag214 : aggSz Try.prog 214 = some 11 := by kernel_rfl
theorem ar214 : arrIs Try.prog 214 = some (11, 3, 1) := by kernel_rfl
theorem cl141 : callable Try.prog 141 = true := by kernel_rfl
theorem ct3 : cellTy Try.prog 3 = true := by kernel_rfl
theorem ct34 : cellTy Try.prog 34 = true := by kernel_rfl
theorem ct75 : cellTy Try.prog 75 = true := by kernel_rfl
theorem el22 : elemIs Try.prog 22 = some (36, 25) := by kernel_rfl
theorem el34 : elemIs Try.prog 34 = some (75, 1) := by kernel_rfl
theorem el75 : elemIs Try.prog 75 = some (89, 3) := by kernel_rfl
theorem fo36_2 : fieldOff Try.prog 36 2 = some 23 := by kernel_rfl
theorem sz214 : sizeIs Try.prog 214 = some 11 := by kernel_rfl
theorem zr214 : zeroIs Try.prog 214 = some (.agg #[.int .i64 0, .int .i64 0, .int .i64 0, .int .i64 0, .int .i64 0, .int .i64 0, .int .i64 0, .int .i64 0, .int .i64 0, .int .i64 0, .int .i64 0]) := by kernel_rfl

theorem widths_does (w : World) : Does Try.prog 141 [] w fun v w' => v = .agg #[.int .i64 48, .int .i64 48, .int .i64 16, .int .i64 12, .int .i64 32, .int .i64 32, .int .i64 8, .int .i64 16, .int .i64 16, .int .i64 16, .int .i64 16] ∧ Fr0 w w' := by
  refine Does.enter Try.func141 rfl rfl ?_
  show CW _ _ _ _ 2 [] [] w
  refine CW.seq ?_
  refine CW.region ?_
  refine OW.alloc rfl zr214 ?_
  intro b w1 n1
  refine OW.nil ?_
  refine NX.seq ?_
  refine CW.seq ?_
  refine CW.region ?_
  refine OW.buildArr (z := [.int .i64 0, .int .i64 0, .int .i64 0, .int .i64 0, .int .i64 0, .int .i64 0, .int .i64 0, .int .i64 0, .int .i64 0, .int .i64 0, .int .i64 0]) rfl ar214 zr214 rfl rfl ?_
  refine OW.store rfl rfl sz214 (n1.bk (cs := [.int .i64 0, .int .i64 0, .int .i64 0, .int .i64 0, .int .i64 0, .int .i64 0, .int .i64 0, .int .i64 0, .int .i64 0, .int .i64 0, .int .i64 0])) (by decide) (by intro x hx; revert x; decide) ?_
  intro w2 f2 z2 b2
  refine OW.nil ?_
  refine NX.seq ?_
  refine CW.ret ?_
  exact NX.retA rfl rfl ag214 (b2.seg) (rfl) (⟨rfl, Fr.trans' n1.fr f2 (fun k h c => by have := n1.fresh; omega)⟩)

def widthS (a : Int) : Int := if a < 0 ∨ a ≥ 11 then 0 else ([48, 48, 16, 12, 32, 32, 8, 16, 16, 16, 16] : List Int).getD a.toNat 0

theorem widthS_get {a : Int} (h0 : 0 ≤ a) (h1 : a < 11) : ([.int .i64 48, .int .i64 48, .int .i64 16, .int .i64 12, .int .i64 32, .int .i64 32, .int .i64 8, .int .i64 16, .int .i64 16, .int .i64 16, .int .i64 16] : List Value)[a.toNat]? = some (.int .i64 (widthS a)) := by
  unfold widthS
  rw [if_neg (by omega)]
  have : a = 0 ∨ a = 1 ∨ a = 2 ∨ a = 3 ∨ a = 4 ∨ a = 5 ∨ a = 6 ∨ a = 7 ∨ a = 8 ∨ a = 9 ∨ a = 10 := by omega
  rcases this with rfl | rfl | rfl | rfl | rfl | rfl | rfl | rfl | rfl | rfl | rfl <;> rfl

theorem width_does (a : Int) (w : World) : Does Try.prog 122 [.int .i8 a] w fun v w' => v = .int .i64 (widthS a) ∧ Fr0 w w' := by
  refine Does.enter Try.func122 rfl rfl ?_
  show CW _ _ _ _ 12 [] [(0, .int .i8 a)] w
  refine CW.seq ?_
  refine CW.region ?_
  refine OW.assign rfl rfl ?_
  refine OW.nil ?_
  refine NX.seq ?_
  refine CW.seq ?_
  refine CW.seq ?_
  refine CW.region ?_
  refine OW.move rfl rfl ?_
  refine OW.lss rfl rfl rfl ?_
  refine OW.move rfl rfl ?_
  refine OW.ways (s := 5) rfl (fun ha => ?_) (fun ha => ?_)
  · refine OW.gnoD rfl rfl rfl rfl ?_
    refine OW.gnoD rfl rfl rfl rfl ?_
    refine OW.pickT rfl rfl rfl ?_
    refine OW.nil ?_
    refine NX.seq ?_
    refine CW.condT rfl ?_
    refine CW.seq ?_
    refine CW.region ?_
    refine OW.assign rfl rfl ?_
    refine OW.nil ?_
    refine NX.seq ?_
    refine CW.ret ?_
    refine NX.thenRet ?_
    exact NX.ret1 rfl rfl (by unfold widthS; rw [if_pos (.inl ha)]; exact ⟨rfl, Fr.refl _ _⟩)
  · refine OW.gyes rfl rfl ?_
    refine OW.move rfl rfl ?_
    refine OW.gyes rfl rfl ?_
    refine OW.geq rfl rfl rfl ?_
    refine OW.pickF rfl rfl rfl ?_
    refine OW.nil ?_
    refine NX.seq ?_
    refine CW.cond rfl (fun hb => ?_) (fun hb => ?_)
    · refine CW.seq ?_
      refine CW.region ?_
      refine OW.assign rfl rfl ?_
      refine OW.nil ?_
      refine NX.seq ?_
      refine CW.ret ?_
      refine NX.thenRet ?_
      exact NX.ret1 rfl rfl (by unfold widthS; rw [if_pos (.inr hb)]; exact ⟨rfl, Fr.refl _ _⟩)
    · refine CW.skip ?_
      refine NX.seq ?_
      refine CW.seq ?_
      refine CW.region ?_
      refine OW.call rfl rfl cl141 (widths_does w) ?_
      rintro v w1 ⟨rfl, f1⟩
      refine OW.move rfl rfl ?_
      refine OW.index rfl ar214 ct3 rfl rfl (⟨by omega, by omega⟩) (widthS_get (by omega) (by omega)) ?_
      refine OW.assign rfl rfl ?_
      refine OW.nil ?_
      refine NX.seq ?_
      refine CW.ret ?_
      exact NX.ret1 rfl rfl (⟨rfl, f1⟩)

/-- how many copies and actions a rule has -/
def wt (r : Rule) : Nat := r.cps.length + (r.cps.map List.length).sum
def part (c : List (List Actn)) (k : Nat) : Nat := c.length + ((c.take k).map List.length).sum
def greatS (l : List Rule) : Bool := decide (150 < l.length) || l.any fun r => decide (100 < wt r)

theorem part_succ (c : List (List Actn)) (k : Nat) (h : k < c.length) : part c (k + 1) = part c k + c[k].length := by
  unfold part
  rw [List.take_succ_eq_append_getElem h, List.map_append, List.sum_append]
  simp; omega

theorem part_le (c : List (List Actn)) (k : Nat) : part c k ≤ c.length + (c.map List.length).sum := by
  unfold part
  have : ((c.take k).map List.length).sum + ((c.drop k).map List.length).sum = (c.map List.length).sum := by
    rw [← List.sum_append, ← List.map_append, List.take_append_drop]
  omega

theorem wt_part (r : Rule) (k : Nat) (h : part r.cps k ≤ 100 → r.cps.length ≤ k) (h1 : part r.cps k ≤ 100) : wt r ≤ 100 := by
  have := h h1
  unfold part at h1
  rw [List.take_of_length_le this] at h1
  exact h1

theorem all_succ {l : List Rule} {i : Nat} (hall : ∀ j x, j < i → l[j]? = some x → wt x ≤ 100) (hi : i < l.length) (h : wt l[i] ≤ 100) (j : Nat) (x : Rule) (hj : j < i + 1) (hx : l[j]? = some x) : wt x ≤ 100 := by
  rcases Nat.lt_or_ge j i with c | c
  · exact hall j x c hx
  · have e : j = i := by omega
    subst e
    rw [List.getElem?_eq_getElem hi] at hx
    cases hx; exact h

theorem greatS_hit {l : List Rule} {i k : Nat} (hi : i < l.length) (h : 100 < part l[i].cps k) : greatS l = true := by
  have h2 : 100 < wt l[i] := Nat.lt_of_lt_of_le h (part_le _ _)
  simp only [greatS, Bool.or_eq_true, List.any_eq_true]
  exact .inr ⟨l[i], List.getElem_mem hi, by simpa using h2⟩

theorem greatS_end {l : List Rule} {i : Nat} (hall : ∀ j x, j < i → l[j]? = some x → wt x ≤ 100) (h : i < l.length → 150 < i) : greatS l = decide ((l.length : Int) > 150) := by
  unfold greatS
  by_cases c : 150 < l.length
  · simp [c]; omega
  · have e : l.any (fun r => decide (100 < wt r)) = false := by
      rw [List.any_eq_false]
      intro x hx
      obtain ⟨j, hj, rfl⟩ := List.getElem_of_mem hx
      have := hall j l[j] (by omega) (List.getElem?_eq_getElem hj)
      simp; omega
    rw [e]; simp [c]; omega

theorem great_does {X : Nat → Prop} (v : Value) (l : List Rule) (w : World) (h : rulesR X w v l) : Does Try.prog 13 [v] w fun r w' => r = .bool (greatS l) ∧ w' = w := by
  obtain ⟨p, cap, hv, hlen⟩ := h.shape
  subst hv
  refine Does.enter Try.func13 rfl rfl ?_
  show CW _ _ _ _ 52 [] [(0, .slice p l.length cap)] w
  refine CW.seq ?_
  refine CW.region ?_
  refine OW.assign rfl rfl ?_
  refine OW.nil ?_
  refine NX.seq ?_
  refine CW.seq ?_
  refine CW.seq ?_
  refine CW.region ?_
  refine OW.assign rfl rfl ?_
  refine OW.nil ?_
  refine NX.seq ?_
  refine CW.block ?_
  refine CW.loop (α := Nat) (fun i => [(0, .slice p l.length cap), (3, .int .i64 (i : Nat))]) (fun i w' => w' = w ∧ i ≤ l.length ∧ ∀ j x, j < i → l[j]? = some x → wt x ≤ 100) (fun i => l.length - i) 0 (Sub.cons rfl (Sub.cons rfl (Sub.nil _))) ⟨rfl, by omega, fun j x h => absurd h (by omega)⟩ ?_
  rintro i w' ⟨rfl, hi, hall⟩
  refine CW.seq ?_
  refine CW.seq ?_
  refine CW.region ?_
  refine OW.move rfl rfl ?_
  refine OW.move rfl rfl ?_
  refine OW.len rfl el22 rfl ?_
  refine OW.lss rfl rfl rfl ?_
  refine OW.move rfl rfl ?_
  refine OW.ways (s := 10) rfl (fun ha => ?_) (fun ha => ?_)
  · refine OW.gyes rfl rfl ?_
    refine OW.move rfl rfl ?_
    refine OW.gyes rfl rfl ?_
    refine OW.leq rfl rfl rfl ?_
    refine OW.pickT rfl rfl rfl ?_
    refine OW.nil ?_
    refine NX.seq ?_
    refine CW.cond rfl (fun h150 => ?_) (fun h150 => ?_)
    · have hi' : i < l.length := by omega
      obtain ⟨b, o, hp, hrow⟩ := SlR.at' h hi'
      subst hp
      obtain ⟨c, hc, cv, hce, hcv, hwf⟩ := hrow i l[i] (List.getElem?_eq_getElem hi')
      subst hce
      obtain ⟨p2, cap2, hv2, hlen2⟩ := hcv.shape
      subst hv2
      refine CW.skip ?_
      refine NX.seq ?_
      refine CW.seq ?_
      refine CW.block ?_
      refine CW.seq ?_
      refine CW.region ?_
      refine OW.move rfl rfl ?_
      refine OW.move rfl rfl ?_
      refine OW.indexAddr rfl el22 rfl rfl (⟨by omega, by omega⟩) ?_
      refine OW.fieldAddr rfl fo36_2 rfl ?_
      refine OW.load1 rfl ct34 rfl (hc.one 23 rfl) ?_
      refine OW.len rfl el34 rfl ?_
      refine OW.assign rfl rfl ?_
      refine OW.nil ?_
      refine NX.seq ?_
      refine CW.seq ?_
      refine CW.seq ?_
      refine CW.region ?_
      refine OW.assign rfl rfl ?_
      refine OW.nil ?_
      refine NX.seq ?_
      refine CW.block ?_
      refine CW.loop (α := Nat) (fun k => [(0, .slice (some ⟨b, o, none⟩) l.length cap), (3, .int .i64 (i : Nat)), (4, .int .i64 (part l[i].cps k : Nat)), (5, .int .i64 (k : Nat))]) (fun k w'' => w'' = w' ∧ k ≤ l[i].cps.length) (fun k => l[i].cps.length - k) 0 (Sub.cons rfl (Sub.cons rfl (Sub.cons rfl (Sub.cons rfl (Sub.nil _))))) ⟨rfl, by omega⟩ ?_
      rintro k w'' ⟨rfl, hk⟩
      refine CW.seq ?_
      refine CW.seq ?_
      refine CW.region ?_
      refine OW.move rfl rfl ?_
      refine OW.move rfl rfl ?_
      refine OW.move rfl rfl ?_
      refine OW.indexAddr rfl el22 rfl rfl (⟨by omega, by omega⟩) ?_
      refine OW.fieldAddr rfl fo36_2 rfl ?_
      refine OW.load1 rfl ct34 rfl (hc.one 23 rfl) ?_
      refine OW.len rfl el34 rfl ?_
      refine OW.lss rfl rfl rfl ?_
      refine OW.move rfl rfl ?_
      refine OW.ways (s := 30) rfl (fun hkl => ?_) (fun hkl => ?_)
      · refine OW.gyes rfl rfl ?_
        refine OW.move rfl rfl ?_
        refine OW.gyes rfl rfl ?_
        refine OW.leq rfl rfl rfl ?_
        refine OW.pickT rfl rfl rfl ?_
        refine OW.nil ?_
        refine NX.seq ?_
        refine CW.cond rfl (fun h100 => ?_) (fun h100 => ?_)
        · have hk' : k < l[i].cps.length := by omega
          obtain ⟨b2, o2, hp2, hrow2⟩ := SlR.at' hcv hk'
          subst hp2
          obtain ⟨c2, hc2, rv, hr2, hrv⟩ := hrow2 k l[i].cps[k] (List.getElem?_eq_getElem hk')
          subst hr2
          obtain ⟨p3, cap3, hv3, hlen3⟩ := hrv.shape
          subst hv3
          refine CW.skip ?_
          refine NX.seq ?_
          refine CW.seq ?_
          refine CW.block ?_
          refine CW.region ?_
          refine OW.move rfl rfl ?_
          refine OW.move rfl rfl ?_
          refine OW.move rfl rfl ?_
          refine OW.indexAddr rfl el22 rfl rfl (⟨by omega, by omega⟩) ?_
          refine OW.fieldAddr rfl fo36_2 rfl ?_
          refine OW.load1 rfl ct34 rfl (hc.one 23 rfl) ?_
          refine OW.move rfl rfl ?_
          refine OW.indexAddr rfl el34 rfl rfl (⟨by omega, by omega⟩) ?_
          refine OW.load1 rfl ct75 rfl (hc2.head) ?_
          have hpart := part_succ l[i].cps k hk'
          refine OW.len rfl el75 rfl ?_
          refine OW.add rfl rfl rfl (by omega) ?_
          refine OW.assign rfl rfl ?_
          refine OW.nil ?_
          refine NX.blockN ?_
          refine NX.seq ?_
          refine CW.region ?_
          refine OW.move rfl rfl ?_
          refine OW.add rfl rfl rfl (by omega) ?_
          refine OW.assign rfl rfl ?_
          refine OW.nil ?_
          exact NX.loop (k + 1) (Sub.cons rfl (Sub.cons rfl (Sub.cons (by rw [hpart]; rfl) (Sub.cons rfl (Sub.nil _))))) (⟨rfl, by omega⟩) (by omega)
        · refine CW.exit ?_
          refine NX.thenExit ?_
          refine NX.thenExit ?_
          refine NX.blockEq ?_
          refine NX.seq ?_
          refine CW.seq ?_
          refine CW.region ?_
          refine OW.move rfl rfl ?_
          refine OW.gtr rfl rfl rfl ?_
          refine OW.nil ?_
          refine NX.seq ?_
          refine CW.cond rfl (fun hn => ?_) (fun hn => ?_)
          · refine CW.seq ?_
            refine CW.region ?_
            refine OW.assign rfl rfl ?_
            refine OW.nil ?_
            refine NX.seq ?_
            refine CW.ret ?_
            refine NX.blockRet ?_
            refine NX.thenRet ?_
            refine NX.thenRet ?_
            refine NX.blockRet ?_
            refine NX.thenRet ?_
            exact NX.ret1 rfl rfl (⟨by rw [greatS_hit hi' (k := k) (by omega)], rfl⟩)
          · refine CW.skip ?_
            refine NX.blockN ?_
            refine NX.seq ?_
            refine CW.region ?_
            refine OW.move rfl rfl ?_
            refine OW.add rfl rfl rfl (by omega) ?_
            refine OW.assign rfl rfl ?_
            refine OW.nil ?_
            exact NX.loop (i + 1) ((Sub.cons rfl (Sub.cons rfl (Sub.nil _)))) (⟨rfl, by omega, fun j x hj hx => all_succ hall hi' (wt_part l[i] k (by omega) (by omega)) j x hj hx⟩) (by omega)
      · refine OW.gnoD rfl rfl rfl rfl ?_
        refine OW.gnoD rfl rfl rfl rfl ?_
        refine OW.pickF rfl rfl rfl ?_
        refine OW.nil ?_
        refine NX.seq ?_
        refine CW.condF rfl ?_
        refine CW.exit ?_
        refine NX.thenExit ?_
        refine NX.thenExit ?_
        refine NX.blockEq ?_
        refine NX.seq ?_
        refine CW.seq ?_
        refine CW.region ?_
        refine OW.move rfl rfl ?_
        refine OW.gtr rfl rfl rfl ?_
        refine OW.nil ?_
        refine NX.seq ?_
        refine CW.cond rfl (fun hn => ?_) (fun hn => ?_)
        · refine CW.seq ?_
          refine CW.region ?_
          refine OW.assign rfl rfl ?_
          refine OW.nil ?_
          refine NX.seq ?_
          refine CW.ret ?_
          refine NX.blockRet ?_
          refine NX.thenRet ?_
          refine NX.thenRet ?_
          refine NX.blockRet ?_
          refine NX.thenRet ?_
          exact NX.ret1 rfl rfl (⟨by rw [greatS_hit hi' (k := k) (by omega)], rfl⟩)
        · refine CW.skip ?_
          refine NX.blockN ?_
          refine NX.seq ?_
          refine CW.region ?_
          refine OW.move rfl rfl ?_
          refine OW.add rfl rfl rfl (by omega) ?_
          refine OW.assign rfl rfl ?_
          refine OW.nil ?_
          exact NX.loop (i + 1) ((Sub.cons rfl (Sub.cons rfl (Sub.nil _)))) (⟨rfl, by omega, fun j x hj hx => all_succ hall hi' (wt_part l[i] k (by omega) (by omega)) j x hj hx⟩) (by omega)
    · refine CW.exit ?_
      refine NX.thenExit ?_
      refine NX.thenExit ?_
      refine NX.blockEq ?_
      refine NX.seq ?_
      refine CW.seq ?_
      refine CW.region ?_
      refine OW.move rfl rfl ?_
      refine OW.len rfl el22 rfl ?_
      refine OW.gtr rfl rfl rfl ?_
      refine OW.assign rfl rfl ?_
      refine OW.nil ?_
      refine NX.seq ?_
      refine CW.ret ?_
      exact NX.ret1 rfl rfl (⟨by rw [greatS_end hall (by omega)], rfl⟩)
  · refine OW.gnoD rfl rfl rfl rfl ?_
    refine OW.gnoD rfl rfl rfl rfl ?_
    refine OW.pickF rfl rfl rfl ?_
    refine OW.nil ?_
    refine NX.seq ?_
    refine CW.condF rfl ?_
    refine CW.exit ?_
    refine NX.thenExit ?_
    refine NX.thenExit ?_
    refine NX.blockEq ?_
    refine NX.seq ?_
    refine CW.seq ?_
    refine CW.region ?_
    refine OW.move rfl rfl ?_
    refine OW.len rfl el22 rfl ?_
    refine OW.gtr rfl rfl rfl ?_
    refine OW.assign rfl rfl ?_
    refine OW.nil ?_
    refine NX.seq ?_
    refine CW.ret ?_
    exact NX.ret1 rfl rfl (⟨by rw [greatS_end hall (by omega)], rfl⟩)

end Go.Eng
