/-
  More functions of the packages diff and slices, stepped through.
  No condition.
-/
import Derived.Test.YtmdhbgkmkmmmpaaDat3
import Derived.Test.YtmdhbgkmkmmmpaaDg
import Derived.Test.YtmdhbgkmkmmmpaaSrR
import Derived.Test.YtmdhbgkmkmmmpaaProg
import Derived.KernelRfl
namespace Go.Eng.Dh
open Go Go.Eng Go.Proofs
theorem MIX : Try.prog.follows .mixedOrders = true := by kernel_rfl

theorem ag36 : aggSz Try.prog 36 = some 25 := by kernel_rfl
theorem ap75 : apdIs Try.prog 75 = some (89, 3, 16) := by kernel_rfl
theorem cl43 : callable Try.prog 43 = true := by kernel_rfl
theorem cl69 : callable Try.prog 69 = true := by kernel_rfl
theorem cl86 : callable Try.prog 86 = true := by kernel_rfl
theorem cl87 : callable Try.prog 87 = true := by kernel_rfl
theorem ct3 : cellTy Try.prog 3 = true := by kernel_rfl
theorem ct86 : cellTy Try.prog 86 = true := by kernel_rfl
theorem el75 : elemIs Try.prog 75 = some (89, 3) := by kernel_rfl
theorem fo36_0 : fieldOff Try.prog 36 0 = some 0 := by kernel_rfl
theorem sl75 : Try.prog.underlying 75 = some (.slice 89) := by kernel_rfl
theorem zr89 : zeroIs Try.prog 89 = some (.agg #[.int .i8 0, .int .i8 0, .int .u64 0]) := by kernel_rfl

theorem acts_one (xs : List Actn) : ∀ c ∈ catL Actn.cells xs, c.oneCell' = true := by
  induction xs with
  | nil => intro c hc; simp [catL] at hc
  | cons x xs ih =>
    intro c hc
    rcases List.mem_append.1 hc with h | h
    · simp only [Actn.cells, List.mem_cons, List.not_mem_nil, or_false] at h
      rcases h with rfl | rfl | rfl <;> rfl
    · exact ih c h

theorem clone_does {X : Nat → Prop} {xs : List Actn} {v : Value} (w : World) (hx : SlR 3 actR X w v xs) (hbd : xs.length * 16 ≤ 140737488355328) : Does Try.prog 44 [v] w fun r w' => SlR 3 actR (fun j => w.heap.size ≤ j) w' r xs ∧ Fr0 w w' := by
  obtain ⟨pa, ca, hv, hl⟩ := hx.shape
  subst hv
  refine Does.enter Try.func44 rfl rfl ?_
  show CW _ _ _ _ 8 [] [(0, .slice pa xs.length ca)] w
  refine CW.seq ?_
  refine CW.region ?_
  refine OW.assign rfl rfl ?_
  refine OW.nil ?_
  refine NX.seq ?_
  refine CW.seq ?_
  refine CW.seq ?_
  refine CW.region ?_
  refine OW.move rfl rfl ?_
  refine OW.eqlNil rfl sl75 rfl rfl ?_
  refine OW.nil ?_
  refine NX.seq ?_
  refine CW.condB rfl (fun hn => ?_) (fun hn => ?_)
  · refine CW.seq ?_
    refine CW.region ?_
    refine OW.assign rfl rfl ?_
    refine OW.nil ?_
    refine NX.seq ?_
    refine CW.ret ?_
    refine NX.thenRet ?_
    have h0 : xs = [] := by
      rcases hx with ⟨p, cap, _, h⟩ | ⟨b, o, cap, h, _⟩
      · exact h
      · injection h with h; rw [h] at hn; cases hn
    subst h0
    exact NX.ret1 rfl rfl (⟨.inl ⟨none, 0, rfl, rfl⟩, Fr.refl _ _⟩)
  · refine CW.skip ?_
    refine NX.seq ?_
    refine CW.seq ?_
    refine CW.region ?_
    refine OW.buildSlice (z := .agg #[.int .i8 0, .int .i8 0, .int .u64 0]) rfl el75 zr89 rfl rfl rfl rfl rfl ?_
    intro b1 w1 n1
    refine OW.move rfl rfl ?_
    by_cases h0 : xs = []
    · subst h0
      refine OW.append0 rfl ap75 rfl (Nat.le_refl _) rfl ?_
      refine OW.assign rfl rfl ?_
      refine OW.nil ?_
      refine NX.seq ?_
      refine CW.ret ?_
      exact NX.ret1 rfl rfl (⟨.inl ⟨_, _, rfl, rfl⟩, n1.fr⟩)
    · obtain ⟨b, o, hp, hrow⟩ := SlR.at' hx (i := 0) (by have := List.length_pos_iff.2 h0; omega)
      subst hp
      refine OW.append (news := catL Actn.cells xs) rfl ap75 rfl rfl (Own.fresh n1) ((acts_cells hrow).frame n1.fr id) (catL_len (f := Actn.cells) (fun _ => rfl) xs) (acts_one xs) (by rw [Nat.zero_add]; exact hbd) (by rw [Nat.zero_add]; exact hl) ?_
      intro v2 w2 o2 f2 g2
      refine OW.assign rfl rfl ?_
      refine OW.nil ?_
      refine NX.seq ?_
      refine CW.ret ?_
      rw [Nat.zero_add, List.nil_append] at o2
      have hnb : ∀ k, k < w.heap.size → (Value.slice (some ⟨b1, 0, none⟩) 0 0).ownBlock = some k → False := fun k h c => by
        have e : b1 = k := Option.some.inj c
        have := n1.fresh
        omega
      exact NX.ret1 rfl rfl (⟨(acts_own o2 (acts_wf hx)).sl actR_ok (fun k hk => by
            have := n1.fresh
            rcases g2 k hk with c | c
            · have e : b1 = k := Option.some.inj c
              omega
            · have := n1.size; omega) hl, n1.fr.trans' f2 hnb⟩)

theorem rankOf_does (rk : Int) (m : Mat) (cv : Value) (ck : Nat) (w : World) : Does Try.prog 43 [.agg (ruleCells rk m cv ck).toArray] w fun v w' => v = .int .i64 rk ∧ Fr0 w w' := by
  refine Does.enter Try.func43 rfl rfl ?_
  show CW _ _ _ _ 5 [] [(0, .agg (ruleCells rk m cv ck).toArray)] w
  refine CW.seq ?_
  refine CW.region ?_
  refine OW.boxA rfl rfl ?_
  intro b1 w1 n1
  refine OW.assign rfl rfl ?_
  refine OW.nil ?_
  refine NX.seq ?_
  refine CW.seq ?_
  refine CW.region ?_
  refine OW.fieldAddr rfl fo36_0 rfl ?_
  refine OW.load1 rfl ct3 rfl (n1.bk.cell (o := 0) rfl) ?_
  refine OW.assign rfl rfl ?_
  refine OW.nil ?_
  refine NX.seq ?_
  refine CW.ret ?_
  exact NX.ret1 rfl rfl (⟨rfl, n1.fr⟩)

theorem fall1_does (rka : Int) (ma : Mat) (cva : Value) (cka : Nat) (rkb : Int) (mb : Mat) (cvb : Value) (ckb : Nat) (bx : Nat) (w : World) (hc : w.cell? ⟨bx, 0, none⟩ = some (.func (.func 43) #[] #[])) :
    Does Try.prog 87 [.agg (ruleCells rka ma cva cka).toArray, .agg (ruleCells rkb mb cvb ckb).toArray, .pointer (some ⟨bx, 0, none⟩)] w fun v w' => v = .int .i64 (Dg.cmpI rkb rka) ∧ Fr0 w w' := by
  refine Does.enter Try.func87 rfl rfl ?_
  show CW _ _ _ _ 13 [] [(0, .agg (ruleCells rka ma cva cka).toArray), (1, .agg (ruleCells rkb mb cvb ckb).toArray), (2, .pointer (some ⟨bx, 0, none⟩))] w
  refine CW.seq ?_
  refine CW.region ?_
  refine OW.boxA rfl rfl ?_
  intro b1 w1 n1
  refine OW.boxA rfl rfl ?_
  intro b2 w2 n2
  refine OW.assign rfl rfl ?_
  refine OW.nil ?_
  refine NX.seq ?_
  refine CW.seq ?_
  have k1 : Bk w2 b1 36 (ruleCells rka ma cva cka) := n1.bk.frame n2.fr id
  have k2 : Bk w2 b2 36 (ruleCells rkb mb cvb ckb) := n2.bk
  have k3 : w2.cell? ⟨bx, 0, none⟩ = some (.func (.func 43) #[] #[]) := cell_keep (cell_keep hc n1.fr id) n2.fr id
  refine CW.drawT 7 [⟨0, 0, false⟩, ⟨0, 0, false⟩, ⟨0, 0, false⟩, ⟨0, 0, false⟩, ⟨0, 0, false⟩, ⟨0, 0, false⟩, ⟨0, 0, false⟩] 0 [.func (.func 43) #[] #[], .agg (ruleCells rkb mb cvb ckb).toArray, .int .i64 rkb, .func (.func 43) #[] #[], .agg (ruleCells rka ma cva cka).toArray, .int .i64 rka, .int .i64 (Dg.cmpI rkb rka)] (fun _ zw => Fr0 w2 zw) MIX rfl rfl rfl (Fr.drew w2) ?_ ?_
  · refine drawAll.cons (fun Lt zc w3 h1 h2 hr => ?_) ?_
    · obtain rfl : zc = 0 := Nat.le_antisymm h2 h1
      exact OW.load1 rfl ct86 rfl (cell_keep k3 hr id) (OW.nil (NX.givesD rfl hr))
    refine drawAll.cons (fun Lt zc w3 h1 h2 hr => ?_) ?_
    · obtain rfl : zc = 0 := Nat.le_antisymm h2 h1
      exact OW.loadA rfl ag36 rfl ((Bk.frame k2 hr id).seg) rfl (OW.nil (NX.givesD rfl hr))
    refine drawAll.cons (fun Lt zc w3 h1 h2 hr => ?_) ?_
    · obtain rfl : zc = 0 := Nat.le_antisymm h2 h1
      refine OW.callF rfl rfl rfl cl43 (rankOf_does rkb mb cvb ckb w3) ?_
      rintro _ w4 ⟨rfl, f4⟩
      exact OW.nil (NX.givesD rfl (Fr0.trans hr f4))
    refine drawAll.cons (fun Lt zc w3 h1 h2 hr => ?_) ?_
    · obtain rfl : zc = 0 := Nat.le_antisymm h2 h1
      exact OW.load1 rfl ct86 rfl (cell_keep k3 hr id) (OW.nil (NX.givesD rfl hr))
    refine drawAll.cons (fun Lt zc w3 h1 h2 hr => ?_) ?_
    · obtain rfl : zc = 0 := Nat.le_antisymm h2 h1
      exact OW.loadA rfl ag36 rfl ((Bk.frame k1 hr id).seg) rfl (OW.nil (NX.givesD rfl hr))
    refine drawAll.cons (fun Lt zc w3 h1 h2 hr => ?_) ?_
    · obtain rfl : zc = 0 := Nat.le_antisymm h2 h1
      refine OW.callF rfl rfl rfl cl43 (rankOf_does rka ma cva cka w3) ?_
      rintro _ w4 ⟨rfl, f4⟩
      exact OW.nil (NX.givesD rfl (Fr0.trans hr f4))
    refine drawAll.cons (fun Lt zc w3 h1 h2 hr => ?_) ?_
    · obtain rfl : zc = 0 := Nat.le_antisymm h2 h1
      refine OW.call rfl rfl cl69 (Dg.compare_does rkb rka w3) ?_
      rintro _ w4 ⟨rfl, e4⟩
      exact OW.nil (NX.givesD rfl (e4 ▸ hr))
    exact drawAll.nil
  intro w3 hr
  refine OW.assign rfl rfl ?_
  refine OW.nil ?_
  refine NX.seq ?_
  refine CW.ret ?_
  exact NX.ret1 rfl rfl (⟨rfl, (n1.fr.trans n2.fr).trans hr⟩)

theorem cmpI_lt (a b : Int) : (Dg.cmpI a b < 0) = (a < b) := by
  unfold Dg.cmpI
  split
  · simp [*]
  · split <;> simp <;> omega

theorem lessOf_rank (r : Nat → Int) : lessOf (fun i j => Dg.cmpI (r j) (r i)) = fun i j => decide (r j < r i) := by
  funext i j
  simp only [lessOf, cmpI_lt]

theorem cmpI_ord (r : Nat → Int) : SOrd (lessOf fun i j => Dg.cmpI (r j) (r i)) := by
  rw [lessOf_rank]
  refine ⟨fun {i j} h => ?_, fun {i j k} h g => ?_⟩
  · simp at h ⊢; omega
  · simp at h g ⊢; omega

theorem falling_does {X : Nat → Prop} {w : World} {b n cap T : Nat} {pre post : List Value} {f : Nat → List Value} {xs : Nat → Rule} (hn : n ≤ 140737488355328) (hA : Arr w b T 25 n pre post f) (hR : ∀ i, i < n → ruleR X w (f i) (xs i)) :
    Does Try.prog 42 [.slice (some ⟨b, pre.length, none⟩) n cap, .func (.func 43) #[] #[]] w fun _ w' => ∃ q, Pm 0 n id q ∧ So (lessOf fun i j => Dg.cmpI (xs j).rank (xs i).rank) q 0 n ∧ Arr w' b T 25 n pre post (fun k => f (q k)) ∧ Fr (fun k => k = b) w w' := by
  refine Does.enter Try.func42 rfl rfl ?_
  show CW _ _ _ _ 7 [] [(0, .slice (some ⟨b, pre.length, none⟩) n cap), (1, .func (.func 43) #[] #[])] w
  refine CW.seq ?_
  refine CW.region ?_
  refine OW.box rfl rfl ?_
  intro b1 w1 n1
  refine OW.nil ?_
  refine NX.seq ?_
  refine CW.region ?_
  refine OW.move rfl rfl ?_
  refine OW.makeFunc (us := []) (vs := [.pointer (some ⟨b1, 0, none⟩)]) rfl rfl rfl ?_
  have hb1 : b1 ≠ b := by have := n1.fresh; have := hA.bk.lt; omega
  have hC : Cmpr Try.prog (.func (.func 87) #[] #[.pointer (some ⟨b1, 0, none⟩)]) w1 b (fun c => .agg c.toArray) n f (fun i j => Dg.cmpI (xs j).rank (xs i).rank) := by
    refine ⟨87, #[], #[.pointer (some ⟨b1, 0, none⟩)], rfl, cl87, fun w2 f2 i j hi hj => ?_⟩
    obtain ⟨cvi, ei, _⟩ := hR i hi
    obtain ⟨cvj, ej, _⟩ := hR j hj
    have hcell : w2.cell? ⟨b1, 0, none⟩ = some (.func (.func 43) #[] #[]) := cell_keep (Bk.cell (cs := [.func (.func 43) #[] #[]]) n1.bk rfl) f2 hb1
    show Does Try.prog 87 [.agg (f i).toArray, .agg (f j).toArray, .pointer (some ⟨b1, 0, none⟩)] w2 _
    rw [ei, ej]
    exact fall1_does _ _ _ _ _ _ _ _ b1 w2 hcell
  refine OW.call rfl rfl cl86 (SR.sort_SR hC (cmpI_ord fun i => (xs i).rank) hn (hA.frame n1.fr id)) ?_
  rintro _ w3 ⟨q, h1, h2, h3, h4⟩
  refine OW.nil ?_
  exact NX.ret0 (.inr rfl) rfl (⟨q, h1, h2, h3, (Fr0.any n1.fr).trans h4⟩)

theorem falling0_does {w : World} {pa : Option Addr} {cap : Nat} : Does Try.prog 42 [.slice pa 0 cap, .func (.func 43) #[] #[]] w fun _ w' => Fr0 w w' := by
  refine Does.enter Try.func42 rfl rfl ?_
  show CW _ _ _ _ 7 [] [(0, .slice pa 0 cap), (1, .func (.func 43) #[] #[])] w
  refine CW.seq ?_
  refine CW.region ?_
  refine OW.box rfl rfl ?_
  intro b1 w1 n1
  refine OW.nil ?_
  refine NX.seq ?_
  refine CW.region ?_
  refine OW.move rfl rfl ?_
  refine OW.makeFunc (us := []) (vs := [.pointer (some ⟨b1, 0, none⟩)]) rfl rfl rfl ?_
  refine OW.call rfl rfl cl86 (SR.sort0_SR) ?_
  rintro _ w3 rfl
  refine OW.nil ?_
  exact NX.ret0 (.inr rfl) rfl (n1.fr)

end Go.Eng.Dh
