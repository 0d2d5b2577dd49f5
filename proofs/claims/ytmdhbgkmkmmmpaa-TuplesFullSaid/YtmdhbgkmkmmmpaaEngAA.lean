/-
  The engine, part AA: an owned slice that is written into, cut, and cleared.
  No condition: general lemmas over any program.
-/
import Derived.Test.YtmdhbgkmkmmmpaaEngY
namespace Go.Eng
open Go

variable {P : Program} {Q : Exit → Act → World → Prop} {w w' : World} {n : Nat} {D : List Deferred} {L : List (Nat × Value)} {ops : Array Oper} {todo : List Oper}
variable {d : Nat} {t t' ty : TypeId} {pos : String} {af : Array Edge} {x y lo hi mx : Operand} {v : Value} {b o k e sz : Nat} {i j q : Int} {ik jk qk : IntKind}

theorem upd_take {cur c : List Value} {n i sz : Nat} (hi : i * sz + c.length ≤ n * sz) (hn : n * sz ≤ cur.length) : (upd cur (i * sz) c).take (n * sz) = upd (cur.take (n * sz)) (i * sz) c := by
  unfold upd
  apply List.ext_getElem?
  intro j
  simp only [List.getElem?_take, List.getElem?_append, List.length_append, List.length_take, List.getElem?_drop]
  by_cases h1 : j < n * sz
  · rw [if_pos h1]
    by_cases h2 : j < i * sz
    · have a1 : j < min (i * sz) cur.length + c.length := by omega
      have a2 : j < min (i * sz) cur.length := by omega
      have a3 : j < min (i * sz) (min (n * sz) cur.length) + c.length := by omega
      have a4 : j < min (i * sz) (min (n * sz) cur.length) := by omega
      simp only [a1, a2, a3, a4, if_true, h2, h1]
    · by_cases h3 : j < i * sz + c.length
      · have a1 : j < min (i * sz) cur.length + c.length := by omega
        have a2 : ¬ j < min (i * sz) cur.length := by omega
        have a3 : j < min (i * sz) (min (n * sz) cur.length) + c.length := by omega
        have a4 : ¬ j < min (i * sz) (min (n * sz) cur.length) := by omega
        simp only [a1, a2, a3, a4, if_true, if_false]
        congr 1; omega
      · have a1 : ¬ j < min (i * sz) cur.length + c.length := by omega
        have a3 : ¬ j < min (i * sz) (min (n * sz) cur.length) + c.length := by omega
        simp only [a1, a3, if_false]
        have e1 : i * sz + c.length + (j - (min (i * sz) cur.length + c.length)) = j := by omega
        have e2 : i * sz + c.length + (j - (min (i * sz) (min (n * sz) cur.length) + c.length)) = j := by omega
        rw [e1, e2, if_pos h1]
  · rw [if_neg h1]
    have a3 : ¬ j < min (i * sz) (min (n * sz) cur.length) + c.length := by omega
    simp only [a3, if_false]
    have e2 : i * sz + c.length + (j - (min (i * sz) (min (n * sz) cur.length) + c.length)) = j := by omega
    rw [e2, if_neg h1]

theorem catI_set {sz : Nat} {c : List Value} (hc : c.length = sz) : ∀ {cs : List (List Value)} {i : Nat}, (∀ q ∈ cs, q.length = sz) → i < cs.length → upd (catI cs) (i * sz) c = catI (cs.set i c)
  | [], i, _, h => by simp at h
  | q :: cs, 0, h, _ => by
    have hq := h q (by simp)
    unfold upd
    simp only [Nat.zero_mul, List.take_zero, List.nil_append, Nat.zero_add, List.set_cons_zero, catI, catL, id]
    rw [hc, ← hq, List.drop_left]
  | q :: cs, i + 1, h, hi => by
    have hq := h q (by simp)
    have ih := catI_set hc (cs := cs) (i := i) (fun r hr => h r (by simp [hr])) (by simpa using hi)
    simp only [List.set_cons_succ]
    have e1 : catI (q :: cs.set i c) = q ++ catI (cs.set i c) := rfl
    have e2 : catI (q :: cs) = q ++ catI cs := rfl
    rw [e1, e2, ← ih]
    unfold upd
    rw [show (i + 1) * sz = q.length + i * sz by rw [hq, Nat.succ_mul]; omega, List.take_append, List.drop_append]
    simp only [Nat.add_sub_cancel_left, List.append_assoc]
    rw [List.take_of_length_le (by omega), List.drop_of_length_le (by omega)]
    simp only [List.nil_append]
    rw [show q.length + i * sz + c.length - q.length = i * sz + c.length by omega]

section own
variable {α : Type} {R : Rep α} {X : Nat → Prop} {xs : List α}

/-- the block of a slice that is owned -/
theorem OwnSl.blk {p : Option Addr} {m cap : Nat} (h : OwnSl e sz R X w (.slice p m cap) xs) (hm : p = none → 0 < xs.length) : ∃ b cur, p = some ⟨b, 0, none⟩ ∧ m = xs.length ∧ m ≤ cap ∧ Bk w b e cur ∧ cur.length = cap * sz ∧
    ∀ {w' : World} {cur' : List Value} {ys : List α} {ds : List (List Value)}, Bk w' b e cur' → cur'.length = cap * sz → ys.length = xs.length → ds.length = ys.length → (∀ c ∈ ds, c.length = sz) → cur'.take (xs.length * sz) = catI ds →
      (∀ (i : Nat) (x : α) (c : List Value), ys[i]? = some x → ds[i]? = some c → R X w' c x) → OwnSl e sz R X w' (.slice p m cap) ys := by
  obtain ⟨cs, h1, h2, h3, h4⟩ := h
  rcases h1.2 with ⟨h5, h6⟩ | ⟨g, cap', cur, hv, hg, hh, hn, hc, hz, ht⟩
  · have := hm (by simpa using congrArg (fun v => match v with | Value.slice p _ _ => p | _ => none) h5)
    omega
  · cases hv
    refine ⟨g, cur.toList, rfl, rfl, hn, by simpa [Bk] using hh, by simpa using hz, fun {w' cur' ys ds} hb hl hy hd hs htk hr => ?_⟩
    refine ⟨ds, ⟨by rw [catI_len hs, hd], .inr ⟨g, cap, cur'.toArray, by rw [hy], hg, hb, by omega, hc, by simpa using hl, by rw [hy]; simpa using htk⟩⟩, hd, hs, hr⟩

/-- one element is laid anew -/
theorem OW.storeOwn {p : Option Addr} {cap : Nat} {z : α} {c : List Value} (hR : R.Ok sz) (hx : evl L x = some (.pointer (some ⟨b, k, none⟩))) (hy : evl L y = some v) (ht : sizeIs P t = some sz) (hvc : v.cells.toList = c)
    (hown : OwnSl e sz R X w (.slice p xs.length cap) xs) {i : Nat} (hi : i < xs.length) (hp : p = some ⟨b, 0, none⟩) (hk : k = i * sz) (hc : R X w c z) (hX : ¬ X b)
    (h : ∀ w', OwnSl e sz R X w' (.slice p xs.length cap) (xs.set i z) → Fr (fun k => k = b) w w' → w'.heap.size = w.heap.size → OW P ops Q n D todo L w') :
    OW P ops Q n D (⟨none, .store t x y, ty, pos, af, none⟩ :: todo) L w := by
  have hown0 := hown
  obtain ⟨b', cur, hp', _, hcap, hb, hl, mk⟩ := hown.blk (fun _ => by omega)
  rw [hp] at hp'
  cases hp'
  obtain ⟨cs, h1, h2, h3, h4⟩ := hown0
  have hcl : c.length = sz := hR.len hc
  have hvl : v.cells.size = sz := by have := congrArg List.length hvc; simpa [hcl] using this
  have hm : (i + 1) * sz ≤ xs.length * sz := Nat.mul_le_mul_right _ hi
  rw [Nat.succ_mul] at hm
  have hm2 : xs.length * sz ≤ cap * sz := Nat.mul_le_mul_right _ hcap
  have hcat : (catI cs).length = xs.length * sz := by rw [catI_len h3, h2]
  have htake : cur.take (xs.length * sz) = catI cs := by
    rcases h1.2 with ⟨h5, h6⟩ | ⟨g, cap', cur2, hv, hg, hh, hn, hcc, hz, ht2⟩
    · rw [hp] at h5; simp at h5
    · rw [hp] at hv; cases hv
      have e := hb
      unfold Bk at e
      rw [hh] at e
      cases e
      simpa using ht2
  refine OW.store hx hy (by rw [hvl]; exact ht) hb (by rw [hvl, hk, hl]; omega) (fun u hu => hR.one hc u (by rw [← hvc]; exact hu)) fun w' f s hb' => ?_
  refine h w' (mk (ds := cs.set i c) hb' ?_ (by simp) (by simp [h2]) (fun r hr => ?_) ?_ fun j z' c' hz hc' => ?_) f s
  · rw [hvc, upd_length (by rw [hk, hcl, hl]; omega)]; exact hl
  · rcases List.mem_or_eq_of_mem_set hr with a | rfl
    · exact h3 r a
    · exact hcl
  · rw [hvc, hk, upd_take (by rw [hcl]; omega) (by rw [hl]; omega), htake, catI_set hcl h3 (by omega)]
  · rw [List.getElem?_set] at hz hc'
    by_cases a : i = j
    · subst a
      simp only [if_true, hi, show i < cs.length by omega] at hz hc'
      cases hz; cases hc'
      exact hR.frame hc f fun q hq e => hX (e ▸ hq)
    · rw [if_neg a] at hz hc'
      exact hR.frame (h4 j z' c' hz hc') f fun q hq e => hX (e ▸ hq)

/-- the first ones of an owned slice, as an owned slice -/
theorem OwnSl.pre {p : Option Addr} {cap i : Nat} (h : OwnSl e sz R X w (.slice p xs.length cap) xs) (hi : i ≤ xs.length) (hp : p ≠ none) : OwnSl e sz R X w (.slice p i cap) (xs.take i) := by
  obtain ⟨cs, h1, h2, h3, h4⟩ := h
  have hlen : (xs.take i).length = i := by rw [List.length_take]; omega
  rcases h1.2 with ⟨h5, h6⟩ | ⟨g, cap', cur, hv, hg, hh, hn, hc, hz, ht⟩
  · exact absurd (by simpa using congrArg (fun v => match v with | Value.slice p _ _ => p | _ => none) h5) hp
  · cases hv
    have e : catI (cs.take i) = (catI cs).take (i * sz) := by
      have gen : ∀ (cs : List (List Value)) (i : Nat), (∀ c ∈ cs, c.length = sz) → catI (cs.take i) = (catI cs).take (i * sz) := by
        intro cs
        induction cs with
        | nil => intro i _; simp [catI, catL]
        | cons c cs ih =>
          intro i h
          cases i with
          | zero => simp [catI, catL]
          | succ i =>
            have hc := h c (by simp)
            have := ih i fun q hq => h q (by simp [hq])
            rw [List.take_succ_cons]
            have e1 : catI (c :: cs.take i) = c ++ catI (cs.take i) := rfl
            have e2 : catI (c :: cs) = c ++ catI cs := rfl
            have q1 : c.take ((i + 1) * sz) = c := List.take_of_length_le (by rw [Nat.succ_mul]; omega)
            rw [e1, e2, this, List.take_append, q1, hc, show (i + 1) * sz - sz = i * sz by rw [Nat.succ_mul]; omega]
      exact gen cs i h3
    have hle : i * sz ≤ xs.length * sz := Nat.mul_le_mul_right _ hi
    refine ⟨cs.take i, ⟨?_, .inr ⟨g, cap, cur, by rw [hlen], hg, hh, by omega, hc, hz, ?_⟩⟩, by rw [hlen, List.length_take]; omega, fun c hc => h3 c (List.mem_of_mem_take hc), fun j x c hx hc => ?_⟩
    · rw [catI_len fun c hc => h3 c (List.mem_of_mem_take hc), hlen, List.length_take, h2, Nat.min_eq_left hi]
    · rw [hlen, e, ← ht, List.take_take, Nat.min_eq_left hle]
    · rw [List.getElem?_take] at hx hc
      split at hx
      · rename_i hj
        rw [if_pos hj] at hc
        exact h4 j x c hx hc
      · cases hx

/-- an owned slice, its rest changed -/
theorem OwnSl.rest {p : Option Addr} {cap : Nat} {cur cur' : List Value} (hR : R.Ok sz) (h : OwnSl e sz R X w (.slice p xs.length cap) xs) (hp : p = some ⟨b, 0, none⟩) (hb : Bk w b e cur) (hb' : Bk w' b e cur') (hl : cur'.length = cur.length)
    (ht : cur'.take (xs.length * sz) = cur.take (xs.length * sz)) (f : Fr (fun k => k = b) w w') (hX : ¬ X b) : OwnSl e sz R X w' (.slice p xs.length cap) xs := by
  obtain ⟨cs, h1, h2, h3, h4⟩ := h
  rcases h1.2 with ⟨h5, h6⟩ | ⟨g, cap', cur2, hv, hg, hh, hn, hc, hz, ht2⟩
  · rw [hp] at h5; simp at h5
  · rw [hp] at hv; cases hv
    have e := hb
    unfold Bk at e
    rw [hh] at e
    cases e
    refine ⟨cs, ⟨h1.1, .inr ⟨b, cap, cur'.toArray, by rw [hp], hg, hb', hn, hc, by simp at hz ⊢; omega, ?_⟩⟩, h2, h3, fun i x c hx hc => hR.frame (h4 i x c hx hc) f fun q hq e => hX (e ▸ hq)⟩
    simp only at ht2 ⊢
    rw [ht]; exact ht2
end own

theorem run_storeCells_upd {cs : List Value} {T : Nat} {vs : List Value} (hb : Bk w b T cs) (hfit : o + vs.length ≤ cs.length) (h1 : ∀ x ∈ vs, x.oneCell' = true) :
    (storeCells ⟨b, o, none⟩ vs).run P w = .ok () (w.setRow b (upd cs o vs).toArray) := by
  have := run_storeCells_at P b o T vs 0 cs.toArray w hb (by simpa using hfit) h1
  simp only [Nat.add_zero] at this
  rw [this]
  simp [upd]

/-- clear of a piece of a block: what stands there afterwards is not told, all else stays -/
theorem OW.clear {c m : Nat} {cs : List Value} {T : Nat} {z : Value} (ht : P.underlying t = some (.slice e)) (hz : zeroIs P e = some z) (hx : evl L x = some (.slice (some ⟨b, o, none⟩) m c)) (hb : Bk w b T cs) (hfit : o + m * z.cells.size ≤ cs.length) (h1 : ∀ u ∈ z.cells.toList, u.oneCell' = true)
    (h : ∀ w' cs', Fr (fun k => k = b) w w' → w'.heap.size = w.heap.size → Bk w' b T cs' → cs'.length = cs.length → cs'.take o = cs.take o → OW P ops Q n D todo L w') :
    OW P ops Q n D (⟨none, .call ⟨.builtin .clear, #[x], #[t]⟩, ty, pos, af, none⟩ :: todo) L w := by
  have hres : ∃ w' cs', (Builtin.clear_ #[t] ty #[.slice (some ⟨b, o, none⟩) m c]).run P w = .ok (.tuple #[]) w' ∧ Fr (fun k => k = b) w w' ∧ w'.heap.size = w.heap.size ∧ Bk w' b T cs' ∧ cs'.length = cs.length ∧ cs'.take o = cs.take o := by
    cases m with
    | zero =>
      refine ⟨w, cs, ?_, Fr.refl _ _, rfl, hb, rfl, rfl⟩
      simp [Builtin.clear_, run_underlying ht]
    | succ m =>
      have hzv : (zeroValue e).run P w = .ok z w := by
        simp only [zeroIs, Option.bind_eq_some_iff] at hz
        obtain ⟨i, hi, hv⟩ := hz
        simp [zeroValue, run_typeInfo' hi, hv]
      have hlen : (Builtin.zeroCells z.cells (m + 1)).toList.length = (m + 1) * z.cells.size := by simp [Builtin.zeroCells]
      have hone : ∀ u ∈ (Builtin.zeroCells z.cells (m + 1)).toList, u.oneCell' = true := by
        intro u hu
        simp only [Builtin.zeroCells, Array.toList_map, Array.toList_range, List.mem_map, List.mem_range] at hu
        obtain ⟨j, hj, rfl⟩ := hu
        have hpos : 0 < z.cells.size := by
          rcases Nat.eq_zero_or_pos z.cells.size with c | c
          · rw [c] at hj; omega
          · exact c
        have hlt := Nat.mod_lt j hpos
        rw [getElem!_pos z.cells _ hlt]
        exact h1 _ (by simp)
      have hr := run_storeCells_upd (P := P) (o := o) (vs := (Builtin.zeroCells z.cells (m + 1)).toList) hb (by rw [hlen]; exact hfit) hone
      refine ⟨_, _, ?_, setRow_fr w b _, setRow_size w b _, hb.setRow, upd_length (by rw [hlen]; exact hfit), ?_⟩
      · simp only [Builtin.clear_, List.getElem?_toArray, List.getElem?_cons_zero, Sem.run_bind, run_underlying ht, Result.andThen_ok, hzv, hr]
        rfl
      · unfold upd
        rw [List.append_assoc, List.take_append, List.take_of_length_le (by rw [List.length_take]; omega), List.length_take]
        have : o - min o cs.length = 0 := by have := hfit; omega
        rw [this, List.take_zero, List.append_nil]
  obtain ⟨w', cs', hr, a, b', c', d', e'⟩ := hres
  have hk := h w' cs' a b' c' d' e'
  intro act ha
  simp only [wpL]
  rw [if_pos (by simp [Region.wanted])]
  refine ⟨fun _ _ => trivial, ?_⟩
  have hrun : (execOp act.eval ⟨none, .call ⟨.builtin .clear, #[x], #[t]⟩, ty, pos, af, none⟩).run P w = .ok (.value (.tuple #[])) w' := by
    simp only [execOp, resolve, Sem.run_bind, Sem.run_pure, Result.andThen_ok, invoke, builtin]
    simp only [List.map_toArray, List.map_cons, List.map_nil, ha.eval hx, hr]
    rfl
  show Oper.uponIn _ _ _ _ _ _ _ ((Oper.semAt none act.eval _).run P w)
  rw [Oper.semAt_none, hrun]
  exact hk _ ha

/-- what is appended to a slice that is owned, where there is room -/
theorem OW.appendIn {by' len m c cap g : Nat} {xs news : List Value} (hd : Nat.blt d n = true) (ht : apdIs P t = some (e, sz, by')) (hx : evl L x = some (.slice (some ⟨g, 0, none⟩) len cap)) (hy : evl L y = some (.slice (some ⟨b, o, none⟩) m c))
    (hown : Own w e sz (.slice (some ⟨g, 0, none⟩) len cap) len xs) (hs : Seg w b o news) (hl : news.length = m * sz) (h1 : ∀ u ∈ news, u.oneCell' = true) (hb : (len + m) * by' ≤ 140737488355328) (h63 : len + m ≤ 140737488355328) (hroom : len + m ≤ cap)
    (h : ∀ w', Own w' e sz (.slice (some ⟨g, 0, none⟩) (len + m) cap) (len + m) (xs ++ news) → Fr (fun k => k = g) w w' → OW P ops Q n D todo ((d, .slice (some ⟨g, 0, none⟩) (len + m) cap) :: L) w') :
    OW P ops Q n D (⟨some d, .call ⟨.builtin .append, #[x, y], #[t, t]⟩, ty, pos, af, none⟩ :: todo) L w := by
  obtain ⟨v', w', hr, h2, h3, h4⟩ := run_append (P := P) (c := c) ht hown hl hs h1 hb h63 ty
  have hv : v' = .slice (some ⟨g, 0, none⟩) (len + m) cap := by
    simp only [apdIs] at ht
    split at ht
    rotate_left
    · cases ht
    rename_i e' htt
    split at ht
    rotate_left
    · cases ht
    rename_i i hi
    split at ht
    rotate_left
    · cases ht
    rename_i z hz
    split at ht
    rotate_left
    · cases ht
    rename_i hc
    simp only [Option.some.injEq, Prod.mk.injEq] at ht
    obtain ⟨rfl, rfl, rfl⟩ := ht
    have hnews : ∀ j u, news[j]? = some u → w.cell? ((⟨b, o, none⟩ : Addr).add j) = some u := fun j u e => by rw [add_none]; exact hs j u e
    rcases hown.2 with ⟨q1, _⟩ | ⟨g', cap', cur, hv, hbg, hg, hnc, hcm, hcs, htake⟩
    · cases q1
    · cases hv
      have hfit : len * i.size + news.length ≤ cur.size := by rw [hl, hcs, ← Nat.add_mul]; exact Nat.mul_le_mul_right _ hroom
      have hr' := run_append_room (P := P) w t ty _ i htt hi g len cap cur hg ⟨b, o, none⟩ m c news hl hnews h1 hroom hfit
      rw [hr'] at hr
      simp only [Result.ok.injEq] at hr
      exact hr.1.symm
  subst hv
  refine OW.value rfl rfl hd (fun a ha => ?_) (h w' h2 (h3.mono fun k _ q => by cases q; rfl))
  simp only [execOp, resolve, Sem.run_bind, Sem.run_pure, Result.andThen_ok, invoke, builtin]
  simp only [List.map_toArray, List.map_cons, List.map_nil, ha.eval hx, ha.eval hy, hr]
  rfl

theorem catI_app (xs ys : List (List Value)) : catI (xs ++ ys) = catI xs ++ catI ys := by
  unfold catI
  induction xs with
  | nil => rfl
  | cons x xs ih => simp only [List.cons_append, catL]; rw [ih, List.append_assoc]

/-- one element is taken out of an owned slice, by append -/
theorem OW.eraseIn {α : Type} {R : Rep α} {X : Nat → Prop} {xs : List α} {by' m c cap g i : Nat} (hR : R.Ok sz) (hd : Nat.blt d n = true) (ht : apdIs P t = some (e, sz, by')) (hx : evl L x = some (.slice (some ⟨g, 0, none⟩) i cap)) (hy : evl L y = some (.slice (some ⟨g, o, none⟩) m c))
    (hown : OwnSl e sz R X w (.slice (some ⟨g, 0, none⟩) xs.length cap) xs) (hi : i < xs.length) (hm : m = xs.length - (i + 1)) (ho : i + 1 < xs.length → o = (i + 1) * sz) (hb : xs.length * by' ≤ 140737488355328) (h63 : xs.length ≤ 140737488355328) (hX : ¬ X g)
    (h : ∀ w', OwnSl e sz R X w' (.slice (some ⟨g, 0, none⟩) (xs.length - 1) cap) (xs.eraseIdx i) → Fr (fun k => k = g) w w' → OW P ops Q n D todo ((d, .slice (some ⟨g, 0, none⟩) (xs.length - 1) cap) :: L) w') :
    OW P ops Q n D (⟨some d, .call ⟨.builtin .append, #[x, y], #[t, t]⟩, ty, pos, af, none⟩ :: todo) L w := by
  obtain ⟨cs, h1, h2, h3, h4⟩ := hown
  obtain ⟨cs1, q1, q2, q3, q4⟩ := OwnSl.pre (R := fun _ _ c (x : List Value) => c = x) (X := X) (xs := cs) (i := i) (p := some ⟨g, 0, none⟩) (cap := cap) (w := w) (e := e) (sz := sz)
    ⟨cs, by rw [h2]; exact h1, rfl, h3, fun j x c hx hc => by rw [hx] at hc; cases hc; rfl⟩ (by omega) (by simp)
  have e1 : catI cs = catI (cs.take (i + 1)) ++ catI (cs.drop (i + 1)) := by rw [← catI_app, List.take_append_drop]
  have hl1 : (catI (cs.take (i + 1))).length = (i + 1) * sz := by rw [catI_len fun c hc => h3 c (List.mem_of_mem_take hc), List.length_take, Nat.min_eq_left (by omega)]
  have hl2 : (catI (cs.drop (i + 1))).length = m * sz := by rw [catI_len fun c hc => h3 c (List.mem_of_mem_drop hc), List.length_drop, h2, hm]
  have hseg : Seg w g o (catI (cs.drop (i + 1))) := by
    rcases h1.shape with ⟨q, _⟩ | ⟨b', cap', hv, _, sg, _⟩
    · cases q
    · cases hv
      intro j v hj
      have hjl : j < m * sz := by
        rcases Nat.lt_or_ge j (m * sz) with c | c
        · exact c
        · rw [List.getElem?_eq_none (by rw [hl2]; exact c)] at hj; cases hj
      have hm0 : i + 1 < xs.length := by
        rcases Nat.lt_or_ge (i + 1) xs.length with c | c
        · exact c
        · rw [hm, Nat.sub_eq_zero_of_le c] at hjl; omega
      rw [ho hm0]
      have := sg ((i + 1) * sz + j) v (by rw [e1, List.getElem?_append_right (by omega), hl1, Nat.add_sub_cancel_left]; exact hj)
      simpa using this
  have hone : ∀ u ∈ catI (cs.drop (i + 1)), u.oneCell' = true := by
    intro u hu
    have gen : ∀ l : List (List Value), (∀ c ∈ l, ∃ j : Nat, cs[j]? = some c) → u ∈ catI l → u.oneCell' = true := by
      intro l
      induction l with
      | nil => intro _ h; simp [catI, catL] at h
      | cons c l ih =>
        intro hl hu
        have e2 : catI (c :: l) = c ++ catI l := rfl
        rw [e2] at hu
        rcases List.mem_append.1 hu with a | a
        · obtain ⟨j, hj⟩ := hl c (by simp)
          have hjl : j < xs.length := by
            rcases Nat.lt_or_ge j cs.length with b | b
            · omega
            · rw [List.getElem?_eq_none b] at hj; cases hj
          exact hR.one (h4 j xs[j] c (List.getElem?_eq_getElem hjl) hj) u a
        · exact ih (fun c hc => hl c (by simp [hc])) a
    exact gen (cs.drop (i + 1)) (fun c hc => List.getElem?_of_mem (List.mem_of_mem_drop hc)) hu
  have htk : (cs.take i).length = i := by rw [List.length_take]; omega
  have hown1 : Own w e sz (.slice (some ⟨g, 0, none⟩) i cap) i (catI (cs.take i)) := by
    have ecs : cs1 = cs.take i := by
      apply List.ext_getElem?
      intro j
      rcases Nat.lt_or_ge j (cs.take i).length with b | b
      · have b1 : j < cs1.length := by rw [q2]; exact b
        have := q4 j _ _ (List.getElem?_eq_getElem b) (List.getElem?_eq_getElem b1)
        rw [List.getElem?_eq_getElem b, List.getElem?_eq_getElem b1, this]
      · rw [List.getElem?_eq_none b, List.getElem?_eq_none (by rw [q2]; exact b)]
    rw [ecs, htk] at q1
    exact q1
  have hcap : xs.length ≤ cap := by
    rcases h1.shape with ⟨q, _⟩ | ⟨b', cap', hv, q, _⟩
    · cases q
    · cases hv; exact q
  have e9 : i + m = xs.length - 1 := by omega
  refine OW.appendIn (m := m) hd ht hx hy hown1 hseg hl2 hone (by rw [e9]; exact Nat.le_trans (Nat.mul_le_mul_right _ (Nat.sub_le _ _)) hb) (by omega) (by omega) fun w' o' f' => ?_
  rw [e9] at o' ⊢
  refine h w' ⟨cs.eraseIdx i, ?_, ?_, fun c hc => h3 c (List.mem_of_mem_eraseIdx hc), fun j x c hx hc => ?_⟩ f'
  · rw [List.length_eraseIdx, if_pos hi, List.eraseIdx_eq_take_drop_succ, catI_app]; exact o'
  · rw [List.length_eraseIdx, List.length_eraseIdx, h2]
  · rw [List.getElem?_eraseIdx] at hx hc
    split at hx
    · rename_i hj
      rw [if_pos hj] at hc
      exact hR.frame (h4 j x c hx hc) f' fun k hk q => hX (q ▸ hk)
    · rename_i hj
      rw [if_neg hj] at hc
      exact hR.frame (h4 _ x c hx hc) f' fun k hk q => hX (q ▸ hk)

/-- x[lo:hi:max] -/
theorem OW.sliceLHM {len cap : Nat} {p : Option Addr} (hd : Nat.blt d n = true) (ht : elemIs P t = some (e, sz)) (hx : evl L x = some (.slice p len cap)) (hl : evl L lo = some (.int ik i)) (hh : evl L hi = some (.int jk j)) (hm : evl L mx = some (.int qk q)) (hb : 0 ≤ i ∧ i ≤ j ∧ j ≤ q ∧ q ≤ cap)
    (h : OW P ops Q n D todo ((d, .slice (if q.toNat = i.toNat then p else p.map (·.add (i.toNat * sz))) (j.toNat - i.toNat) (q.toNat - i.toNat)) :: L) w) : OW P ops Q n D (⟨some d, .slice t x (some lo) (some hi) (some mx), ty, pos, af, none⟩ :: todo) L w := by
  refine OW.value rfl rfl hd (fun a ha => ?_) h
  simp only [execOp, ha.eval hx, Option.map_some, ha.eval hl, ha.eval hh, ha.eval hm]
  refine run_val ?_
  simp only [elemIs] at ht
  split at ht
  · rename_i e' h1
    simp only [Option.map_eq_some_iff, Prod.mk.injEq] at ht
    obtain ⟨ti, h2, rfl, rfl⟩ := ht
    have c0 : (0 ≤ q ∧ q ≤ (cap : Int)) := ⟨by omega, hb.2.2.2⟩
    have c1 : (0 ≤ j ∧ j ≤ ((q.toNat : Nat) : Int)) := ⟨by omega, by omega⟩
    have c2 : (0 ≤ i ∧ i ≤ ((j.toNat : Nat) : Int)) := ⟨hb.1, by omega⟩
    simp only [Instr.sliceAt, Sem.run_bind, run_underlying h1, Result.andThen_ok, Instr.slice, Instr.sliceBounds, Instr.sliceBound, asIntOf, Sem.run_pure]
    simp only [c0, c1, c2, and_self, if_true, Sem.run_bind, Sem.run_pure, Result.andThen_ok, Option.isSome_some, sizeOf, run_typeInfo' h2]
  · cases ht

end Go.Eng
