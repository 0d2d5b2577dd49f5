/-
  The engine, part W: pointers held against nil, the greater of two numbers; generic maps; a slice that is owned, sorted.
  No condition: general lemmas over any program.
-/
import Derived.Test.YtmdhbgkmkmmmpaaMat
import Derived.Test.YtmdhbgkmkmmmpaaEngI
import Derived.Test.YtmdhbgkmkmmmpaaDat6
import Derived.Test.YtmdhbgkmkmmmpaaEngG
namespace Go.Eng
open Go

variable {P : Program} {Q : Exit → Act → World → Prop} {w w' : World} {n : Nat} {D : List Deferred} {L : List (Nat × Value)} {ops : Array Oper} {todo : List Oper}
variable {d : Nat} {t t' ty : TypeId} {pos : String} {af : Array Edge} {x y lo hi : Operand} {u u' v : Value} {b o k : Nat}

/-- a pointer held against nil -/
theorem OW.eqlPtrNil {p : Option Addr} {e : Nat} (hd : Nat.blt d n = true) (ht : P.underlying t = some (.pointer e)) (hx : evl L x = some (.pointer p)) (hy : evl L y = some (.pointer none))
    (h : OW P ops Q n D todo ((d, .bool p.isNone) :: L) w) : OW P ops Q n D (⟨some d, .binOp .eql t x y t', ty, pos, af, none⟩ :: todo) L w :=
  OW.bin hd hx hy (by
    have : (Op.equal t (.pointer p) (.pointer none)).run P w = .ok p.isNone w := by
      show (Op.equalIn (9999 + 1) t (.pointer p) (.pointer none)).run P w = _
      rw [Op.equalIn]
      cases p <;> simp [run_underlying ht]
    cases p <;> simp [eqGuard, binOp, this]) h

theorem OW.max2 {k : IntKind} {i j : Int} (hd : Nat.blt d n = true) {ts : Array TypeId} (hx : evl L x = some (.int k i)) (hy : evl L y = some (.int k j))
    (h : OW P ops Q n D todo ((d, .int k (max i j)) :: L) w) : OW P ops Q n D (⟨some d, .call ⟨.builtin .max, #[x, y], ts⟩, ty, pos, af, none⟩ :: todo) L w := by
  refine OW.value rfl rfl hd (fun a ha => ?_) h
  have e : (if j > i then j else i) = max i j := by omega
  simp [execOp, resolve, invoke, builtin, ha.eval hx, ha.eval hy, Builtin.max_, Builtin.max2, e]

/-! ### maps, as lists of any values -/

def kvSetG {κ β : Type} [DecidableEq κ] (k : κ) (v : β) : List (κ × β) → List (κ × β)
  | [] => [(k, v)]
  | (x, u) :: r => if x = k then (x, v) :: r else (x, u) :: kvSetG k v r
def kvGetG {κ β : Type} [DecidableEq κ] (k : κ) : List (κ × β) → Option β
  | [] => none
  | (x, v) :: r => if x = k then some v else kvGetG k r
def kvDelG {κ β : Type} [DecidableEq κ] (k : κ) : List (κ × β) → List (κ × β)
  | [] => []
  | (x, u) :: r => if x = k then r else (x, u) :: kvDelG k r

section kv
variable {κ β : Type} [DecidableEq κ] {k : κ} {kv : List (κ × β)} (f : β → Value)

theorem kvSet_mapG (v : β) : ∀ kv : List (κ × β), kvSet k (f v) (kv.map fun p => (p.1, f p.2)) = (kvSetG k v kv).map fun p => (p.1, f p.2)
  | [] => rfl
  | (x, u) :: r => by
    simp only [List.map_cons, kvSet, kvSetG]
    split
    · rfl
    · rw [List.map_cons, kvSet_mapG v r]
theorem kvGet_mapG : ∀ kv : List (κ × β), kvGet k (kv.map fun p => (p.1, f p.2)) = (kvGetG k kv).map f
  | [] => rfl
  | (x, u) :: r => by
    simp only [List.map_cons, kvGet, kvGetG]
    split
    · rfl
    · exact kvGet_mapG r
theorem kvDel_mapG : ∀ kv : List (κ × β), kvDel k (kv.map fun p => (p.1, f p.2)) = (kvDelG k kv).map fun p => (p.1, f p.2)
  | [] => rfl
  | (x, u) :: r => by
    simp only [List.map_cons, kvDel, kvDelG]
    split
    · rfl
    · rw [List.map_cons, kvDel_mapG r]

theorem kvGetG_mem {v : β} : ∀ {kv : List (κ × β)}, kvGetG k kv = some v → (k, v) ∈ kv
  | [], h => by simp [kvGetG] at h
  | (x, u) :: r, h => by
    simp only [kvGetG] at h
    split at h
    · rename_i c; cases h; subst c; simp
    · exact List.mem_cons_of_mem _ (kvGetG_mem h)
theorem kvGetG_none : ∀ {kv : List (κ × β)}, kvGetG k kv = none ↔ ∀ p ∈ kv, p.1 ≠ k
  | [] => by simp [kvGetG]
  | (x, u) :: r => by
    simp only [kvGetG]
    split
    · rename_i c; simp [c]
    · rename_i c; rw [kvGetG_none]; simp [c]
theorem kvGetG_of_mem {v : β} (hn : (kv.map (·.1)).Nodup) (h : (k, v) ∈ kv) : kvGetG k kv = some v := by
  induction kv with
  | nil => simp at h
  | cons p r ih =>
    obtain ⟨x, u⟩ := p
    simp only [List.map_cons, List.nodup_cons] at hn
    simp only [kvGetG]
    rcases List.mem_cons.1 h with e | h
    · cases e; simp
    · have hne : x ≠ k := fun e => hn.1 (by rw [e]; exact List.mem_map.2 ⟨_, h, rfl⟩)
      rw [if_neg hne]; exact ih hn.2 h
theorem kvDelG_mem {p : κ × β} (hn : (kv.map (·.1)).Nodup) : p ∈ kvDelG k kv ↔ p ∈ kv ∧ p.1 ≠ k := by
  induction kv with
  | nil => simp [kvDelG]
  | cons q r ih =>
    obtain ⟨x, u⟩ := q
    simp only [List.map_cons, List.nodup_cons] at hn
    simp only [kvDelG]
    split
    · rename_i c
      subst c
      constructor
      · intro h; exact ⟨List.mem_cons_of_mem _ h, fun e => hn.1 (List.mem_map.2 ⟨p, h, e⟩)⟩
      · rintro ⟨h, hne⟩
        rcases List.mem_cons.1 h with rfl | h
        · exact absurd rfl hne
        · exact h
    · rename_i c
      rw [List.mem_cons, List.mem_cons, ih hn.2]
      constructor
      · rintro (rfl | ⟨h, g⟩)
        · exact ⟨.inl rfl, c⟩
        · exact ⟨.inr h, g⟩
      · rintro ⟨rfl | h, g⟩
        · exact .inl rfl
        · exact .inr ⟨h, g⟩
theorem kvSetG_perm {v : β} (hn : (kv.map (·.1)).Nodup) : (kvSetG k v kv).Perm ((k, v) :: kvDelG k kv) := by
  induction kv with
  | nil => exact List.Perm.refl _
  | cons q r ih =>
    obtain ⟨x, u⟩ := q
    simp only [List.map_cons, List.nodup_cons] at hn
    simp only [kvSetG, kvDelG]
    split
    · rename_i c; subst c; exact List.Perm.refl _
    · exact ((ih hn.2).cons _).trans (List.Perm.swap _ _ _)
theorem kvGetG_perm {v : β} (hg : kvGetG k kv = some v) : kv.Perm ((k, v) :: kvDelG k kv) := by
  induction kv with
  | nil => simp [kvGetG] at hg
  | cons q r ih =>
    obtain ⟨x, u⟩ := q
    simp only [kvGetG] at hg
    simp only [kvDelG]
    split at hg
    · rename_i c; subst c; cases hg; rw [if_pos rfl]
    · rename_i c; rw [if_neg c]; exact ((ih hg).cons _).trans (List.Perm.swap _ _ _)
theorem kvDelG_none (hg : kvGetG k kv = none) : kvDelG k kv = kv := by
  induction kv with
  | nil => rfl
  | cons q r ih =>
    obtain ⟨x, u⟩ := q
    simp only [kvGetG] at hg
    simp only [kvDelG]
    split at hg
    · cases hg
    · rename_i c; rw [if_neg c, ih hg]
theorem kvDelG_nodup (hn : (kv.map (·.1)).Nodup) : ((kvDelG k kv).map (·.1)).Nodup := by
  induction kv with
  | nil => exact List.nodup_nil
  | cons q r ih =>
    obtain ⟨x, u⟩ := q
    simp only [List.map_cons, List.nodup_cons] at hn
    simp only [kvDelG]
    split
    · exact hn.2
    · rw [List.map_cons, List.nodup_cons]
      refine ⟨fun h => ?_, ih hn.2⟩
      obtain ⟨p, hp, e⟩ := List.mem_map.1 h
      exact hn.1 (List.mem_map.2 ⟨p, ((kvDelG_mem hn.2).1 hp).1, e⟩)
theorem kvSetG_nodup {v : β} (hn : (kv.map (·.1)).Nodup) : ((kvSetG k v kv).map (·.1)).Nodup := by
  have h := (kvSetG_perm (k := k) (v := v) hn).map (·.1)
  rw [h.nodup_iff, List.map_cons, List.nodup_cons]
  refine ⟨fun h => ?_, kvDelG_nodup hn⟩
  obtain ⟨p, hp, e⟩ := List.mem_map.1 h
  exact ((kvDelG_mem hn).1 hp).2 e
theorem kvSetG_mem {v : β} (hn : (kv.map (·.1)).Nodup) {p : κ × β} : p ∈ kvSetG k v kv ↔ p = (k, v) ∨ (p ∈ kv ∧ p.1 ≠ k) := by
  rw [(kvSetG_perm hn).mem_iff, List.mem_cons, kvDelG_mem hn]
end kv

/-! ### sorting what is owned -/

/-- how a function's value compares the elements of an owned slice, wherever they have been put -/
def CmpE {α : Type} (P : Program) (cv : Value) (w0 : World) (v : Value) (ev : List Value → Value) (R : Rep α) (X : Nat → Prop) (xs : List α) (cmp : α → α → Int) : Prop :=
  ∃ g first cap, cv = .func (.func g) first cap ∧ callable P g = true ∧ ∀ w, Fr (fun k => v.ownBlock = some k) w0 w → ∀ (x y : α) (c e : List Value), x ∈ xs → y ∈ xs → R X w c x → R X w e y →
    Does P g (first.toList ++ [ev c, ev e] ++ cap.toList) w fun v w' => v = .int .i64 (cmp x y) ∧ Fr0 w w'

theorem insBy_congr {α : Type} {le le' : α → α → Bool} {x : α} : ∀ {l : List α}, (∀ y ∈ l, le y x = le' y x) → insBy le x l = insBy le' x l
  | [], _ => rfl
  | y :: l, h => by
    simp only [insBy]
    rw [h y (by simp), insBy_congr (l := l) fun z hz => h z (by simp [hz])]
theorem isort_congr {α : Type} {le le' : α → α → Bool} : ∀ {l : List α}, (∀ x ∈ l, ∀ y ∈ l, le x y = le' x y) → isort le l = isort le' l
  | [], _ => rfl
  | x :: l, h => by
    simp only [isort]
    rw [isort_congr (l := l) fun a ha b hb => h a (by simp [ha]) b (by simp [hb])]
    exact insBy_congr fun y hy => h y (by simp [(isort_perm le' l).mem_iff.1 hy]) x (by simp)

theorem Own.rearr {e sz b n cap : Nat} {xv post : List Value} {f f' : Nat → List Value} {w w' : World} (ho : Own w e sz (.slice (some ⟨b, 0, none⟩) n cap) n xv) (hA : Arr w b e sz n [] post f) (hA' : Arr w' b e sz n [] post f') :
    Own w' e sz (.slice (some ⟨b, 0, none⟩) n cap) n (cat f' n) := by
  refine ⟨cat_length hA'.len, ?_⟩
  rcases ho.2 with ⟨h1, _⟩ | ⟨g, cap', cur, hv, hg, hh, hn, hc, hz, ht⟩
  · cases h1
  · cases hv
    have h1 : w.heap[b]? = some (.cells (cat f n ++ post).toArray e (0, 0)) := by have := hA.bk; simpa [Bk] using this
    rw [hh] at h1
    cases h1
    have h2 : w'.heap[b]? = some (.cells (cat f' n ++ post).toArray e (0, 0)) := by have := hA'.bk; simpa [Bk] using this
    refine .inr ⟨b, cap, _, rfl, hg, h2, hn, hc, ?_, ?_⟩
    · have a1 := cat_length hA.len
      have a2 := cat_length hA'.len
      simp only [List.size_toArray, List.length_append] at hz ⊢
      omega
    · have a2 := cat_length hA'.len
      simp only []
      rw [List.take_left' a2]

theorem cat_range {f : Nat → List Value} {n : Nat} : cat f n = catI ((List.range n).map f) := by
  have h := cat_catI ((List.range n).map f) n (by simp)
  rw [List.take_of_length_le (by simp)] at h
  rw [← h]
  refine cat_congr fun i hi => ?_
  rw [List.getD_eq_getElem?_getD, List.getElem?_map, List.getElem?_range hi]; rfl

theorem sort_own {α : Type} [Inhabited α] {P : Program} {R : Rep α} {X : Nat → Prop} {sz e : Nat} {w : World} {v cv : Value} {xs : List α} {ev : List Value → Value} {srt : Nat} {cmp : α → α → Int} (hR : R.Ok sz)
    (hsort : ∀ {w : World} {b n cap : Nat} {post : List Value} {cs : Nat → List Value} {cmp : Nat → Nat → Int}, Cmpr P cv w b ev n cs cmp → SOrd (lessOf cmp) → n ≤ 140737488355328 → Arr w b e sz n [] post cs →
      Does P srt [.slice (some ⟨b, 0, none⟩) n cap, cv] w fun _ w' => ∃ q, Pm 0 n id q ∧ So (lessOf cmp) q 0 n ∧ Arr w' b e sz n [] post (fun k => cs (q k)) ∧ Fr (fun k => k = b) w w')
    (hsort0 : ∀ {w : World} {pa : Option Addr} {cap : Nat}, Does P srt [.slice pa 0 cap, cv] w fun _ w' => w' = w)
    (h : OwnSl e sz R X w v xs) (hn : xs.length ≤ 140737488355328) (hX : ∀ k, X k → v.ownBlock ≠ some k) (hc : CmpE P cv w v ev R X xs cmp)
    (tr : ∀ {x y z}, x ∈ xs → y ∈ xs → z ∈ xs → ¬ cmp y x < 0 → ¬ cmp z y < 0 → ¬ cmp z x < 0) (asy : ∀ {x y}, x ∈ xs → y ∈ xs → cmp x y < 0 → ¬ cmp y x < 0) :
    Does P srt [v, cv] w fun _ w' => OwnSl e sz R X w' v (isort (fun x y => decide (cmp x y < 0)) xs) ∧ Fr (fun k => v.ownBlock = some k) w w' := by
  by_cases h0 : 0 < xs.length
  · obtain ⟨b, cap, post, f, hv, hcap, hA, hel⟩ := h.arr hR h0
    have hget : ∀ i, i < xs.length → xs[i]? = some (xs[i]?.getD default) := fun i hi => by simp [List.getElem?_eq_getElem hi]
    obtain ⟨g, hg⟩ : ∃ g : Nat → α, g = fun i => xs[i]?.getD default := ⟨_, rfl⟩
    have hget : ∀ i, i < xs.length → xs[i]? = some (g i) := fun i hi => by rw [hg]; exact hget i hi
    have hmem : ∀ i, i < xs.length → g i ∈ xs := fun i hi => List.mem_of_getElem? (hget i hi)
    have hmap : (List.range xs.length).map g = xs := by
      apply List.ext_getElem?
      intro i
      rw [List.getElem?_map]
      rcases Nat.lt_or_ge i xs.length with c | c
      · rw [List.getElem?_range c, hget i c]; rfl
      · rw [List.getElem?_eq_none (by simpa using c), List.getElem?_eq_none c]; rfl
    -- the order, of all places: those that are none come last
    obtain ⟨cm, hcm⟩ : ∃ cm : Nat → Nat → Int, cm = fun i j => if i < xs.length ∧ j < xs.length then cmp (g i) (g j) else if i < xs.length then -1 else 0 := ⟨_, rfl⟩
    have hin : ∀ i j, i < xs.length → j < xs.length → cm i j = cmp (g i) (g j) := fun i j hi hj => by rw [hcm]; simp [hi, hj]
    have hord : SOrd (lessOf cm) := by
      refine ⟨fun {i j} hl => ?_, fun {i j k} h1 h2 => ?_⟩
      · simp only [lessOf, decide_eq_true_eq, decide_eq_false_iff_not] at hl ⊢
        by_cases hi : i < xs.length <;> by_cases hj : j < xs.length
        · rw [hin _ _ hi hj] at hl; rw [hin _ _ hj hi]; exact asy (hmem i hi) (hmem j hj) hl
        · rw [hcm]; simp [hj]
        · rw [hcm] at hl; simp [hi] at hl
        · rw [hcm] at hl; simp [hi] at hl
      · simp only [lessOf, decide_eq_false_iff_not] at h1 h2 ⊢
        by_cases hi : i < xs.length <;> by_cases hj : j < xs.length <;> by_cases hk : k < xs.length
        · rw [hin _ _ hj hi] at h1; rw [hin _ _ hk hj] at h2; rw [hin _ _ hk hi]; exact tr (hmem i hi) (hmem j hj) (hmem k hk) h1 h2
        · rw [hcm]; simp [hk]
        · exfalso; rw [hcm] at h2; simp [hk, hj] at h2
        · rw [hcm]; simp [hk]
        · exfalso; rw [hcm] at h1; simp [hi, hj] at h1
        · rw [hcm]; simp [hk]
        · exfalso; rw [hcm] at h2; simp [hk, hj] at h2
        · rw [hcm]; simp [hk]
    obtain ⟨gf, first, cap', hcv, hcall, hdo⟩ := hc
    have hC : Cmpr P cv w b ev xs.length f cm := by
      refine ⟨gf, first, cap', hcv, hcall, fun w1 f1 i j hi hj => ?_⟩
      have fo : Fr (fun k => v.ownBlock = some k) w w1 := f1.mono fun k _ c => by rw [hv, c]; rfl
      rw [hin i j hi hj]
      exact hdo w1 fo (g i) (g j) (f i) (f j) (hmem i hi) (hmem j hj) (hR.frame (hel i _ (hget i hi)) fo hX) (hR.frame (hel j _ (hget j hj)) fo hX)
    rw [hv]
    refine (hsort hC hord hn hA).mono ?_
    rintro _ w' ⟨q, hq1, hq2, hA', hf⟩
    have fo : Fr (fun k => v.ownBlock = some k) w w' := hf.mono fun k _ c => by rw [hv, c]; rfl
    have hq : ∀ k, k < xs.length → q k < xs.length := fun k hk => hq1.all (c := 0) (d := xs.length) (by omega) (T := fun x => x < xs.length) (fun k _ h2 => h2) k (Nat.zero_le _) hk
    have hs := isort_of (fun i j : Nat => decide (cm i j < 0)) id hord hq1 hq2
    have hres : (List.range xs.length).map (fun k => g (q k)) = isort (fun x y => decide (cmp x y < 0)) xs := by
      have e1 : (List.range xs.length).map (fun k => g (q k)) = ((List.range xs.length).map q).map g := by rw [List.map_map]; rfl
      have hs' : (List.range xs.length).map q = isort (fun i j : Nat => decide (cm i j < 0)) (List.range xs.length) := by
        have h3 := hs
        simp only [List.map_id_fun, id] at h3
        exact h3
      have e2 : isort (fun i j : Nat => decide (cm i j < 0)) (List.range xs.length) = isort (fun i j : Nat => decide (cmp (g i) (g j) < 0)) (List.range xs.length) :=
        isort_congr fun i hi j hj => by rw [hin i j (by simpa using hi) (by simpa using hj)]
      rw [e1, hs', e2, ← isort_map (fun x y => decide (cmp x y < 0)) g, hmap]
    have hlen : (isort (fun x y => decide (cmp x y < 0)) xs).length = xs.length := (isort_perm _ _).length_eq
    refine ⟨?_, by rw [← hv]; exact fo⟩
    rw [← hv]
    refine ⟨(List.range xs.length).map fun k => f (q k), ?_, by simp [hlen], fun c hc => ?_, fun i x c hx hc => ?_⟩
    · obtain ⟨cs0, ho0, _⟩ := h
      rw [hv] at ho0 ⊢
      have := Own.rearr ho0 hA hA'
      rw [cat_range] at this
      rw [hlen]; exact this
    · obtain ⟨k, hk, rfl⟩ := List.mem_map.1 hc
      exact hR.len (hel (q k) _ (hget _ (hq k (by simpa using hk))))
    · have hi : i < xs.length := by
        rcases Nat.lt_or_ge i xs.length with c1 | c1
        · exact c1
        · rw [List.getElem?_eq_none (by simpa using c1)] at hc; cases hc
      rw [← hres, List.getElem?_map, List.getElem?_range hi] at hx
      rw [List.getElem?_map, List.getElem?_range hi] at hc
      simp only [Option.map_some, Option.some.injEq] at hx hc
      subst hx; subst hc
      exact hR.frame (hel (q i) _ (hget _ (hq i hi))) fo hX
  · have h1 : xs = [] := List.eq_nil_of_length_eq_zero (by omega)
    subst h1
    obtain ⟨p, cap, hv, _⟩ := h.shape
    rw [hv]
    refine (hsort0 (w := w) (pa := p) (cap := cap)).mono ?_
    rintro _ w' rfl
    rw [hv] at h
    exact ⟨h, Fr.refl _ _⟩

end Go.Eng
