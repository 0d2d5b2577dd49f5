/-
  What holds of a table of package tuples, in plain Lean.
  No condition.
-/
import Derived.Test.YtmdhbgkmkmmmpaaTd
namespace Go.Eng
open Go

abbrev Ent := Int × Rule

/-- the rules of a mask and a value, as a row has them -/
def insOf (l : List Ent) (mask val : Hdr) : List In := (l.filter fun x => decide (x.2.mat.mask = mask ∧ x.2.mat.val = val)).map fun x => ⟨x.1, x.2.rank⟩

theorem mem_insOf {l : List Ent} {mask val : Hdr} {i : In} : i ∈ insOf l mask val ↔ ∃ x ∈ l, (x.2.mat.mask = mask ∧ x.2.mat.val = val) ∧ i = ⟨x.1, x.2.rank⟩ := by
  simp only [insOf, List.mem_map, List.mem_filter, decide_eq_true_eq]
  constructor
  · rintro ⟨x, ⟨h1, h2⟩, rfl⟩; exact ⟨x, h1, h2, rfl⟩
  · rintro ⟨x, h1, h2, rfl⟩; exact ⟨x, ⟨h1, h2⟩, rfl⟩

structure RowInv (l : List Ent) (r : RowSt) : Prop where
  nodup : (r.bks.map (·.1)).Nodup
  bucket : ∀ b ∈ r.bks, b.2.l ≠ [] ∧ b.2.l.Pairwise inLt ∧ b.2.l.Perm (insOf l r.mask b.1)
  cov : ∀ x ∈ l, x.2.mat.mask = r.mask → ∃ b ∈ r.bks, b.1 = x.2.mat.val
  great : ∀ x ∈ l, x.2.mat.mask = r.mask → x.2.rank ≤ r.greatest
  has : ∃ x ∈ l, x.2.mat.mask = r.mask ∧ x.2.rank = r.greatest
  many : r.many = l.countP fun x => decide (x.2.mat.mask = r.mask)

structure TInv (T : TabSt) : Prop where
  ids : T.atl.Pairwise fun a b => a.1 < b.1
  bnd : ∀ x ∈ T.atl, 0 < x.1 ∧ x.1 ≤ T.last
  last : 0 ≤ T.last
  okm : ∀ x ∈ T.atl, matOk x.2.mat = true ∧ x.2.wf
  masks : (T.rows.map (·.mask)).Nodup
  rows : ∀ r ∈ T.rows, RowInv T.atl r
  cover : ∀ x ∈ T.atl, ∃ r ∈ T.rows, r.mask = x.2.mat.mask
  sorted : T.rows.Pairwise fun a b => b.greatest ≤ a.greatest

/-! ### what is found -/

def Better (x y : Ent) : Prop := y.2.rank < x.2.rank ∨ (y.2.rank = x.2.rank ∧ x.1 ≤ y.1)

/-- of all rules of Q, is this the best one that hits? -/
def Top (l : List Ent) (h : Hdr) (Q : Ent → Prop) (b : In) : Prop :=
  (b.id = 0 ∧ ∀ y ∈ l, Q y → hits y.2.mat h = false) ∨
  (0 < b.id ∧ ∃ x ∈ l, x.1 = b.id ∧ x.2.rank = b.rank ∧ hits x.2.mat h = true ∧ ∀ y ∈ l, Q y → hits y.2.mat h = true → Better x y)

theorem Top.mono {l : List Ent} {h : Hdr} {Q Q' : Ent → Prop} {b : In} (t : Top l h Q b) (hq : ∀ y ∈ l, hits y.2.mat h = true → Q' y → Q y) : Top l h Q' b := by
  rcases t with ⟨h1, h2⟩ | ⟨h1, x, hx, h2, h3, h4, h5⟩
  · refine .inl ⟨h1, fun y hy hq' => ?_⟩
    cases c : hits y.2.mat h with
    | false => rfl
    | true => rw [h2 y hy (hq y hy c hq')] at c; cases c
  · exact .inr ⟨h1, x, hx, h2, h3, h4, fun y hy hq' c => h5 y hy (hq y hy c hq') c⟩

section find
variable {T : TabSt} {h : Hdr} {b : In} {r : RowSt} {ms : List Hdr}

theorem id_inj (inv : TInv T) {x y : Ent} (hx : x ∈ T.atl) (hy : y ∈ T.atl) (e : x.1 = y.1) : x = y := by
  obtain ⟨i, hi, rfl⟩ := List.getElem_of_mem hx
  obtain ⟨j, hj, rfl⟩ := List.getElem_of_mem hy
  have := List.pairwise_iff_getElem.1 inv.ids
  rcases Nat.lt_trichotomy i j with c | c | c
  · have := this i j hi hj c; omega
  · subst c; rfl
  · have := this j i hj hi c; omega

/-- nothing of a row hits, if the row has no such bucket -/
theorem top_none (inv : TInv T) (hr : r ∈ T.rows) (hg : kvGetG (under h r.mask) r.bks = none) (t : Top T.atl h (fun y => y.2.mat.mask ∈ ms) b) : Top T.atl h (fun y => y.2.mat.mask ∈ ms ++ [r.mask]) b := by
  refine t.mono fun y hy hh hq => ?_
  rcases List.mem_append.1 hq with c | c
  · exact c
  · exfalso
    have e : y.2.mat.mask = r.mask := by simpa using c
    obtain ⟨ok, _⟩ := inv.okm y hy
    rw [hits_under ok, decide_eq_true_eq, e] at hh
    obtain ⟨bk, hb, hk⟩ := (inv.rows r hr).cov y hy e
    exact kvGetG_none.1 hg bk hb (by rw [hk, hh])

/-- a bucket's first one -/
theorem first_of (inv : TInv T) (hr : r ∈ T.rows) {bk : Bkt} (hg : kvGetG (under h r.mask) r.bks = some bk) {f : In} (hf : bk.l[0]? = some f) :
    0 < f.id ∧ ∃ x ∈ T.atl, x.1 = f.id ∧ x.2.rank = f.rank ∧ hits x.2.mat h = true ∧ ∀ y ∈ T.atl, y.2.mat.mask = r.mask → hits y.2.mat h = true → Better x y := by
  have ri := inv.rows r hr
  obtain ⟨hne, hsort, hperm⟩ := ri.bucket _ (kvGetG_mem hg)
  simp only at hne hsort hperm
  have hfm : f ∈ bk.l := List.mem_of_getElem? hf
  obtain ⟨x, hx, ⟨e1, e2⟩, e3⟩ := mem_insOf.1 (hperm.mem_iff.1 hfm)
  obtain ⟨ok, _⟩ := inv.okm x hx
  refine ⟨by rw [e3]; exact (inv.bnd x hx).1, x, hx, by rw [e3], by rw [e3], by rw [hits_under ok, decide_eq_true_eq, e1, e2], fun y hy em hh => ?_⟩
  obtain ⟨oky, _⟩ := inv.okm y hy
  rw [hits_under oky, decide_eq_true_eq, em] at hh
  have hyb : (⟨y.1, y.2.rank⟩ : In) ∈ bk.l := hperm.mem_iff.2 (mem_insOf.2 ⟨y, hy, ⟨em, hh.symm⟩, rfl⟩)
  match hb : bk.l, hf, hsort, hyb with
  | g :: rest, hf, hsort, hyb =>
    simp at hf; subst hf
    rcases List.mem_cons.1 hyb with c | c
    · unfold Better
      have : y.1 = x.1 := by have := congrArg In.id (c.trans e3); exact this
      have h2 : y.2.rank = x.2.rank := by have := congrArg In.rank (c.trans e3); exact this
      exact .inr ⟨h2, by omega⟩
    · have := (List.pairwise_cons.1 hsort).1 _ c
      rw [e3] at this
      unfold inLt at this
      unfold Better
      simp only at this
      omega

theorem top_new (inv : TInv T) (hr : r ∈ T.rows) {bk : Bkt} (hg : kvGetG (under h r.mask) r.bks = some bk) {f : In} (hf : bk.l[0]? = some f) (t : Top T.atl h (fun y => y.2.mat.mask ∈ ms) b)
    (hb : b.id = 0 ∨ b.rank < f.rank ∨ (f.rank = b.rank ∧ f.id < b.id)) : Top T.atl h (fun y => y.2.mat.mask ∈ ms ++ [r.mask]) f := by
  obtain ⟨h0, x, hx, e1, e2, hh, hall⟩ := first_of inv hr hg hf
  refine .inr ⟨h0, x, hx, e1, e2, hh, fun y hy hq hy2 => ?_⟩
  rcases List.mem_append.1 hq with c | c
  · rcases t with ⟨b0, hno⟩ | ⟨b0, z, hz, z1, z2, _, hz3⟩
    · rw [hno y hy c] at hy2; cases hy2
    · have := hz3 y hy c hy2
      unfold Better at this ⊢
      omega
  · exact hall y hy (by simpa using c) hy2

theorem top_old (inv : TInv T) (hr : r ∈ T.rows) {bk : Bkt} (hg : kvGetG (under h r.mask) r.bks = some bk) {f : In} (hf : bk.l[0]? = some f) (t : Top T.atl h (fun y => y.2.mat.mask ∈ ms) b)
    (h0 : b.id ≠ 0) (hb : ¬ b.rank < f.rank) (hb2 : ¬ (f.rank = b.rank ∧ f.id < b.id)) : Top T.atl h (fun y => y.2.mat.mask ∈ ms ++ [r.mask]) b := by
  obtain ⟨_, x, hx, e1, e2, hh, hall⟩ := first_of inv hr hg hf
  rcases t with ⟨b0, _⟩ | ⟨b0, z, hz, z1, z2, zh, hz3⟩
  · exact absurd b0 h0
  · refine .inr ⟨b0, z, hz, z1, z2, zh, fun y hy hq hy2 => ?_⟩
    rcases List.mem_append.1 hq with c | c
    · exact hz3 y hy c hy2
    · have := hall y hy (by simpa using c) hy2
      unfold Better at this ⊢
      omega

/-- no later row has a greater one -/
theorem top_stop (inv : TInv T) {j : Nat} (hj : T.rows[j]? = some r) (t : Top T.atl h (fun y => y.2.mat.mask ∈ (T.rows.take j).map (·.mask)) b) (h0 : 0 < b.id) (hl : r.greatest < b.rank) : Top T.atl h (fun _ => True) b := by
  rcases t with ⟨b0, _⟩ | ⟨b0, z, hz, z1, z2, zh, hz3⟩
  · omega
  · refine .inr ⟨b0, z, hz, z1, z2, zh, fun y hy _ hy2 => ?_⟩
    obtain ⟨s, hs, hm⟩ := inv.cover y hy
    obtain ⟨k, hk, rfl⟩ := List.getElem_of_mem hs
    rcases Nat.lt_or_ge k j with c | c
    · refine hz3 y hy ?_ hy2
      show y.2.mat.mask ∈ (T.rows.take j).map (·.mask)
      rw [← hm]
      exact List.mem_map.2 ⟨_, List.mem_take_iff_getElem.2 ⟨k, by omega, rfl⟩, rfl⟩
    · have h1 := (inv.rows _ hs).great y hy hm.symm
      have h2 : T.rows[k].greatest ≤ r.greatest := by
        rcases Nat.lt_or_ge j k with d | d
        · have hjl : j < T.rows.length := by omega
          have := (List.pairwise_iff_getElem.1 inv.sorted) j k hjl hk d
          rw [List.getElem?_eq_getElem hjl] at hj
          cases hj; exact this
        · have : k = j := by omega
          subst this
          rw [List.getElem?_eq_getElem hk] at hj
          cases hj; exact Int.le_refl _
      unfold Better
      omega

theorem top_end (inv : TInv T) (t : Top T.atl h (fun y => y.2.mat.mask ∈ T.rows.map (·.mask)) b) : Top T.atl h (fun _ => True) b :=
  t.mono fun y hy _ _ => by
    obtain ⟨r, hr, hm⟩ := inv.cover y hy
    exact List.mem_map.2 ⟨r, hr, hm⟩

end find

end Go.Eng
