/-
  What holds of a table of package tuples stays when a rule is added, in plain Lean.
  No condition.
-/
import Derived.Test.YtmdhbgkmkmmmpaaTupL
namespace Go.Eng
open Go

theorem kvSetG_new {κ β : Type} [DecidableEq κ] {k : κ} {v : β} : ∀ {kv : List (κ × β)}, (∀ p ∈ kv, p.1 ≠ k) → kvSetG k v kv = kv ++ [(k, v)]
  | [], _ => rfl
  | (x, u) :: r, h => by
    simp only [kvSetG]
    rw [if_neg (h (x, u) (by simp)), kvSetG_new fun p hp => h p (by simp [hp])]; rfl

theorem len_of_sub {α : Type} [DecidableEq α] : ∀ {l m : List α}, l.Nodup → (∀ x ∈ l, x ∈ m) → l.length ≤ m.length
  | [], m, _, _ => Nat.zero_le _
  | x :: l, m, hn, h => by
    have hx := h x (by simp)
    rw [List.nodup_cons] at hn
    have := len_of_sub (l := l) (m := m.erase x) hn.2 fun y hy => (List.mem_erase_of_ne (fun e => hn.1 (by rw [← e]; exact hy))).2 (h y (by simp [hy]))
    rw [List.length_erase_of_mem hx] at this
    have : 0 < m.length := List.length_pos_of_mem hx
    simp; omega

theorem mem_set_row {rows : List RowSt} {i : Nat} {x x' : RowSt} (hn : (rows.map (·.mask)).Nodup) (hi : rows[i]? = some x) {y : RowSt} : y ∈ rows.set i x' ↔ y = x' ∨ (y ∈ rows ∧ y.mask ≠ x.mask) := by
  obtain ⟨l1, l2, e1, e2, _⟩ := set_split hi
  rw [e2 x']
  subst e1
  rw [List.map_append, List.map_cons, List.nodup_append] at hn
  obtain ⟨_, n2, n3⟩ := hn
  rw [List.nodup_cons] at n2
  simp only [List.mem_append, List.mem_cons]
  constructor
  · rintro (h | rfl | h)
    · exact .inr ⟨.inl h, fun e => n3 _ (List.mem_map.2 ⟨y, h, rfl⟩) _ (by simp) e⟩
    · exact .inl rfl
    · exact .inr ⟨.inr (.inr h), fun e => n2.1 (by rw [← e]; exact List.mem_map.2 ⟨y, h, rfl⟩)⟩
  · rintro (rfl | ⟨h | rfl | h, hne⟩)
    · exact .inr (.inl rfl)
    · exact .inl h
    · exact absurd rfl hne
    · exact .inr (.inr h)

theorem insOf_snoc (l : List Ent) (e : Ent) (mask val : Hdr) : insOf (l ++ [e]) mask val = insOf l mask val ++ (if e.2.mat.mask = mask ∧ e.2.mat.val = val then [⟨e.1, e.2.rank⟩] else []) := by
  unfold insOf
  rw [List.filter_append, List.map_append]
  congr 1
  by_cases c : e.2.mat.mask = mask ∧ e.2.mat.val = val
  · rw [if_pos c]; simp [c]
  · rw [if_neg c]; simp [c]

/-- a row, but for that it holds a rule -/
structure Row0 (l : List Ent) (r : RowSt) : Prop where
  nodup : (r.bks.map (·.1)).Nodup
  bucket : ∀ b ∈ r.bks, b.2.l ≠ [] ∧ b.2.l.Pairwise inLt ∧ b.2.l.Perm (insOf l r.mask b.1)
  cov : ∀ x ∈ l, x.2.mat.mask = r.mask → ∃ b ∈ r.bks, b.1 = x.2.mat.val
  great : ∀ x ∈ l, x.2.mat.mask = r.mask → x.2.rank ≤ r.greatest
  many : r.many = l.countP fun x => decide (x.2.mat.mask = r.mask)

theorem RowInv.row0 {l : List Ent} {r : RowSt} (h : RowInv l r) : Row0 l r := ⟨h.nodup, h.bucket, h.cov, h.great, h.many⟩

theorem RowInv.other {l : List Ent} {r : RowSt} {e : Ent} (h : RowInv l r) (hne : e.2.mat.mask ≠ r.mask) : RowInv (l ++ [e]) r := by
  refine ⟨h.nodup, fun b hb => ?_, fun x hx hm => ?_, fun x hx hm => ?_, ?_, ?_⟩
  · obtain ⟨h1, h2, h3⟩ := h.bucket b hb
    refine ⟨h1, h2, ?_⟩
    rw [insOf_snoc, if_neg (fun c => hne c.1), List.append_nil]; exact h3
  · rcases List.mem_append.1 hx with c | c
    · exact h.cov x c hm
    · simp at c; subst c; exact absurd hm hne
  · rcases List.mem_append.1 hx with c | c
    · exact h.great x c hm
    · simp at c; subst c; exact absurd hm hne
  · obtain ⟨x, hx, h1, h2⟩ := h.has
    exact ⟨x, List.mem_append_left _ hx, h1, h2⟩
  · rw [List.countP_append, h.many]; simp [hne]

theorem ids_nodup {l : List Ent} (h : l.Pairwise fun a b => a.1 < b.1) (mask val : Hdr) : ((insOf l mask val).map In.id).Nodup := by
  unfold insOf
  rw [List.map_map]
  have h1 : (l.filter fun x => decide (x.2.mat.mask = mask ∧ x.2.mat.val = val)).Pairwise fun a b => a.1 < b.1 := h.sublist List.filter_sublist
  have h2 : ((l.filter fun x => decide (x.2.mat.mask = mask ∧ x.2.mat.val = val)).map (In.id ∘ fun x => (⟨x.1, x.2.rank⟩ : In))).Pairwise (· < ·) := by
    rw [List.pairwise_map]
    exact h1.imp fun h => h
  exact h2.imp fun h => by omega

theorem sorted_ins {l : List In} (hn : (l.map In.id).Nodup) : (isort Tc.inLe l).Pairwise inLt := by
  have h1 := isort_pair (le := Tc.inLe) (fun a b c h g => by
    unfold Tc.inLe at *
    simp only [decide_eq_false_iff_not] at *
    rw [inCmp_lt] at *
    unfold inLt at *; omega) (fun a b h => by
    unfold Tc.inLe at *
    simp only [decide_eq_false_iff_not, decide_eq_true_eq] at *
    rw [inCmp_lt] at *
    unfold inLt at *; omega) l
  have h2 : ((isort Tc.inLe l).map In.id).Nodup := ((isort_perm Tc.inLe l).map In.id).nodup_iff.2 hn
  have h3 : (isort Tc.inLe l).Pairwise fun a b => a.id ≠ b.id := List.pairwise_map.1 h2
  refine (h1.and h3).imp ?_
  rintro a b ⟨h, g⟩
  unfold Tc.inLe at h
  simp only [decide_eq_false_iff_not] at h
  rw [inCmp_lt] at h
  unfold inLt at *; omega

theorem row_up {l : List Ent} {x x' : RowSt} {e : Ent} (h0 : Row0 l x) (hids : (l ++ [e]).Pairwise fun a b => a.1 < b.1) (hm : e.2.mat.mask = x.mask) (up : Td.RowUp x x' e.2.mat.val ⟨e.1, e.2.rank⟩)
    (hh : x.greatest = e.2.rank ∨ ∃ y ∈ l, y.2.mat.mask = x.mask ∧ y.2.rank = x.greatest) : RowInv (l ++ [e]) x' := by
  obtain ⟨_, _, umask, ⟨v', ubks⟩, ugreat, umany⟩ := up
  obtain ⟨old, hold⟩ : ∃ old : List In, old = ((kvGetG e.2.mat.val x.bks).getD nilB).l := ⟨_, rfl⟩
  rw [← hold] at ubks
  have hperm : old.Perm (insOf l x.mask e.2.mat.val) := by
    rw [hold]
    cases hg : kvGetG e.2.mat.val x.bks with
    | some b => exact (h0.bucket _ (kvGetG_mem hg)).2.2
    | none =>
      have : insOf l x.mask e.2.mat.val = [] := by
        rw [List.eq_nil_iff_forall_not_mem]
        intro i hi
        obtain ⟨y, hy, ⟨e1, e2⟩, _⟩ := mem_insOf.1 hi
        obtain ⟨b, hb, hk⟩ := h0.cov y hy e1
        exact kvGetG_none.1 hg b hb (by rw [hk, e2])
      rw [this]; exact List.Perm.refl _
  have hnew : (old ++ [(⟨e.1, e.2.rank⟩ : In)]).Perm (insOf (l ++ [e]) x.mask e.2.mat.val) := by
    rw [insOf_snoc, if_pos ⟨hm, rfl⟩]
    exact hperm.append_right _
  refine ⟨by rw [ubks]; exact kvSetG_nodup h0.nodup, fun b hb => ?_, fun y hy hym => ?_, fun y hy hym => ?_, ?_, ?_⟩
  · rw [ubks, kvSetG_mem h0.nodup] at hb
    rcases hb with rfl | ⟨hb, hne⟩
    · refine ⟨fun c => ?_, ?_, ?_⟩
      · have := (isort_perm Tc.inLe (old ++ [(⟨e.1, e.2.rank⟩ : In)])).length_eq
        simp only at c
        rw [c] at this; simp at this
      · refine sorted_ins ((hnew.map In.id).nodup_iff.2 (ids_nodup hids _ _))
      · simp only
        rw [umask]
        exact (isort_perm _ _).trans hnew
    · obtain ⟨h1, h2, h3⟩ := h0.bucket b hb
      refine ⟨h1, h2, ?_⟩
      rw [umask, insOf_snoc, if_neg (fun c => hne c.2.symm), List.append_nil]; exact h3
  · rw [umask] at hym
    rw [ubks]
    by_cases c : y.2.mat.val = e.2.mat.val
    · exact ⟨_, (kvSetG_mem h0.nodup).2 (.inl rfl), c.symm⟩
    · rcases List.mem_append.1 hy with d | d
      · obtain ⟨b, hb, hk⟩ := h0.cov y d hym
        exact ⟨b, (kvSetG_mem h0.nodup).2 (.inr ⟨hb, fun e2 => c (by rw [← hk, e2])⟩), hk⟩
      · simp at d; subst d; exact absurd rfl c
  · rw [umask] at hym
    rw [ugreat]
    rcases List.mem_append.1 hy with d | d
    · have := h0.great y d hym; simp only; omega
    · simp at d; subst d; simp only; omega
  · rw [umask, ugreat]
    by_cases c : x.greatest ≤ e.2.rank
    · exact ⟨e, by simp, hm, by simp only; omega⟩
    · rcases hh with hh | ⟨y, hy, h1, h2⟩
      · omega
      · exact ⟨y, List.mem_append_left _ hy, h1, by simp only; omega⟩
  · rw [umask, umany, List.countP_append, h0.many]
    simp [hm]

theorem add_inv {T T' : TabSt} {ru : Rule} (inv : TInv T) (hr : Td.AddRel T ru T') (ok : matOk ru.mat = true) (hw : ru.wf) : TInv T' ∧ T'.atl = T.atl ++ [(T.last + 1, Td.r0 ru)] ∧ T'.last = T.last + 1 := by
  obtain ⟨hbt, hmt, hlast, hatl, rows1, i, x, x', ⟨hix, hxm, hor⟩, up, hrows⟩ := hr
  have hnew : ∀ p ∈ T.atl, p.1 ≠ T.last + 1 := fun p hp e => by have := (inv.bnd p hp).2; omega
  rw [kvSetG_new hnew] at hatl
  have hids : (T.atl ++ [(T.last + 1, Td.r0 ru)]).Pairwise fun a b => a.1 < b.1 := by
    rw [List.pairwise_append]
    refine ⟨inv.ids, by simp, fun a ha b hb => ?_⟩
    simp at hb; subst hb
    have := (inv.bnd a ha).2; simp only; omega
  -- the rows before the rule comes
  have hn1 : (rows1.map (·.mask)).Nodup := by
    rcases hor with e | ⟨hno, e, _⟩
    · rw [e]; exact inv.masks
    · rw [e, List.map_append, List.nodup_append]
      refine ⟨inv.masks, by simp, fun a ha b hb e2 => ?_⟩
      simp at hb
      obtain ⟨y, hy, rfl⟩ := List.mem_map.1 ha
      exact hno y hy (by rw [e2, hb, hxm])
  have hmem1 : ∀ y ∈ rows1, y.mask ≠ x.mask → y ∈ T.rows := by
    intro y hy hne
    rcases hor with e | ⟨_, e, _⟩
    · rw [← e]; exact hy
    · rw [e] at hy
      rcases List.mem_append.1 hy with c | c
      · exact c
      · simp at c; subst c; exact absurd rfl hne
  have h0 : Row0 T.atl x ∧ (x.greatest = ru.rank ∨ ∃ y ∈ T.atl, y.2.mat.mask = x.mask ∧ y.2.rank = x.greatest) := by
    rcases hor with e | ⟨hno, _, hb, hg, hm⟩
    · have hx : x ∈ T.rows := by rw [← e]; exact List.mem_of_getElem? hix
      exact ⟨(inv.rows x hx).row0, .inr (inv.rows x hx).has⟩
    · have hno2 : ∀ y ∈ T.atl, y.2.mat.mask ≠ x.mask := fun y hy c => by
        obtain ⟨r, hr, he⟩ := inv.cover y hy
        exact hno r hr (by rw [he, c, hxm])
      refine ⟨⟨by rw [hb]; exact List.nodup_nil, by rw [hb]; simp, fun y hy c => absurd c (hno2 y hy), fun y hy c => absurd c (hno2 y hy), ?_⟩, .inl hg⟩
      rw [hm]
      symm
      rw [List.countP_eq_zero]
      intro y hy
      simpa using hno2 y hy
  have hx' : RowInv (T.atl ++ [(T.last + 1, Td.r0 ru)]) x' := row_up (e := (T.last + 1, Td.r0 ru)) h0.1 hids hxm.symm up h0.2
  have hmem : ∀ y, y ∈ T'.rows ↔ y = x' ∨ (y ∈ rows1 ∧ y.mask ≠ x.mask) := fun y => by
    rw [hrows, (isort_perm _ _).mem_iff, mem_set_row hn1 hix]
  refine ⟨⟨by rw [hatl]; exact hids, fun y hy => ?_, by rw [hlast]; have := inv.last; omega, fun y hy => ?_, ?_, fun r hr => ?_, fun y hy => ?_, ?_⟩, hatl, hlast⟩
  · rw [hatl] at hy
    rw [hlast]
    rcases List.mem_append.1 hy with c | c
    · have := inv.bnd y c; omega
    · simp at c; subst c; have := inv.last; simp only; omega
  · rw [hatl] at hy
    rcases List.mem_append.1 hy with c | c
    · exact inv.okm y c
    · simp at c; subst c; exact ⟨ok, hw⟩
  · rw [hrows]
    have h1 : ((rows1.set i x').map (·.mask)).Nodup := by
      have e : (rows1.set i x').map (·.mask) = rows1.map (·.mask) := by
        rw [List.map_set]
        obtain ⟨l1, l2, e1, e2, e3⟩ := set_split (l := rows1.map (·.mask)) (i := i) (a := x.mask) (by rw [List.getElem?_map, hix]; rfl)
        rw [e2, up.mask, ← e1]
      rw [e]; exact hn1
    exact ((isort_perm _ _).map _).nodup_iff.2 h1
  · rw [hatl]
    rcases (hmem r).1 hr with rfl | ⟨h1, h2⟩
    · exact hx'
    · exact (inv.rows r (hmem1 r h1 h2)).other (fun c => h2 (by rw [← c]; exact hxm.symm))
  · rw [hatl] at hy
    rcases List.mem_append.1 hy with c | c
    · obtain ⟨r, hr, he⟩ := inv.cover y c
      by_cases d : r.mask = x.mask
      · exact ⟨x', (hmem x').2 (.inl rfl), by rw [up.mask, ← d, he]⟩
      · refine ⟨r, (hmem r).2 (.inr ⟨?_, d⟩), he⟩
        rcases hor with e | ⟨_, e, _⟩
        · rw [e]; exact hr
        · rw [e]; exact List.mem_append_left _ hr
    · simp at c; subst c; exact ⟨x', (hmem x').2 (.inl rfl), by rw [up.mask, hxm]; rfl⟩
  · rw [hrows]
    have := isort_pair (le := Tc.rowLe) (fun a b c h g => by
      rw [Tc.rowLe_iff] at *
      simp only [decide_eq_false_iff_not] at *; omega) (fun a b h => by
      rw [Tc.rowLe_iff] at *
      simp only [decide_eq_false_iff_not, decide_eq_true_eq] at *; omega) (rows1.set i x')
    exact this.imp fun h => by
      rw [Tc.rowLe_iff] at h
      simp only [decide_eq_false_iff_not] at h; omega

theorem rows_le {T : TabSt} (inv : TInv T) : T.rows.length ≤ T.atl.length := by
  have h := len_of_sub (l := T.rows.map (·.mask)) (m := T.atl.map fun x => x.2.mat.mask) inv.masks fun k hk => by
    obtain ⟨r, hr, rfl⟩ := List.mem_map.1 hk
    obtain ⟨x, hx, h1, _⟩ := (inv.rows r hr).has
    exact List.mem_map.2 ⟨x, hx, h1⟩
  simpa using h

theorem rows_wf {T : TabSt} (inv : TInv T) : ∀ x ∈ T.rows, x.mask.wf ∧ ∀ b ∈ x.bks, b.1.wf := by
  intro r hr
  have ri := inv.rows r hr
  obtain ⟨x, hx, h1, _⟩ := ri.has
  refine ⟨h1 ▸ (inv.okm x hx).2.2.2.1.2, fun b hb => ?_⟩
  obtain ⟨hne, _, hp⟩ := ri.bucket b hb
  obtain ⟨i, hi⟩ := List.exists_mem_of_ne_nil _ hne
  obtain ⟨y, hy, ⟨_, e2⟩, _⟩ := mem_insOf.1 (hp.mem_iff.1 hi)
  exact e2 ▸ (inv.okm y hy).2.2.2.1.1

theorem add_pre {T : TabSt} (inv : TInv T) (hl : T.atl.length ≤ 100000) (hb : T.last < 4611686018427387904) : Td.AddPre T := by
  refine ⟨⟨inv.last, hb⟩, Nat.le_trans (rows_le inv) hl, fun r hr => ?_⟩
  have ri := inv.rows r hr
  obtain ⟨w1, w2⟩ := rows_wf inv r hr
  obtain ⟨x, hx, h1, h2⟩ := ri.has
  refine ⟨w1, ?_, ?_, ri.nodup, fun b hb => ⟨w2 b hb, ?_⟩⟩
  · have := (inv.okm x hx).2
    unfold i64Ok; rw [← h2]; exact ⟨this.1, this.2.1⟩
  · rw [ri.many]; exact Nat.le_trans List.countP_le_length hl
  · rw [(ri.bucket b hb).2.2.length_eq]
    unfold insOf
    rw [List.length_map]
    exact Nat.le_trans (List.length_filter_le _ _) hl

theorem new_inv {T : TabSt} (h1 : T.rows = []) (h2 : T.atl = []) (h3 : T.last = 0) : TInv T :=
  ⟨by rw [h2]; exact List.Pairwise.nil, by rw [h2]; simp, by omega, by rw [h2]; simp, by rw [h1]; exact List.nodup_nil, by rw [h1]; simp, by rw [h2]; simp, by rw [h1]; exact List.Pairwise.nil⟩

end Go.Eng
