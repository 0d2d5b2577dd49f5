/-
  A table of package tuples stays what it is, as a rule goes.
  No condition.
-/
import Derived.Test.YtmdhbgkmkmmmpaaTi
namespace Go.Eng
open Go

theorem mem_erase_row {rows : List RowSt} {i : Nat} {x : RowSt} (hn : (rows.map (·.mask)).Nodup) (hi : rows[i]? = some x) {y : RowSt} : y ∈ rows.eraseIdx i ↔ y ∈ rows ∧ y.mask ≠ x.mask := by
  obtain ⟨l1, l2, e1, _, e3⟩ := set_split hi
  subst e1
  rw [List.eraseIdx_append_of_length_le (by omega), e3, Nat.sub_self]
  rw [List.map_append, List.map_cons, List.nodup_append] at hn
  obtain ⟨_, n2, n3⟩ := hn
  rw [List.nodup_cons] at n2
  simp only [List.eraseIdx_cons_zero, List.mem_append, List.mem_cons]
  constructor
  · rintro (h | h)
    · exact ⟨.inl h, fun e => n3 _ (List.mem_map.2 ⟨y, h, rfl⟩) _ (by simp) e⟩
    · exact ⟨.inr (.inr h), fun e => n2.1 (by rw [← e]; exact List.mem_map.2 ⟨y, h, rfl⟩)⟩
  · rintro ⟨h | rfl | h, hne⟩
    · exact .inl h
    · exact absurd rfl hne
    · exact .inr h

theorem insOf_perm {l m : List Ent} (p : l.Perm m) (mask val : Hdr) : (insOf l mask val).Perm (insOf m mask val) := (p.filter _).map _

section drop
variable {l l' : List Ent} {e : Ent} {mask val : Hdr} {old : List In}

theorem insOf_cons : insOf (e :: l') mask val = (if e.2.mat.mask = mask ∧ e.2.mat.val = val then [⟨e.1, e.2.rank⟩] else []) ++ insOf l' mask val := by
  unfold insOf
  rw [List.filter_cons]
  by_cases c : e.2.mat.mask = mask ∧ e.2.mat.val = val
  · rw [if_pos c, if_pos (by simpa using c)]; rfl
  · rw [if_neg c, if_neg (by simpa using c)]; rfl

theorem ins_gone (hp : l.Perm (e :: l')) (hne : ∀ y ∈ l', y.1 ≠ e.1) (ho : old.Perm (insOf l mask val)) : (old.filter fun k => !decide (k.id = e.1)).Perm (insOf l' mask val) := by
  refine ((ho.trans (insOf_perm hp mask val)).filter _).trans ?_
  rw [insOf_cons, List.filter_append]
  have h1 : (insOf l' mask val).filter (fun k => !decide (k.id = e.1)) = insOf l' mask val := by
    refine List.filter_eq_self.2 fun i hi => ?_
    obtain ⟨y, hy, _, rfl⟩ := mem_insOf.1 hi
    simpa using hne y hy
  rw [h1]
  split
  · simp
  · simp

theorem ins_same (hp : l.Perm (e :: l')) (hno : ¬ (e.2.mat.mask = mask ∧ e.2.mat.val = val)) (ho : old.Perm (insOf l mask val)) : old.Perm (insOf l' mask val) := by
  refine (ho.trans (insOf_perm hp mask val)).trans ?_
  rw [insOf_cons, if_neg hno]; exact List.Perm.refl _

theorem RowInv.less {r : RowSt} (h : RowInv l r) (hp : l.Perm (e :: l')) (hne : e.2.mat.mask ≠ r.mask) : RowInv l' r := by
  have hsub : ∀ y ∈ l', y ∈ l := fun y hy => hp.mem_iff.2 (List.mem_cons_of_mem _ hy)
  refine ⟨h.nodup, fun b hb => ?_, fun x hx hm => h.cov x (hsub x hx) hm, fun x hx hm => h.great x (hsub x hx) hm, ?_, ?_⟩
  · obtain ⟨h1, h2, h3⟩ := h.bucket b hb
    exact ⟨h1, h2, ins_same hp (fun c => hne c.1) h3⟩
  · obtain ⟨x, hx, h1, h2⟩ := h.has
    rcases List.mem_cons.1 (hp.mem_iff.1 hx) with rfl | c
    · exact absurd h1 hne
    · exact ⟨x, c, h1, h2⟩
  · rw [h.many, hp.countP_eq, List.countP_cons_of_neg (by simpa using hne)]

theorem row_down {x x' : RowSt} (h : RowInv l x) (hp : l.Perm (e :: l')) (hne : ∀ y ∈ l', y.1 ≠ e.1) (hm : x.mask = e.2.mat.mask) (dn : Ti.RowDown x x' e.2.mat.val e.1) : RowInv l' x' := by
  obtain ⟨_, _, umask, ubks, umany, ugreat⟩ := dn
  have hsub : ∀ y ∈ l', y ∈ l := fun y hy => hp.mem_iff.2 (List.mem_cons_of_mem _ hy)
  have hold : (((kvGetG e.2.mat.val x.bks).getD nilB).l).Perm (insOf l x.mask e.2.mat.val) ∧ (((kvGetG e.2.mat.val x.bks).getD nilB).l).Pairwise inLt := by
    cases hg : kvGetG e.2.mat.val x.bks with
    | some b => exact ⟨(h.bucket _ (kvGetG_mem hg)).2.2, (h.bucket _ (kvGetG_mem hg)).2.1⟩
    | none =>
      have : insOf l x.mask e.2.mat.val = [] := by
        rw [List.eq_nil_iff_forall_not_mem]
        intro i hi
        obtain ⟨y, hy, ⟨e1, e2⟩, _⟩ := mem_insOf.1 hi
        obtain ⟨b, hb, hk⟩ := h.cov y hy e1
        exact kvGetG_none.1 hg b hb (by rw [hk, e2])
      rw [this]; exact ⟨List.Perm.refl _, List.Pairwise.nil⟩
  have hdrop : (Ti.dropL x e.2.mat.val e.1).Perm (insOf l' x.mask e.2.mat.val) ∧ (Ti.dropL x e.2.mat.val e.1).Pairwise inLt :=
    ⟨ins_gone hp hne hold.1, hold.2.sublist List.filter_sublist⟩
  have hbk : ∀ b ∈ x'.bks, b.2.l ≠ [] ∧ b.2.l.Pairwise inLt ∧ b.2.l.Perm (insOf l' x.mask b.1) := by
    intro b hb
    rcases Ti.bks_mem ubks h.nodup hb with ⟨e1, e2, e3⟩ | ⟨hb, hk⟩
    · exact ⟨e2, by rw [e1]; exact hdrop.2, by rw [e1, e3]; exact hdrop.1⟩
    · obtain ⟨h1, h2, h3⟩ := h.bucket b hb
      exact ⟨h1, h2, ins_same hp (fun c => hk c.2.symm) h3⟩
  have hcov : ∀ y ∈ l', y.2.mat.mask = x.mask → ∃ b ∈ x'.bks, b.1 = y.2.mat.val := by
    intro y hy hym
    obtain ⟨b, hb, hk⟩ := h.cov y (hsub y hy) hym
    by_cases c : y.2.mat.val = e.2.mat.val
    · have hin : (⟨y.1, y.2.rank⟩ : In) ∈ Ti.dropL x e.2.mat.val e.1 := hdrop.1.mem_iff.2 (mem_insOf.2 ⟨y, hy, ⟨hym, c⟩, rfl⟩)
      rcases ubks with ⟨h0, _⟩ | ⟨_, v', e2⟩
      · rw [h0] at hin; cases hin
      · exact ⟨_, by rw [e2]; exact (kvSetG_mem h.nodup).2 (.inl rfl), c.symm⟩
    · have hkne : b.1 ≠ e.2.mat.val := by rw [hk]; exact c
      rcases ubks with ⟨_, e2⟩ | ⟨_, v', e2⟩
      · exact ⟨b, by rw [e2]; exact (kvDelG_mem h.nodup).2 ⟨hb, hkne⟩, hk⟩
      · exact ⟨b, by rw [e2]; exact (kvSetG_mem h.nodup).2 (.inr ⟨hb, hkne⟩), hk⟩
  refine ⟨Ti.bks_nodup ubks h.nodup, by rw [umask]; exact hbk, by rw [umask]; exact hcov, ?_, ?_, ?_⟩
  · rw [umask]
    intro y hy hym
    obtain ⟨b, hb, hk⟩ := hcov y hy hym
    obtain ⟨_, hs, hperm⟩ := hbk b hb
    have hin : (⟨y.1, y.2.rank⟩ : In) ∈ b.2.l := hperm.mem_iff.2 (mem_insOf.2 ⟨y, hy, ⟨hym, hk.symm⟩, rfl⟩)
    match hl : b.2.l, hin, hs with
    | f :: r, hin, hs =>
      have hf := ugreat.all b hb f (by rw [hl]; rfl)
      rcases List.mem_cons.1 hin with c | c
      · have := congrArg In.rank c
        simp only at this; omega
      · have := (List.pairwise_cons.1 hs).1 _ c
        unfold inLt at this
        simp only at this; omega
  · rw [umask]
    obtain ⟨b, hb, f, hf, hr⟩ := ugreat.has
    obtain ⟨_, _, hperm⟩ := hbk b hb
    obtain ⟨y, hy, ⟨e1, _⟩, e3⟩ := mem_insOf.1 (hperm.mem_iff.1 (List.mem_of_getElem? hf))
    exact ⟨y, hy, e1, by rw [← hr, e3]⟩
  · have h1 := h.many
    rw [hp.countP_eq, List.countP_cons_of_pos (by simpa using hm.symm)] at h1
    rw [umask]; omega
end drop

theorem isort_rows (rows : List RowSt) : (isort Tc.rowLe rows).Pairwise fun a b => b.greatest ≤ a.greatest := by
  have := isort_pair (le := Tc.rowLe) (fun a b c h g => by
    rw [Tc.rowLe_iff] at *
    simp only [decide_eq_false_iff_not] at *; omega) (fun a b h => by
    rw [Tc.rowLe_iff] at *
    simp only [decide_eq_false_iff_not, decide_eq_true_eq] at *; omega) rows
  exact this.imp fun h => by
    rw [Tc.rowLe_iff] at h
    simp only [decide_eq_false_iff_not] at h; omega

theorem keys_nodup {l : List Ent} (h : l.Pairwise fun a b => a.1 < b.1) : (l.map (·.1)).Nodup := by
  have : (l.map (·.1)).Pairwise (· < ·) := by rw [List.pairwise_map]; exact h
  exact this.imp fun h => by omega

theorem kvDelG_sub {κ β : Type} [DecidableEq κ] {k : κ} : ∀ {l : List (κ × β)}, (kvDelG k l).Sublist l
  | [] => List.Sublist.refl _
  | (x, u) :: r => by
    unfold kvDelG
    split
    · exact List.sublist_cons_self _ _
    · exact kvDelG_sub.cons_cons _

theorem drop_inv {T T' : TabSt} {id : Int} (inv : TInv T) (hr : Ti.DropRel T id T') : TInv T' ∧ T'.atl = kvDelG id T.atl ∧ T'.last = T.last := by
  obtain ⟨hbt, hmt, hlast, hatl, ru, i, x, hg, hix, hxm, hor⟩ := hr
  have hn := keys_nodup inv.ids
  have hp : T.atl.Perm ((id, ru) :: kvDelG id T.atl) := kvGetG_perm hg
  have hne : ∀ y ∈ kvDelG id T.atl, y.1 ≠ id := fun y hy => ((kvDelG_mem hn).1 hy).2
  have hsub : ∀ y ∈ kvDelG id T.atl, y ∈ T.atl := fun y hy => ((kvDelG_mem hn).1 hy).1
  have hxmem : x ∈ T.rows := List.mem_of_getElem? hix
  have rx := inv.rows x hxmem
  have hids : (kvDelG id T.atl).Pairwise fun a b => a.1 < b.1 := inv.ids.sublist kvDelG_sub
  have hother : ∀ r ∈ T.rows, r.mask ≠ x.mask → RowInv (kvDelG id T.atl) r := fun r hr hm =>
    (inv.rows r hr).less (e := (id, ru)) hp (fun c => hm (by rw [← c, hxm]))
  rcases hor with ⟨h1, hrows⟩ | ⟨x', hm0, dn, hrows⟩
  · have hmem : ∀ y, y ∈ T'.rows ↔ y ∈ T.rows ∧ y.mask ≠ x.mask := fun y => by rw [hrows, mem_erase_row inv.masks hix]
    refine ⟨⟨by rw [hatl]; exact hids, fun y hy => ?_, by rw [hlast]; exact inv.last, fun y hy => ?_, ?_, fun r hr => ?_, fun y hy => ?_, ?_⟩, hatl, hlast⟩
    · rw [hatl] at hy; rw [hlast]; exact inv.bnd y (hsub y hy)
    · rw [hatl] at hy; exact inv.okm y (hsub y hy)
    · rw [hrows]; exact inv.masks.sublist ((List.eraseIdx_sublist _ _).map _)
    · rw [hatl]
      obtain ⟨a, b⟩ := (hmem r).1 hr
      exact hother r a b
    · rw [hatl] at hy
      obtain ⟨r, hr, he⟩ := inv.cover y (hsub y hy)
      refine ⟨r, (hmem r).2 ⟨hr, fun c => ?_⟩, he⟩
      have hm := rx.many
      rw [hp.countP_eq, List.countP_cons_of_pos (by simpa using hxm.symm)] at hm
      have h0 := Nat.succ.inj (hm.symm.trans h1)
      rw [List.countP_eq_zero] at h0
      exact h0 y hy (by simpa using (by rw [← he, c] : y.2.mat.mask = x.mask))
    · rw [hrows]; exact inv.sorted.sublist (List.eraseIdx_sublist _ _)
  · have hx' : RowInv (kvDelG id T.atl) x' := row_down (e := (id, ru)) rx hp hne hxm dn
    have hmem : ∀ y, y ∈ T'.rows ↔ y = x' ∨ (y ∈ T.rows ∧ y.mask ≠ x.mask) := fun y => by
      rw [hrows, (isort_perm _ _).mem_iff, mem_set_row inv.masks hix]
    refine ⟨⟨by rw [hatl]; exact hids, fun y hy => ?_, by rw [hlast]; exact inv.last, fun y hy => ?_, ?_, fun r hr => ?_, fun y hy => ?_, by rw [hrows]; exact isort_rows _⟩, hatl, hlast⟩
    · rw [hatl] at hy; rw [hlast]; exact inv.bnd y (hsub y hy)
    · rw [hatl] at hy; exact inv.okm y (hsub y hy)
    · rw [hrows]
      have h1 : ((T.rows.set i x').map (·.mask)).Nodup := by
        have e : (T.rows.set i x').map (·.mask) = T.rows.map (·.mask) := by
          rw [List.map_set]
          obtain ⟨l1, l2, e1, e2, e3⟩ := set_split (l := T.rows.map (·.mask)) (i := i) (a := x.mask) (by rw [List.getElem?_map, hix]; rfl)
          rw [e2, dn.mask, ← e1]
        rw [e]; exact inv.masks
      exact ((isort_perm _ _).map _).nodup_iff.2 h1
    · rw [hatl]
      rcases (hmem r).1 hr with rfl | ⟨h1, h2⟩
      · exact hx'
      · exact hother r h1 h2
    · rw [hatl] at hy
      obtain ⟨r, hr, he⟩ := inv.cover y (hsub y hy)
      by_cases d : r.mask = x.mask
      · exact ⟨x', (hmem x').2 (.inl rfl), by rw [dn.mask, ← d, he]⟩
      · exact ⟨r, (hmem r).2 (.inr ⟨hr, d⟩), he⟩

end Go.Eng
