/-
  The reference's table of tuples, on the heap and in plain Lean.
  No condition.
-/
import Derived.Test.YtmdhbgkmkmmmpaaTupN
namespace Go.Eng
open Go

def entCells (x : Ent) (cv : Value) : List Value := .int .i64 x.1 :: ruleCells x.2.rank x.2.mat cv x.2.cookie
def entR : Rep Ent := fun _ _ cs x => ∃ cv, cs = entCells x cv ∧ cv.oneCell' = true ∧ x.2.wf
theorem entR_ok : entR.Ok 26 where
  frame := fun h _ _ => h
  mono := fun h _ => h
  one := fun ⟨cv, e, h, _⟩ c hc => by
    subst e
    rcases List.mem_cons.1 hc with rfl | hc
    · rfl
    · exact ruleCells_one h c hc
  len := fun ⟨cv, e, _⟩ => by subst e; rfl

theorem ent_mat {x : Ent} {cv : Value} (j : Nat) (v : Value) (h : x.2.mat.cells[j]? = some v) : (entCells x cv)[1 + 1 + j]? = some v := by
  rw [show 1 + 1 + j = (1 + j) + 1 by omega]
  unfold entCells
  rw [List.getElem?_cons_succ]
  exact Dg.ruleCells_mat j v h
theorem ent_mask {x : Ent} {cv : Value} (j : Nat) (v : Value) (h : x.2.mat.mask.cells[j]? = some v) : (entCells x cv)[1 + 1 + 11 + j]? = some v := by
  have h2 := Ta.mask_in (m := x.2.mat) j v h
  rw [show 1 + 1 + 11 + j = 1 + 1 + (11 + j) by omega]
  exact ent_mat _ v h2

structure RefSt where
  b : Nat
  v : Value
  l : List Ent
  last : Int

def refCells (v : Value) (last : Int) : List Value := [v, .int .i64 last]
def refPieces (R : RefSt) : List Asn := [pts R.b 69 (refCells R.v R.last), ownA 144 26 entR entR_ok R.v R.l]
def refA (R : RefSt) : Asn := star (refPieces R)

/-! ### the best one, by index -/

def BestAt (l : List Ent) (h : Hdr) (j : Nat) (bi : Int) : Prop :=
  (bi = -1 ∧ ∀ k (hk : k < l.length), k < j → hits l[k].2.mat h = false) ∨
  (∃ m, ∃ hm : m < l.length, m < j ∧ bi = (m : Nat) ∧ hits l[m].2.mat h = true ∧ ∀ k (hk : k < l.length), k < j → hits l[k].2.mat h = true → Better l[m] l[k])

section best
variable {l : List Ent} {h : Hdr} {j : Nat} {bi : Int}

theorem BestAt.start : BestAt l h 0 (-1) := .inl ⟨rfl, fun k _ c => absurd c (Nat.not_lt_zero k)⟩
theorem BestAt.no (t : BestAt l h j bi) (hj : j < l.length) (hh : hits l[j].2.mat h = false) : BestAt l h (j + 1) bi := by
  rcases t with ⟨e, a⟩ | ⟨m, hm, h1, h2, h3, a⟩
  · refine .inl ⟨e, fun k hk c => ?_⟩
    rcases Nat.lt_or_ge k j with d | d
    · exact a k hk d
    · obtain rfl : k = j := by omega
      exact hh
  · refine .inr ⟨m, hm, by omega, h2, h3, fun k hk c hh2 => ?_⟩
    rcases Nat.lt_or_ge k j with d | d
    · exact a k hk d hh2
    · obtain rfl : k = j := by omega
      rw [hh] at hh2; cases hh2
theorem BestAt.first (t : BestAt l h j bi) (hb : bi < 0) (hj : j < l.length) (hh : hits l[j].2.mat h = true) : BestAt l h (j + 1) (j : Nat) := by
  rcases t with ⟨e, a⟩ | ⟨m, hm, h1, h2, _⟩
  · refine .inr ⟨j, hj, by omega, rfl, hh, fun k hk c hh2 => ?_⟩
    rcases Nat.lt_or_ge k j with d | d
    · rw [a k hk d] at hh2; cases hh2
    · obtain rfl : k = j := by omega
      exact .inr ⟨rfl, Int.le_refl _⟩
  · omega
theorem BestAt.at (t : BestAt l h j bi) (hb : ¬ bi < 0) : ∃ m, ∃ hm : m < l.length, m < j ∧ bi = (m : Nat) ∧ hits l[m].2.mat h = true ∧ ∀ k (hk : k < l.length), k < j → hits l[k].2.mat h = true → Better l[m] l[k] := by
  rcases t with ⟨e, _⟩ | h
  · omega
  · exact h
theorem best_more {m : Nat} {hm : m < l.length} (a : ∀ k (hk : k < l.length), k < j → hits l[k].2.mat h = true → Better l[m] l[k]) (hj : j < l.length) (hh : hits l[j].2.mat h = true) (hr : l[j].2.rank > l[m].2.rank) : BestAt l h (j + 1) (j : Nat) := by
  refine .inr ⟨j, hj, by omega, rfl, hh, fun k hk c hh2 => ?_⟩
  rcases Nat.lt_or_ge k j with d | d
  · have := a k hk d hh2
    unfold Better at this ⊢; omega
  · obtain rfl : k = j := by omega
    exact .inr ⟨rfl, Int.le_refl _⟩
theorem best_same {m : Nat} {hm : m < l.length} (hmj : m < j) (hhm : hits l[m].2.mat h = true) (a : ∀ k (hk : k < l.length), k < j → hits l[k].2.mat h = true → Better l[m] l[k]) (hs : l.Pairwise fun a b => a.1 < b.1) (hj : j < l.length) (hr : ¬ l[j].2.rank > l[m].2.rank) : BestAt l h (j + 1) (m : Nat) := by
  refine .inr ⟨m, hm, by omega, rfl, hhm, fun k hk c hh2 => ?_⟩
  rcases Nat.lt_or_ge k j with d | d
  · exact a k hk d hh2
  · obtain rfl : k = j := by omega
    have := (List.pairwise_iff_getElem.1 hs) m k hm hk hmj
    unfold Better; omega
theorem BestAt.top (t : BestAt l h l.length bi) (hpos : ∀ x ∈ l, 0 < x.1) : (bi < 0 → Top l h (fun _ => True) ⟨0, 0⟩) ∧ ∀ m (hm : m < l.length), bi = (m : Nat) → Top l h (fun _ => True) ⟨l[m].1, l[m].2.rank⟩ := by
  constructor
  · intro hb
    rcases t with ⟨_, a⟩ | ⟨m, hm, h1, h2, _⟩
    · refine .inl ⟨rfl, fun y hy _ => ?_⟩
      obtain ⟨k, hk, rfl⟩ := List.getElem_of_mem hy
      exact a k hk hk
    · omega
  · intro m hm e
    rcases t with ⟨e2, _⟩ | ⟨m2, hm2, h1, h2, h3, a⟩
    · omega
    · obtain rfl : m = m2 := by omega
      refine .inr ⟨hpos _ (List.getElem_mem hm), l[m], List.getElem_mem hm, rfl, rfl, h3, fun y hy _ hh => ?_⟩
      obtain ⟨k, hk, rfl⟩ := List.getElem_of_mem hy
      exact a k hk hk hh
theorem Top.same {a b : In} (t : Top l h (fun _ => True) a) (s : Top l h (fun _ => True) b) : a.id = b.id := by
  rcases t with ⟨a0, an⟩ | ⟨a0, x, hx, x1, x2, xh, xa⟩ <;> rcases s with ⟨b0, bn⟩ | ⟨b0, y, hy, y1, y2, yh, ya⟩
  · omega
  · rw [an y hy trivial] at yh; cases yh
  · rw [bn x hx trivial] at xh; cases xh
  · have h1 := xa y hy trivial yh
    have h2 := ya x hx trivial xh
    unfold Better at h1 h2; omega
end best

/-! ### how many masks -/

def distM (ms : List Hdr) : Nat → List Hdr
  | 0 => []
  | i + 1 => match ms[i]? with | some m => if m ∈ ms.take i then distM ms i else distM ms i ++ [m] | none => distM ms i

theorem distM_spec (ms : List Hdr) : ∀ i, i ≤ ms.length → (distM ms i).Nodup ∧ ∀ m, m ∈ distM ms i ↔ m ∈ ms.take i
  | 0, _ => ⟨List.nodup_nil, fun m => by simp [distM]⟩
  | i + 1, hi => by
    obtain ⟨h1, h2⟩ := distM_spec ms i (by omega)
    have hil : i < ms.length := by omega
    unfold distM
    rw [List.getElem?_eq_getElem hil]
    simp only
    have htk : ms.take (i + 1) = ms.take i ++ [ms[i]] := List.take_succ_eq_append_getElem hil
    split
    · rename_i c
      refine ⟨h1, fun m => ?_⟩
      rw [htk, List.mem_append, List.mem_singleton, h2]
      constructor
      · exact .inl
      · rintro (d | rfl)
        · exact d
        · exact c
    · rename_i c
      refine ⟨?_, fun m => ?_⟩
      · rw [List.nodup_append]
        refine ⟨h1, by simp, fun a ha b hb e => ?_⟩
        simp at hb
        subst hb; subst e
        exact c ((h2 _).1 ha)
      · rw [htk, List.mem_append, List.mem_append, h2]

theorem dist_rows {T : TabSt} (inv : TInv T) : (distM (T.atl.map fun x => x.2.mat.mask) T.atl.length).length = T.rows.length := by
  obtain ⟨h1, h2⟩ := distM_spec (T.atl.map fun x => x.2.mat.mask) T.atl.length (by simp)
  rw [List.take_of_length_le (by simp)] at h2
  have e : T.rows.length = (T.rows.map (·.mask)).length := by simp
  rw [e]
  apply Nat.le_antisymm
  · refine len_of_sub h1 fun m hm => ?_
    obtain ⟨x, hx, rfl⟩ := List.mem_map.1 ((h2 m).1 hm)
    obtain ⟨r, hr, he⟩ := inv.cover x hx
    exact List.mem_map.2 ⟨r, hr, he⟩
  · refine len_of_sub inv.masks fun m hm => ?_
    obtain ⟨r, hr, rfl⟩ := List.mem_map.1 hm
    obtain ⟨x, hx, h3, _⟩ := (inv.rows r hr).has
    exact (h2 _).2 (List.mem_map.2 ⟨x, hx, h3⟩)

end Go.Eng
