/-
  What holds while 'last' of package diff goes through a list from its end.
  No condition.
-/
import Derived.Test.YtmdhbgkmkmmmpaaDat3
import Derived.Test.YtmdhbgkmkmmmpaaEngR
namespace Go.Eng
open Go

theorem SlR.pick {X : Nat → Prop} {w : World} {v : Value} {l : List Rule} (h : rulesR X w v l) :
    ∃ pa ca, ∃ cs : Nat → List Value, v = .slice pa l.length ca ∧ l.length ≤ 140737488355328 ∧ ∃ b o, (0 < l.length → pa = some ⟨b, o, none⟩) ∧ ∀ i x, l[i]? = some x → Seg w b (o + i * 25) (cs i) ∧ ruleR X w (cs i) x := by
  rcases h with ⟨p, cap, rfl, rfl⟩ | ⟨b, o, cap, rfl, _, _, _, hn, hr⟩
  · exact ⟨p, cap, fun _ => [], rfl, by simp, 0, 0, by simp, fun i x e => by simp at e⟩
  · classical
    refine ⟨_, cap, fun i => if h : ∃ c, Seg w b (o + i * 25) c ∧ ∃ x, l[i]? = some x ∧ ruleR X w c x then h.choose else [], rfl, hn, b, o, fun _ => rfl, fun i x e => ?_⟩
    obtain ⟨c, h1, h2⟩ := hr i x e
    have hex : ∃ c, Seg w b (o + i * 25) c ∧ ∃ x, l[i]? = some x ∧ ruleR X w c x := ⟨c, h1, x, e, h2⟩
    simp only [dif_pos hex]
    obtain ⟨g1, y, g2, g3⟩ := hex.choose_spec
    rw [e] at g2; cases g2
    exact ⟨g1, g3⟩

theorem Counts.snoc' {kv kv' : List (Pl × Value)} {xs : List Rule} (h : Counts kv xs) (x : Rule) (hk : ∀ p, plOf x ≠ p → kvGet p kv' = kvGet p kv) : Counts (kvSet (plOf x) (.int .i64 ((cnt xs (plOf x) : Nat) + 1)) kv') (xs ++ [x]) := by
  intro p
  rw [kvGet_set, cnt_snoc]
  by_cases c : plOf x = p
  · subst c; simp
  · simp [c, hk p c, h p]

theorem OwnSl.cells1 {α : Type} {R : Rep α} {sz e : Nat} {X : Nat → Prop} {w : World} {v : Value} {xs : List α} (h : OwnSl e sz R X w v xs) : v.cells = #[v] := by
  obtain ⟨cs, h1, _⟩ := h
  rcases h1.shape with ⟨rfl, _⟩ | ⟨b, cap, rfl, _⟩ <;> rfl
theorem OwnSl.one {α : Type} {R : Rep α} {sz e : Nat} {X : Nat → Prop} {w : World} {v : Value} {xs : List α} (h : OwnSl e sz R X w v xs) : v.oneCell' = true := by
  obtain ⟨cs, h1, _⟩ := h
  rcases h1.shape with ⟨rfl, _⟩ | ⟨b, cap, rfl, _⟩ <;> rfl

structure InvL (w W : World) (s bm b7 bs b8 b1 : Nat) (kv : List (Pl × Value)) (pa : Option Addr) (l : List Rule) (ca k PLACES MPI PLACE : Nat) : Prop where
  f : Fr0 w W
  k8 : Bk W b8 MPI [.map (some bs)]
  it : W.cell? ⟨b1, 0, none⟩ = some (.slice pa l.length ca)
  km : MapBk W bm plV kv
  ex : ∃ ov kv2, Bk W b7 PLACES [ov] ∧ OwnSl PLACE 23 plR (fun _ => False) W ov (ords (l.reverse.take k)) ∧ MapBk W bs plV kv2 ∧ (∀ p ∈ kv2, intsWf p.1.lits) ∧ Counts kv2 (l.reverse.take k) ∧ (∀ j, ov.ownBlock = some j → s + 2 ≤ j)
  b : w.heap.size ≤ bm ∧ bm < s ∧ b7 < s ∧ bs < s ∧ b8 < s ∧ b1 < s ∧ bm ≠ b7 ∧ bm ≠ bs ∧ bm ≠ b8 ∧ b7 ≠ bs ∧ b7 ≠ b8 ∧ bs ≠ b8 ∧ b1 ≠ bm ∧ b1 ≠ b7 ∧ b1 ≠ bs ∧ b1 ≠ b8 ∧ w.heap.size ≤ bs ∧ w.heap.size ≤ b7

section inv
variable {w W W' : World} {s bm b7 bs b8 b1 : Nat} {kv : List (Pl × Value)} {pa : Option Addr} {l : List Rule} {ca k PLACES MPI PLACE : Nat}

theorem InvL.frame (h : InvL w W s bm b7 bs b8 b1 kv pa l ca k PLACES MPI PLACE) (f : Fr (fun b => b = s ∨ b = s + 1) W W') (hs : w.heap.size ≤ s) : InvL w W' s bm b7 bs b8 b1 kv pa l ca k PLACES MPI PLACE := by
  obtain ⟨h1, h2, h3, h4, ⟨ov, kv2, g1, g2, g3, g4, g5, g6⟩, hb⟩ := h
  exact ⟨h1.trans' f (fun k hk c => by omega), h2.frame f (by omega), cell_keep h3 f (by omega), h4.frame f (by omega),
    ⟨ov, kv2, g1.frame f (by omega), g2.frame plR_ok f (fun j hj c => by have := g6 j hj; omega) (fun _ c => c.elim), g3.frame f (by omega), g4, g5, g6⟩, hb⟩

theorem InvL.ownlt (h : InvL w W s bm b7 bs b8 b1 kv pa l ca k PLACES MPI PLACE) {ov : Value} (e : W.cell? ⟨b7, 0, none⟩ = some ov) (g : Nat) (hg : ov.ownBlock = some g) : g < W.heap.size := by
  obtain ⟨ov', kv2, g1, g2, _⟩ := h.ex
  have := Bk.cell (o := 0) g1 rfl
  rw [this] at e; cases e
  exact g2.lt hg

theorem InvL.next (h : InvL w W s bm b7 bs b8 b1 kv pa l ca k PLACES MPI PLACE) {T : Nat → Prop} (fT : Fr T W W') (hT : ∀ j, T j → j = bs ∨ j = b7 ∨ s + 2 ≤ j) (_ : w.heap.size ≤ s) {ov : Value} {kv2 : List (Pl × Value)}
    (k7 : Bk W' b7 PLACES [ov]) (o : OwnSl PLACE 23 plR (fun _ => False) W' ov (ords (l.reverse.take (k + 1)))) (m : MapBk W' bs plV kv2) (ok : ∀ p ∈ kv2, intsWf p.1.lits) (c : Counts kv2 (l.reverse.take (k + 1)))
    (hown : ∀ j, ov.ownBlock = some j → s + 2 ≤ j) : InvL w W' s bm b7 bs b8 b1 kv pa l ca (k + 1) PLACES MPI PLACE := by
  obtain ⟨h1, h2, h3, h4, _, hb⟩ := h
  have no : ∀ j, j < s → j ≠ bs → j ≠ b7 → ¬ T j := fun j g1 g2 g3 g4 => by rcases hT j g4 with e | e | e <;> omega
  exact ⟨h1.trans' fT (fun j hj g => by rcases hT j g with e | e | e <;> omega), h2.frame fT (no _ (by omega) (by omega) (by omega)), cell_keep h3 fT (no _ (by omega) (by omega) (by omega)), h4.frame fT (no _ (by omega) (by omega) (by omega)),
    ⟨ov, kv2, k7, o, m, ok, c, hown⟩, hb⟩
end inv

theorem cat_catI (cs : List (List Value)) : ∀ k, k ≤ cs.length → cat (fun i => cs.getD i []) k = catI (cs.take k)
  | 0, _ => by simp [cat, catI, catL]
  | k + 1, h => by
    simp only [cat]
    rw [cat_catI cs k (by omega), List.take_succ_eq_append_getElem (by omega)]
    simp only [catI, catL_app, catL, id, List.append_nil]
    rw [List.getD_eq_getElem?_getD, List.getElem?_eq_getElem (by omega)]; rfl

/-- an owned slice as a block of elements -/
theorem OwnSl.arr {α : Type} {R : Rep α} {sz e : Nat} {X : Nat → Prop} {w : World} {v : Value} {xs : List α} (hR : R.Ok sz) (h : OwnSl e sz R X w v xs) (hn : 0 < xs.length) :
    ∃ b cap post, ∃ f : Nat → List Value, v = .slice (some ⟨b, 0, none⟩) xs.length cap ∧ xs.length ≤ cap ∧ Arr w b e sz xs.length [] post f ∧ ∀ i x, xs[i]? = some x → R X w (f i) x := by
  obtain ⟨cs, h1, h2, h3, h4⟩ := h
  have el : ∀ i x, xs[i]? = some x → R X w (cs.getD i []) x := by
    intro i x hx
    have hi : i < xs.length := by
      rcases Nat.lt_or_ge i xs.length with g | g
      · exact g
      · rw [List.getElem?_eq_none g] at hx; cases hx
    have hc : cs[i]? = some (cs.getD i []) := by rw [List.getD_eq_getElem?_getD, List.getElem?_eq_getElem (by omega)]; rfl
    exact h4 i x _ hx hc
  rcases h1.2 with ⟨_, h0⟩ | ⟨g, cap, cur, hv, hg, hh, hcap, hc, hz, ht⟩
  · omega
  · refine ⟨g, cap, cur.toList.drop (xs.length * sz), fun i => cs.getD i [], hv, hcap, ⟨?_, fun i hi => hR.len (el i _ (List.getElem?_eq_getElem hi)), fun i hi => hR.one (el i _ (List.getElem?_eq_getElem hi))⟩, el⟩
    have e1 : cat (fun i => cs.getD i []) xs.length = catI cs := by rw [cat_catI cs _ (by omega), List.take_of_length_le (by omega)]
    show w.heap[g]? = _
    rw [e1, hh, ← ht]; simp

/-- a block of elements as a slice to be read -/
theorem Arr.sl {α : Type} {R : Rep α} {sz T b cap : Nat} {X : Nat → Prop} {w : World} {xs : List α} {post : List Value} {f : Nat → List Value} (hA : Arr w b T sz xs.length [] post f) (hcap : xs.length ≤ cap) (hn : xs.length ≤ 140737488355328) (hX : X b)
    (hel : ∀ i x, xs[i]? = some x → R X w (f i) x) : SlR sz R X w (.slice (some ⟨b, 0, none⟩) xs.length cap) xs := by
  refine .inr ⟨b, 0, cap, rfl, hX, hA.bk.lt, hcap, hn, fun i x hx => ⟨f i, ?_, hel i x hx⟩⟩
  have hi : i < xs.length := by
    rcases Nat.lt_or_ge i xs.length with g | g
    · exact g
    · rw [List.getElem?_eq_none g] at hx; cases hx
  exact hA.seg hi

end Go.Eng
