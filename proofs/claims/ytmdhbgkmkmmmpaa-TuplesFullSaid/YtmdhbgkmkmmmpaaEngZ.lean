/-
  The engine, part Z: going through a map that stays as it is, in whatever order.
  No condition: general lemmas over any program.
-/
import Derived.Test.YtmdhbgkmkmmmpaaEngY
namespace Go.Eng
open Go

/-- an entry of a map, with its stamp -/
structure Stp (κ : Type) where
  k : κ
  v : Value
  born : Nat

def Stp.kv {κ : Type} (s : Stp κ) : κ × Value := (s.k, s.v)
def Stp.ent {κ : Type} (ek : κ → Value) (s : Stp κ) : MapEntry := ⟨ek s.k, s.v, s.born⟩

/-- an iterator over a map: what is left, and what came last -/
def IterAt {κ : Type} (w : World) (it m : Nat) (ek : κ → Value) (kv rest : List (κ × Value)) (last : Option (κ × Value)) : Prop :=
  ∃ (T : List (Stp κ)) (clock : Nat) (seen : Array Nat), w.heap[m]? = some (.map (T.map (Stp.ent ek)).toArray clock) ∧ T.map Stp.kv = kv ∧ (T.map Stp.born).Nodup ∧ (∀ s ∈ T, s.born < clock) ∧
    w.heap[it]? = some (.mapIter (some m) clock seen clock) ∧ rest = (T.filter fun s => !seen.contains s.born).map Stp.kv ∧
    (∀ p, last = some p → ∃ s ∈ T, s.kv = p ∧ seen.back? = some s.born)

section iter
variable {κ : Type} {w w' : World} {it m : Nat} {ek : κ → Value} {kv rest : List (κ × Value)} {last : Option (κ × Value)} {S : Nat → Prop}

theorem IterAt.frame (h : IterAt w it m ek kv rest last) (f : Fr S w w') (h1 : ¬ S it) (h2 : ¬ S m) : IterAt w' it m ek kv rest last := by
  obtain ⟨T, clock, seen, a, b, c, d, e, g⟩ := h
  exact ⟨T, clock, seen, f.here a h2, b, c, d, f.here e h1, g⟩

theorem MapBk.stps (h : MapBk w m ek kv) : ∃ (T : List (Stp κ)) (clock : Nat), w.heap[m]? = some (.map (T.map (Stp.ent ek)).toArray clock) ∧ T.map Stp.kv = kv ∧ (T.map Stp.born).Nodup ∧ ∀ s ∈ T, s.born < clock := by
  obtain ⟨es, clock, h1, h2, h3, _, h5, h6⟩ := h
  have gen : ∀ (es : List MapEntry) (kv : List (κ × Value)), es.map (·.key) = kv.map (fun p => ek p.1) → es.map (·.val) = kv.map (·.2) → ∃ T : List (Stp κ), T.map (Stp.ent ek) = es ∧ T.map Stp.kv = kv := by
    intro es
    induction es with
    | nil => intro kv a _; cases kv with
      | nil => exact ⟨[], rfl, rfl⟩
      | cons p kv => simp at a
    | cons e es ih =>
      intro kv a b
      cases kv with
      | nil => simp at a
      | cons p kv =>
        simp only [List.map_cons, List.cons.injEq] at a b
        obtain ⟨T, t1, t2⟩ := ih kv a.2 b.2
        refine ⟨⟨p.1, p.2, e.born⟩ :: T, ?_, ?_⟩
        · rw [List.map_cons, t1]
          congr 1
          obtain ⟨k, v, bn⟩ := e
          simp only [Stp.ent] at a b ⊢
          rw [← a.1, ← b.1]
        · rw [List.map_cons, t2]; rfl
  obtain ⟨T, t1, t2⟩ := gen es.toList kv h2 h3
  have hb : (T.map Stp.born) = es.toList.map (·.born) := by rw [← t1, List.map_map]; rfl
  refine ⟨T, clock, by rw [h1, t1], t2, by rw [hb]; exact h5, fun s hs => ?_⟩
  exact h6 (s.ent ek) (by rw [← t1]; exact List.mem_map.2 ⟨s, hs, rfl⟩)

theorem IterAt.map (h : IterAt w it m ek kv rest last) (hn : (kv.map (·.1)).Nodup) : MapBk w m ek kv := by
  obtain ⟨T, clock, seen, a, b, c, d, _⟩ := h
  refine ⟨_, clock, a, ?_, ?_, hn, ?_, ?_⟩
  · simp only [List.map_map]; rw [← b, List.map_map]; rfl
  · simp only [List.map_map]; rw [← b, List.map_map]; rfl
  · simp only [List.map_map]; exact c
  · intro e he
    simp only at he
    obtain ⟨s, hs, rfl⟩ := List.mem_map.1 he
    exact d s hs

variable {P : Program} {Q : Exit → Act → World → Prop} {n : Nat} {D : List Deferred} {L : List (Nat × Value)} {ops : Array Oper} {todo : List Oper}
variable {d : Nat} {t ty kt et : TypeId} {pos : String} {af : Array Edge} {x : Operand}

theorem OW.rangeMap (hd : Nat.blt d n = true) (hm : P.underlying t = some (.map kt et)) (hx : evl L x = some (.map (some m))) (hb : MapBk w m ek kv)
    (h : ∀ it w', w.heap.size ≤ it → it < w'.heap.size → Fr0 w w' → IterAt w' it m ek kv kv none → OW P ops Q n D todo ((d, .pointer (some ⟨it, 0, none⟩)) :: L) w') :
    OW P ops Q n D (⟨some d, .range t x, ty, pos, af, none⟩ :: todo) L w := by
  obtain ⟨T, clock, h1, h2, h3, h4⟩ := hb.stps
  have nw := New.alloc w (.mapIter (some m) clock #[] clock)
  refine OW.value (w' := w.alloc (.mapIter (some m) clock #[] clock)) (v := .pointer (some ⟨w.heap.size, 0, none⟩)) rfl rfl hd (fun a ha => ?_) (h w.heap.size _ (Nat.le_refl _) (by have := nw.size; omega) nw.fr ?_)
  · simp only [execOp, ha.eval hx]
    refine run_val ?_
    simp only [Instr.range, Sem.run_bind, run_underlying hm, Result.andThen_ok, getObj_run h1, Sem.run_pure]
    rfl
  · refine ⟨T, clock, #[], nw.fr.here h1 id, h2, h3, h4, nw.here, ?_, by simp⟩
    rw [← h2]
    congr 1
    symm
    exact List.filter_eq_self.2 fun s _ => by simp

theorem run_choose_lt {N : Nat} (hN : 0 < N) (w : World) : ∃ i w', (choose (.mapNext N)).run P w = .ok i w' ∧ i < N ∧ Fr0 w w' ∧ w'.heap = w.heap := by
  simp only [choose, Sem.run]
  by_cases c : (Question.mapNext N).forced
  · rw [if_pos c]
    exact ⟨0, w, rfl, hN, Fr.refl _ _, rfl⟩
  · rw [if_neg c]
    exact ⟨_, _, rfl, Nat.mod_lt _ hN, ⟨rfl, rfl, rfl, Nat.le_refl _, fun _ _ _ => rfl⟩, rfl⟩

theorem run_next (h : IterAt w it m ek kv rest last) (ty : TypeId) :
    (rest = [] ∧ ∃ w', (Instr.next (.pointer (some ⟨it, 0, none⟩)) false ty).run P w = .ok (.tuple #[.bool false]) w' ∧ Fr0 w w' ∧ w'.heap = w.heap) ∨
    ∃ l1 p l2 w', rest = l1 ++ p :: l2 ∧ (Instr.next (.pointer (some ⟨it, 0, none⟩)) false ty).run P w = .ok (.tuple #[.bool true, ek p.1, p.2]) w' ∧ Fr (fun k => k = it) w w' ∧ w'.heap.size = w.heap.size ∧ (it ≠ m → IterAt w' it m ek kv (l1 ++ l2) (some p)) := by
  obtain ⟨T, clock, seen, h1, h2, h3, h4, h5, h6, h7⟩ := h
  -- what is left
  have hleft : ((T.map (Stp.ent ek)).toArray.filter fun e => !seen.contains e.born) = ((T.filter fun s => !seen.contains s.born).map (Stp.ent ek)).toArray := by
    apply Array.ext'
    simp only [Array.toList_filter, List.filter_map]
    rfl
  have hold : ∀ l : List (Stp κ), (∀ s ∈ l, s.born < clock) → ((l.map (Stp.ent ek)).toArray.filter fun e => decide (e.born < clock)) = (l.map (Stp.ent ek)).toArray := by
    intro l hl
    apply Array.ext'
    simp only [Array.toList_filter]
    refine List.filter_eq_self.2 fun e he => ?_
    obtain ⟨s, hs, rfl⟩ := List.mem_map.1 he
    exact decide_eq_true (show s.born < clock from hl s hs)
  have hnew : ∀ l : List (Stp κ), (∀ s ∈ l, s.born < clock) → ((l.map (Stp.ent ek)).toArray.filter fun e => decide (e.born ≥ clock)) = #[] := by
    intro l hl
    apply Array.ext'
    simp only [Array.toList_filter]
    refine List.filter_eq_nil_iff.2 fun e he => ?_
    obtain ⟨s, hs, rfl⟩ := List.mem_map.1 he
    have := hl s hs
    simp [Stp.ent]; omega
  obtain ⟨lf, hlf⟩ : ∃ lf, lf = T.filter fun s => !seen.contains s.born := ⟨_, rfl⟩
  rw [← hlf] at hleft h6
  have hlt : ∀ s ∈ lf, s.born < clock := fun s hs => h4 s (by rw [hlf] at hs; exact (List.mem_filter.1 hs).1)
  have hgone : (!seen.isEmpty && !(T.map (Stp.ent ek)).toArray.isEmpty && (T.map (Stp.ent ek)).toArray.all (fun e => decide (e.born ≥ clock))) = false := by
    cases T with
    | nil => simp
    | cons s T =>
      have := h4 s (by simp)
      have e : ((s :: T).map (Stp.ent ek)).toArray.all (fun e => decide (e.born ≥ clock)) = false := by
        rw [List.all_toArray, List.map_cons, List.all_cons]
        have : decide ((s.ent ek).born ≥ clock) = false := decide_eq_false (by show ¬ s.born ≥ clock; omega)
        rw [this]; rfl
      rw [e]; simp
  have hcore : (Instr.next (.pointer (some ⟨it, 0, none⟩)) false ty).run P w =
      ((do
        let candidates := (if lf.isEmpty then #[none] else #[]) ++ ((lf.map (Stp.ent ek)).toArray.map some)
        match candidates[← choose (.mapNext candidates.size)]? with
        | some (some e) =>
          setObj it (.mapIter (some m) clock (seen.push e.born) clock)
          pure (.tuple #[.bool true, e.key, e.val])
        | some none => pure (.tuple #[.bool false])
        | none => stuck "Next: no such candidate" : Sem Value)).run P w := by
    simp only [Instr.next, Sem.run_bind]
    have g : (getObj it).run P w = .ok (.mapIter (some m) clock seen clock) w := by simp [getObj, Sem.run, h5]
    simp only [g, Result.andThen_ok, getObj_run h1, Sem.run_bind]
    rw [hgone]
    simp only [Bool.false_eq_true, if_false, hleft, hold lf hlt, hnew lf hlt, Array.append_empty]
    have e : ((lf.map (Stp.ent ek)).toArray.isEmpty = true) ↔ (lf.isEmpty = true) := by cases lf <;> simp
    by_cases c : lf.isEmpty = true
    · simp only [if_pos c, if_pos (e.2 c), Sem.run_bind]
      rfl
    · simp only [if_neg c, if_neg (fun h => c (e.1 h)), Sem.run_bind]
      rfl
  cases hc : lf with
  | nil =>
    left
    rw [hc] at h6
    refine ⟨by rw [h6]; rfl, ?_⟩
    rw [hcore, hc]
    obtain ⟨i, w', hr, hi, hf, hh⟩ := run_choose_lt (P := P) (N := 1) (by decide) w
    have hi0 : i = 0 := by omega
    subst hi0
    refine ⟨w', ?_, hf, hh⟩
    have e1 : (do
        match (#[none] ++ (([] : List MapEntry).toArray.map some) : Array (Option MapEntry))[← choose (.mapNext (#[none] ++ (([] : List MapEntry).toArray.map some) : Array (Option MapEntry)).size)]? with
        | some (some e) =>
          setObj it (.mapIter (some m) clock (seen.push e.born) clock)
          pure (.tuple #[.bool true, e.key, e.val])
        | some none => pure (.tuple #[.bool false])
        | none => stuck "Next: no such candidate" : Sem Value).run P w = .ok (.tuple #[.bool false]) w' := by
      rw [Sem.run_bind]
      have hsz : (#[none] ++ (([] : List MapEntry).toArray.map some) : Array (Option MapEntry)).size = 1 := by simp
      rw [hsz, hr]
      simp only [Result.andThen_ok]
      have hget : (#[none] ++ (([] : List MapEntry).toArray.map some) : Array (Option MapEntry))[0]? = some none := by simp
      rw [hget]
      rfl
    exact e1
  | cons s0 lf0 =>
    right
    obtain ⟨i, w1, hr, hi, hf, hh⟩ := run_choose_lt (P := P) (N := lf.length) (by rw [hc]; simp) w
    obtain ⟨l1, l2, e1, _, e3⟩ := set_split (List.getElem?_eq_getElem hi)
    obtain ⟨s, hs⟩ : ∃ s, s = lf[i] := ⟨_, rfl⟩
    rw [← hs] at e1
    have hsl : s ∈ lf := by rw [hs]; exact List.getElem_mem hi
    have hsT : s ∈ T := by rw [hlf] at hsl; exact (List.mem_filter.1 hsl).1
    have h5' : w1.heap[it]? = some (.mapIter (some m) clock seen clock) := by rw [hh]; exact h5
    have hset : (setObj it (.mapIter (some m) clock (seen.push s.born) clock)).run P w1 = .ok () { w1 with heap := w1.heap.setIfInBounds it (.mapIter (some m) clock (seen.push s.born) clock) } := by
      simp [setObj, Sem.run, h5']
    refine ⟨l1.map Stp.kv, s.kv, l2.map Stp.kv, { w1 with heap := w1.heap.setIfInBounds it (.mapIter (some m) clock (seen.push s.born) clock) }, ?_, ?_, ?_, ?_, ?_⟩
    · rw [h6, e1]; simp
    · rw [hcore]
      have hne : lf.isEmpty = false := by rw [hc]; rfl
      simp only [hne, Bool.false_eq_true, if_false, Sem.run_bind]
      have hsz : (#[] ++ (lf.map (Stp.ent ek)).toArray.map some : Array (Option MapEntry)).size = lf.length := by simp
      rw [hsz, hr]
      simp only [Result.andThen_ok]
      have hget : (#[] ++ (lf.map (Stp.ent ek)).toArray.map some : Array (Option MapEntry))[i]? = some (some (s.ent ek)) := by
        simp [hi, hs]
      rw [hget]
      simp only [Sem.run_bind, Stp.ent]
      rw [hset]
      rfl
    · refine ⟨hf.os, hf.tape, hf.output, by simp [hh], fun k hk hne => ?_⟩
      simp only [Array.getElem?_setIfInBounds]
      rw [if_neg (fun e => hne e.symm), hh]
    · simp [hh]
    · intro him
      have hil : it < w1.heap.size := lt_of_here h5'
      refine ⟨T, clock, seen.push s.born, ?_, h2, h3, h4, ?_, ?_, fun p hp => ?_⟩
      · simp only [Array.getElem?_setIfInBounds]
        rw [if_neg him, hh]; exact h1
      · simp only [Array.getElem?_setIfInBounds]
        simp [hil]
      · -- what is left behind it
        have hnd : (lf.map Stp.born).Nodup := by rw [hlf]; exact h3.sublist (List.filter_sublist.map _)
        have hf2 : (T.filter fun q => !(seen.push s.born).contains q.born) = l1 ++ l2 := by
          have e4 : (T.filter fun q => !(seen.push s.born).contains q.born) = lf.filter fun q => decide (q.born ≠ s.born) := by
            rw [hlf, List.filter_filter]
            apply List.filter_congr
            intro q _
            rw [Array.contains_push]
            cases h : seen.contains q.born <;> by_cases c : q.born = s.born <;> simp [c]
          rw [e4, e1, List.filter_append, List.filter_cons]
          rw [e1, List.map_append, List.map_cons, List.nodup_append] at hnd
          obtain ⟨_, n2, n3⟩ := hnd
          rw [List.nodup_cons] at n2
          rw [if_neg (by simp)]
          congr 1
          · refine List.filter_eq_self.2 fun q hq => ?_
            have := n3 _ (List.mem_map.2 ⟨q, hq, rfl⟩) s.born (by simp)
            simpa using this
          · refine List.filter_eq_self.2 fun q hq => ?_
            simp only [ne_eq, decide_eq_true_eq]
            intro e
            exact n2.1 (by rw [← e]; exact List.mem_map.2 ⟨q, hq, rfl⟩)
        rw [hf2, List.map_append]
      · cases hp
        exact ⟨s, hsT, rfl, by simp⟩

/-- the next entry, whichever it is -/
theorem OW.next (hd : Nat.blt d n = true) (hx : evl L x = some (.pointer (some ⟨it, 0, none⟩))) (hi : IterAt w it m ek kv rest last) (him : it ≠ m)
    (h0 : rest = [] → ∀ w', Fr0 w w' → IterAt w' it m ek kv rest last → OW P ops Q n D todo ((d, .tuple #[.bool false]) :: L) w')
    (h1 : ∀ l1 p l2 w', rest = l1 ++ p :: l2 → Fr (fun k => k = it) w w' → w'.heap.size = w.heap.size → IterAt w' it m ek kv (l1 ++ l2) (some p) → OW P ops Q n D todo ((d, .tuple #[.bool true, ek p.1, p.2]) :: L) w') :
    OW P ops Q n D (⟨some d, .next x false, ty, pos, af, none⟩ :: todo) L w := by
  rcases run_next (P := P) hi ty with ⟨e, w', hr, hf, hh⟩ | ⟨l1, p, l2, w', e, hr, hf, hs, hit⟩
  · refine OW.value rfl rfl hd (fun a ha => ?_) (h0 e w' hf (hi.frame hf id id))
    simp only [execOp, ha.eval hx]
    exact run_val hr
  · refine OW.value rfl rfl hd (fun a ha => ?_) (h1 l1 p l2 w' e hf hs (hit him))
    simp only [execOp, ha.eval hx]
    exact run_val hr

/-- the entry that came last -/
theorem OW.entry {p : κ × Value} (hd : Nat.blt d n = true) (hx : evl L x = some (.pointer (some ⟨it, 0, none⟩))) (hi : IterAt w it m ek kv rest (some p))
    (h : OW P ops Q n D todo ((d, .tuple #[ek p.1, p.2]) :: L) w) : OW P ops Q n D (⟨some d, .entry x, ty, pos, af, none⟩ :: todo) L w := by
  refine OW.value rfl rfl hd (fun a ha => ?_) h
  simp only [execOp, ha.eval hx]
  refine run_val ?_
  obtain ⟨T, clock, seen, h1, h2, h3, h4, h5, h6, h7⟩ := hi
  obtain ⟨s, hs, rfl, hb⟩ := h7 p rfl
  have g : (getObj it).run P w = .ok (.mapIter (some m) clock seen clock) w := by simp [getObj, Sem.run, h5]
  have hfind : (T.map (Stp.ent ek)).toArray.find? (fun e => e.born == s.born) = some (s.ent ek) := by
    have gen : ∀ T : List (Stp κ), (T.map Stp.born).Nodup → s ∈ T → (T.map (Stp.ent ek)).find? (fun e => e.born == s.born) = some (s.ent ek) := by
      intro T
      induction T with
      | nil => intro _ h; simp at h
      | cons q T ih =>
        intro hn hq
        rw [List.map_cons, List.nodup_cons] at hn
        rw [List.map_cons, List.find?_cons]
        by_cases c : q.born = s.born
        · have : q = s := by
            rcases List.mem_cons.1 hq with e | e
            · exact e.symm
            · exact absurd (by rw [c]; exact List.mem_map.2 ⟨s, e, rfl⟩) hn.1
          subst this
          simp [Stp.ent]
        · have hne : ((q.ent ek).born == s.born) = false := by simpa [Stp.ent] using c
          rw [hne]
          rcases List.mem_cons.1 hq with e | e
          · subst e; exact absurd rfl c
          · exact ih hn.2 e
    rw [List.find?_toArray]; exact gen T h3 hs
  simp only [Instr.entry, Sem.run_bind, g, Result.andThen_ok, hb, getObj_run h1, bne_self_eq_false, Bool.false_eq_true, if_false, Sem.run_pure, hfind]
  rfl

theorem IterAt.size (h : IterAt w it m ek kv rest last) : it < w.heap.size ∧ m < w.heap.size := by
  obtain ⟨T, clock, seen, a, _, _, _, e, _⟩ := h
  exact ⟨lt_of_here e, lt_of_here a⟩

/-- an iterator and its map, as a piece of the heap -/
def iterA {κ : Type} (it m : Nat) (ek : κ → Value) (kv rest : List (κ × Value)) (last : Option (κ × Value)) : Asn :=
  ⟨[it, m], fun w => it ≠ m ∧ IterAt w it m ek kv rest last, fun h f hs => ⟨h.1, h.2.frame f (hs _ (by simp)) (hs _ (by simp))⟩⟩

theorem Moves.range (f : Fr0 w w') (hm : MapBk w m ek kv) (h : IterAt w' it m ek kv kv none) (hge : w.heap.size ≤ it) : Moves w w' (mapA m ek kv) (iterA it m ek kv kv none) := by
  have hlt : m < w.heap.size := hm.lt
  refine ⟨f.any, ⟨by omega, h⟩, fun k hk => ?_, ?_, fun k hk => ?_⟩
  · simp [iterA] at hk
    rcases hk with rfl | rfl
    · exact .inr hge
    · exact .inl (by simp [mapA])
  · have : ¬ it = m := by omega
    simp [iterA, this]
  · simp [iterA] at hk
    rcases hk with rfl | rfl
    · exact h.size.1
    · exact h.size.2
theorem Moves.next {rest' : List (κ × Value)} {last' : Option (κ × Value)} (f : Fr (fun k => k = it) w w') (h : IterAt w' it m ek kv rest' last') (ho : it ≠ m) : Moves w w' (iterA it m ek kv rest last) (iterA it m ek kv rest' last') := by
  refine ⟨f.mono fun k _ c => by simp [iterA, c], ⟨ho, h⟩, fun k hk => .inl hk, ?_, fun k hk => ?_⟩
  · simp [iterA, ho]
  · simp [iterA] at hk
    rcases hk with rfl | rfl
    · exact h.size.1
    · exact h.size.2
theorem Moves.ended (h : IterAt w it m ek kv rest last) (hn : (kv.map (·.1)).Nodup) : Moves w w (iterA it m ek kv rest last) (mapA m ek kv) :=
  ⟨Fr.refl _ _, h.map hn, fun k hk => .inl (by simp [mapA] at hk; simp [iterA, hk]), by simp [mapA], fun k hk => by simp [mapA] at hk; subst hk; exact h.size.2⟩

end iter

/-- delete, where the result has no slot -/
theorem OW.deleteN {κ : Type} [DecidableEq κ] {P : Program} {Q : Exit → Act → World → Prop} {w : World} {n : Nat} {D : List Deferred} {L : List (Nat × Value)} {ops : Array Oper} {todo : List Oper} {t t' ty kt et : TypeId} {pos : String} {af : Array Edge} {x y : Operand} {b : Nat} {ek : κ → Value} {ok : κ → Prop} {kv : List (κ × Value)}
    (key : κ) (hm : P.underlying t = some (.map kt et)) (hk : KeyEq P kt ek ok) (hx : evl L x = some (.map (some b))) (hy : evl L y = some (ek key)) (hok : ok key) (hoks : ∀ p ∈ kv, ok p.1)
    (hb : MapBk w b ek kv) (h : ∀ w', Fr (fun k => k = b) w w' → w'.heap.size = w.heap.size → MapBk w' b ek (kvDel key kv) → OW P ops Q n D todo L w') :
    OW P ops Q n D (⟨none, .call ⟨.builtin .delete, #[x, y], #[t, t']⟩, ty, pos, af, none⟩ :: todo) L w := by
  obtain ⟨w', hr, h1, h2, h3⟩ := run_delete hm hk hok hoks hb t' ty
  have hk := h w' h2 h3 h1
  intro act ha
  simp only [wpL]
  rw [if_pos (by simp [Region.wanted])]
  refine ⟨fun _ _ => trivial, ?_⟩
  have hrun : (execOp act.eval ⟨none, .call ⟨.builtin .delete, #[x, y], #[t, t']⟩, ty, pos, af, none⟩).run P w = .ok (.value (.tuple #[])) w' := by
    simp only [execOp, resolve, Sem.run_bind, Sem.run_pure, Result.andThen_ok, invoke, builtin]
    simp only [List.map_toArray, List.map_cons, List.map_nil, ha.eval hx, ha.eval hy, hr]
    rfl
  show Oper.uponIn _ _ _ _ _ _ _ ((Oper.semAt none act.eval _).run P w)
  rw [Oper.semAt_none, hrun]
  exact hk _ ha

end Go.Eng
