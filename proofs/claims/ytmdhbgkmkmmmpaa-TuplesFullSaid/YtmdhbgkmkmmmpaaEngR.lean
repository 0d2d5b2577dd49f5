/-
  The engine, part R: a range over a function: the iterator's call of its yield, the round, the statement, and the end of a function that holds such a range.
  No condition: general lemmas over any program.
-/
import Derived.Test.YtmdhbgkmkmmmpaaEngI
import Derived.RangeFuncMany
import Derived.RangeFuncLeaves
namespace Go.Eng
open Go

variable {r : Option Nat} {P : Program} {Q Q' : Exit → Act → World → Prop} {w w' w0 : World} {n : Nat} {D : List Deferred} {L : List (Nat × Value)} {ops : Array Oper}

/-- a call of yield -/
theorem OW.yield {g : Operand} {l d : Nat} {args : List Operand} {ts : Array TypeId} {vs : List Value} {R : Value → World → Prop} {ty : TypeId} {pos : String} {af : Array Edge} {todo : List Oper}
    (hd : Nat.blt d n = true) (hg : evl L g = some (.func (.yield l) #[] #[])) (ha' : evls L args = some vs)
    (hf : YieldAt Fence.wide 0 P l vs.toArray w fun e w' => ∃ v, e = .returned v ∧ R v w')
    (h : ∀ v w', R v w' → OW P ops Q n D todo ((d, v) :: L) w') :
    OW P ops Q n D (⟨some d, .call ⟨.value g, args.toArray, ts⟩, ty, pos, af, none⟩ :: todo) L w := by
  intro a ha
  simp only [wpL]
  rw [if_pos (by simp [Region.wanted])]
  refine ⟨fun _ _ => trivial, ?_⟩
  obtain ⟨fn, tmps, assign, body, hy, hr⟩ := hf
  have hr2 : (execOp a.eval ⟨some d, .call ⟨.value g, args.toArray, ts⟩, ty, pos, af, none⟩).run P w = .ok (.round l fn tmps assign body) w := by
    simp only [execOp, resolve, ha.eval hg, Deferred.ofValue, Sem.run_bind, Sem.run_pure, Result.andThen_ok, invoke]
    rw [← ha.evals ha'] at hy
    simpa using hy
  show Oper.uponIn _ _ _ _ _ _ _ ((Oper.semAt none a.eval _).run P w)
  rw [Oper.semAt_none, hr2]
  refine ⟨fun c => (by cases c), hr.mono ?_⟩
  rintro e w' ⟨v, rfl, hv⟩
  exact h v w' hv _ (ha.put hd v)

/-- two blocks are as they were -/
def Kp (s : Nat) (W W' : World) : Prop := ∀ b, b = s ∨ b = s + 1 → b < W.heap.size → W'.heap[b]? = W.heap[b]?

theorem Kp.trans {s : Nat} {W W' W'' : World} (h : Kp s W W') (g : Kp s W' W'') (hs : W.heap.size ≤ W'.heap.size) : Kp s W W'' :=
  fun b hb hl => (g b hb (Nat.lt_of_lt_of_le hl hs)).trans (h b hb hl)

theorem Kp.fr {s : Nat} {W W' : World} {S : Nat → Prop} (h : Fr S W W') (hs : ∀ b, b = s ∨ b = s + 1 → ¬ S b) : Kp s W W' := fun b hb hl => h.keep b hl (hs b hb)

theorem putObj_fr (w : World) (b : Nat) (o : Obj) : Fr (fun k => k = b) w (w.putObj b o) :=
  ⟨rfl, rfl, rfl, by simp [World.putObj], fun k _ hn => World.putObj_heap_other hn⟩

theorem putObj_size (w : World) (b : Nat) (o : Obj) : (w.putObj b o).heap.size = w.heap.size := by simp [World.putObj]

theorem CW.rangeFunc {gv : Operand} {p q gf : Nat} {lb : Array Value} {assign body : Code} {N : Nat} (xs : Nat → Value × Value) (I : Nat → World → Prop) {γ : Type} (IA : γ → Nat → World → Prop) (Lr : γ → Nat → List (Nat × Value)) (RD : World → Prop)
    (hp : Nat.blt p n = true) (hq : Nat.blt q n = true) (hg : evl L gv = some (.func (.func gf) #[] lb)) (hc : callable P gf = true)
    (hit : ∀ (l : Nat) (J : Nat → World → Prop) (W : World), (∀ k W1, k < N → J k W1 → YieldAt Fence.wide 0 P l #[(xs k).1, (xs k).2] W1 (fun e W' => e = .returned (.bool true) ∧ J (k + 1) W')) →
      (∀ k W1, J k W1 → RD W1) → J 0 W → Does P gf ([.func (.yield l) #[] #[]] ++ lb.toList) W (fun _ W' => J N W'))
    (hI0 : I 0 w)
    (hIst : ∀ k W W', I k W → Fr (fun b => b = w.heap.size ∨ b = w.heap.size + 1) W W' → I k W') (hIR : ∀ k W, I k W → RD W)
    (hAst : ∀ g k W W', IA g k W → Fr (fun b => b = w.heap.size ∨ b = w.heap.size + 1) W W' → IA g k W')
    (hassign : ∀ l k W, k < N → I k W → w.heap.size + 2 ≤ W.heap.size → CW (some l) P assign (Exit.then (fun a w' => ∃ g, Has n [] (Lr g k) a ∧ IA g k w' ∧ Kp w.heap.size W w') (fun _ _ _ => False)) n [] ((q, (xs k).2) :: (p, (xs k).1) :: L) W)
    (hbody : ∀ l g k W, k < N → IA g k W → w.heap.size + 2 ≤ W.heap.size → CW (some l) P body (fun e _ W' => e = .normal ∧ I (k + 1) W' ∧ Kp w.heap.size W W') n [] (Lr g k) W)
    (hdone : ∀ w', I N w' → w'.heap[w.heap.size]? = some (.deferred (some [])) → NX Q n ({ target := .collected w.heap.size, args := #[] } :: D) .normal L w') :
    CW none P (.rangeFunc gv #[p, q] assign body) Q n D L w := by
  intro a ha
  refine wpIn_rangeFunc ?_
  intro fn hfn
  show ∃ (l : Nat) (mark : List Deferred) (w₁ : World) (d : Deferred) (w₁' : World) (f : FuncId) (args : Array Value) (w₂ : World), (Instr.enterLoop fn a.tmps #[p, q] assign body none).run P w = .ok (l, mark) w₁ ∧ _
  obtain ⟨rec, hrec⟩ : ∃ rec : LoopState → Option Code → Loop, rec = fun st pe => { state := st, pending := pe, fn, tmps := a.tmps, params := #[p, q], assign, body, defers := w.heap.size } := ⟨_, rfl⟩
  obtain ⟨W1, hW1⟩ : ∃ W1, (w.alloc (.deferred (some []))).alloc (.loop (rec .ready none)) = W1 := ⟨_, rfl⟩
  have hL1 : W1.heap[w.heap.size + 1]? = some (.loop (rec .ready none)) := by
    rw [← hW1]; have := World.alloc_heap_new (w.alloc (.deferred (some []))) (.loop (rec .ready none)); rwa [World.size_alloc] at this
  have hK1 : W1.heap[w.heap.size]? = some (.deferred (some [])) := by
    rw [← hW1]; exact (RowKit.Below.heap_alloc _ _ _ (by simp)).trans (World.alloc_heap_new w _)
  have hf1 : Fr0 w W1 := by rw [← hW1]; exact (Fr.alloc _ _).trans (Fr.alloc _ _)
  have hI1 : I 0 W1 := hIst 0 w W1 hI0 hf1.any
  refine ⟨w.heap.size + 1, [{ target := .collected w.heap.size, args := #[] }], W1, { target := .fn (.func gf) lb, args := #[.func (.yield (w.heap.size + 1)) #[] #[]] }, W1, gf,
    #[.func (.yield (w.heap.size + 1)) #[] #[]] ++ lb, W1, ?_, ?_, fun _ _ => trivial, ?_, fun c => (by cases c), ?_⟩
  · rw [← hW1, hrec]; exact run_enterLoop_outer _ _ _ _ _
  · have he := ha.eval hg
    simp only [resolve, he]
    simp [go_sem]
  · simp only [invoke]
    exact run_callFunc _ hc
  · have key := hit (w.heap.size + 1) (fun k W => I k W ∧ W.heap[w.heap.size + 1]? = some (.loop (rec .ready none)) ∧ W.heap[w.heap.size]? = some (.deferred (some []))) W1 ?_ (fun k W h => hIR k W h.1) ⟨hI1, hL1, hK1⟩
    · unfold Does at key
      have e : ([Value.func (.yield (w.heap.size + 1)) #[] #[]] ++ lb.toList).toArray = #[.func (.yield (w.heap.size + 1)) #[] #[]] ++ lb := by simp
      rw [e] at key
      refine callsIn_wide.2 (key.mono ?_)
      rintro e W2 ⟨v, rfl, hi, hl, hk⟩
      have hend := run_endLoop (P := P) hl (by rw [hrec]; simp)
      rw [hrec] at hend
      refine ⟨none, _, hend, ?_⟩
      have hf := putObj_fr W2 (w.heap.size + 1) (.loop { rec .ready none with state := .exhausted })
      rw [hrec] at hf
      refine hdone _ (hIst N _ _ hi (hf.mono fun k _ h => .inr h)) ?_ _ ?_
      · rw [World.putObj_heap_other (by omega)]; exact hk
      · exact ⟨ha.size, by show _ :: a.defers = _; rw [ha.defers], ha.get⟩
    · rintro k W hkN ⟨hi, hl, hk⟩
      have hlt : w.heap.size + 1 < W.heap.size := lt_of_here hl
      have hy := run_yield (P := P) (args := #[(xs k).1, (xs k).2]) hl (by rw [hrec]; rfl)
      rw [hrec] at hy
      refine ⟨fn, _, assign, body, hy, roundIn_of_wpIn (F := Fence.wide) trivial ?_⟩
      have hround : Has n [] ((q, (xs k).2) :: (p, (xs k).1) :: L) { tmps := ((#[p, q].zip #[(xs k).1, (xs k).2]).foldl (fun tmps (t, a) => tmps.setIfInBounds t a) a.tmps), defers := [] } := by
        have h0 : Has n [] L { tmps := a.tmps, defers := [] } := ⟨ha.size, rfl, ha.get⟩
        have e : ((#[p, q].zip #[(xs k).1, (xs k).2]).foldl (fun tmps (t, a) => tmps.setIfInBounds t a) a.tmps) = (a.tmps.setIfInBounds p (xs k).1).setIfInBounds q (xs k).2 := by simp
        rw [e]
        exact (h0.put hp (xs k).1).put hq (xs k).2
      refine wpIn_mono (hassign (w.heap.size + 1) k W hkN hi hlt _ hround) ?_
      intro e a1 w1 h1
      cases e with
      | normal =>
        obtain ⟨g, hH, hIA, hKp⟩ := h1
        have hl1 : w1.heap[w.heap.size + 1]? = some (.loop (rec .ready none)) := (hKp _ (.inr rfl) hlt).trans hl
        have hk1 : w1.heap[w.heap.size]? = some (.deferred (some [])) := (hKp _ (.inl rfl) (by omega)).trans hk
        refine ⟨_, run_beginRound hl1 (by rw [hrec]), ?_⟩
        have hf := putObj_fr w1 (w.heap.size + 1) (.loop { rec .ready none with state := .busy })
        have hl2 : (w1.putObj (w.heap.size + 1) (.loop { rec .ready none with state := .busy })).heap[w.heap.size + 1]? = some (.loop { rec .ready none with state := .busy }) := World.putObj_heap_same (lt_of_here hl1)
        have hk2 : (w1.putObj (w.heap.size + 1) (.loop { rec .ready none with state := .busy })).heap[w.heap.size]? = some (.deferred (some [])) := (World.putObj_heap_other (by omega)).trans hk1
        refine wpIn_mono (hbody (w.heap.size + 1) g k _ hkN (hAst g k _ _ hIA (hf.mono fun k _ h => .inr h)) (by have := lt_of_here hl2; omega) a1 hH) ?_
        rintro e a3 W3 ⟨rfl, hi3, hKp3⟩
        have hl3 := (hKp3 _ (.inr rfl) (lt_of_here hl2)).trans hl2
        have hk3 := (hKp3 _ (.inl rfl) (lt_of_here hk2)).trans hk2
        have hend := run_endRound (P := P) none hl3
        refine ⟨_, _, hend, rfl, ?_, ?_, ?_⟩
        · exact hIst (k + 1) _ _ hi3 ((putObj_fr W3 (w.heap.size + 1) _).mono fun k _ h => .inr h)
        · rw [World.putObj_heap_same (lt_of_here hl3)]; rw [hrec]; rfl
        · rw [World.putObj_heap_other (by omega)]; exact hk3
      | _ => exact h1.elim

/-- a function whose body holds such a range -/
theorem Does.enterM {f : FuncId} {fn : Func} {c : Code} {args : List Value} {w : World} {R : Value → World → Prop}
    (hf : P.funcs[f]? = some fn) (hb : fn.body = some c) (hn : Nat.ble args.length fn.ntmps = true)
    (h : CW none P c (bodyPostM Fence.wide 0 P fn fun e w' => ∃ v, e = .returned v ∧ R v w') fn.ntmps [] (argSlots 0 args) w) : Does P f args w R := by
  refine (callsIn_wide (n := 0)).1 (callsIn_of_wp_marks hf hb trivial (h _ ⟨?_, rfl, ?_⟩))
  · have := Nat.le_of_ble_eq_true hn
    simp; omega
  · intro t v e
    have := look_argSlots args [] t v e
    have hL : args[t]? = some v := by simpa using this
    have ht : t < args.length := by
      rcases Nat.lt_or_ge t args.length with c | c
      · exact c
      · rw [List.getElem?_eq_none c] at hL; cases hL
    simp only [Array.getElem?_append, List.size_toArray, ht, if_true]
    simpa using hL

theorem NX.retM2 {fn : Func} {t u b : Nat} {x y : Value} {R : Value → World → Prop} (hr : fn.results = #[.tmp t, .tmp u]) (hx : look L t = some x) (hy : look L u = some y)
    (hb : w.heap[b]? = some (.deferred (some []))) (h : ∀ w', Fr (fun k => k = b) w w' → R (.tuple #[x, y]) w') :
    NX (bodyPostM Fence.wide 0 P fn fun e w' => ∃ v, e = .returned v ∧ R v w') n [{ target := .collected b, args := #[] }] .ret L w := by
  intro a ha
  show LeavesInM Fence.wide 0 P fn a.tmps _ a.defers .returning w
  rw [ha.defers]
  refine ⟨by simp, .inl ⟨b, _, rfl, run_takeDeferred hb, ?_⟩⟩
  show LeavesIn Fence.wide 0 P fn a.tmps _ [] .returning _
  refine ⟨.tuple #[x, y], ?_, _, rfl, h _ (putObj_fr w b _)⟩
  have h1 := ha.get t x hx
  have h2 := ha.get u y hy
  simp [results, hr, h1, h2]

end Go.Eng
