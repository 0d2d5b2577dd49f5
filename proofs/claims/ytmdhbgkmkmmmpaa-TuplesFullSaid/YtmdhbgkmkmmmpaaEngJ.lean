/-
  The engine, part J: a region whose order is open, where of each operation of the first part a fact is known that later ones leave; then the rest in a row.
  No condition: general lemmas over any program.
-/
import Derived.Test.YtmdhbgkmkmmmpaaEngH
namespace Go.Eng
open Go

variable {r : Option Nat} {P : Program} {Q Q' : Exit → Act → World → Prop} {w w' : World} {n : Nat} {D : List Deferred} {L : List (Nat × Value)} {ops : Array Oper} {os : List Oper} {m : Nat}

/-- what an operation leaves: its value in its slot, and what is known of it -/
def Gives (Q : Exit → Act → World → Prop) (n : Nat) (D : List Deferred) (d : Nat) (L : List (Nat × Value)) (Rel : World → Prop) (F : Value → World → Prop) : Exit → Act → World → Prop
  | .normal, a, w => ∃ v, Has n D ((d, v) :: L) a ∧ Rel w ∧ F v w
  | .panic ch, a, w => Q (.panic ch) a w
  | _, _, _ => False

theorem NX.gives {d : Nat} {Rel : World → Prop} {F : Value → World → Prop} {v : Value} (hr : Rel w) (hf : F v w) : NX (Gives Q n D d L Rel F) n D .normal ((d, v) :: L) w :=
  fun _ ha => ⟨v, ha, hr, hf⟩

/-- what is known within the first part -/
structure Known (os : List Oper) (n : Nat) (D : List Deferred) (L : List (Nat × Value)) (m : Nat) (Rel : World → World → Prop) (F : Nat → Value → World → Prop) (w0 : World) (listed : Array Bool) (a : Act) (w : World) : Prop where
  size : listed.size = os.length
  late : ∀ i, i < os.length → listed.getD i true = true → i < m
  closed : ∀ i o, os[i]? = some o → listed.getD i true = true → ∀ j ∈ bpreds o, listed.getD j true = true
  slots : ∃ L', Has n D L' a ∧ Sub L L' ∧ Rel w0 w ∧ ∀ i o, os[i]? = some o → listed.getD i true = true → ∃ d v, o.dst = some d ∧ look L' d = some v ∧ F i v w

/-- slots of the first part: each its own, and none of what is known before -/
def freshOk (os : List Oper) (m : Nat) (keys : List Nat) : Bool :=
  let ds := (os.take m).filterMap (·.dst)
  Nat.beq ds.length m && ds.all (fun d => !(keys.any (Nat.beq d))) && ds.zipIdx.all fun (d, i) => ds.zipIdx.all fun (e, j) => Nat.beq i j || !(Nat.beq d e)

theorem filterMap_all {α β : Type} {f : α → Option β} : ∀ {l : List α}, (l.filterMap f).length = l.length → ∀ (i : Nat) (x : α), l[i]? = some x → ∃ y, f x = some y ∧ (l.filterMap f)[i]? = some y
  | [], _, i, x, e => by simp at e
  | a :: l, h, i, x, e => by
    cases hf : f a with
    | none =>
      have := List.length_filterMap_le f l
      simp [hf] at h; omega
    | some y =>
      simp only [List.filterMap_cons, hf, List.length_cons, Nat.add_right_cancel_iff] at h
      cases i with
      | zero => simp at e; subst e; exact ⟨y, hf, by simp [hf]⟩
      | succ i =>
        obtain ⟨z, h1, h2⟩ := filterMap_all h i x (by simpa using e)
        exact ⟨z, h1, by simpa [hf] using h2⟩

structure FreshOk (os : List Oper) (m : Nat) (L : List (Nat × Value)) : Prop where
  dst : ∀ i o, i < m → os[i]? = some o → ∃ d, o.dst = some d ∧ ∀ k, Nat.beq d k = true → k ∉ keysOf L
  ne : ∀ i j o o' d e, i < m → j < m → i ≠ j → os[i]? = some o → os[j]? = some o' → o.dst = some d → o'.dst = some e → d ≠ e

theorem FreshOk.of (hm : m ≤ os.length) (h : freshOk os m (keysOf L) = true) : FreshOk os m L := by
  simp only [freshOk, Bool.and_eq_true] at h
  obtain ⟨⟨h1, h2⟩, h3⟩ := h
  have h1 := Nat.eq_of_beq_eq_true h1
  have hlen : ((os.take m).filterMap (·.dst)).length = (os.take m).length := by rw [h1]; simp [Nat.min_eq_left hm]
  have at_ : ∀ i o, i < m → os[i]? = some o → ∃ d, o.dst = some d ∧ ((os.take m).filterMap (·.dst))[i]? = some d := by
    intro i o hi e
    exact filterMap_all hlen i o (by rw [List.getElem?_take_of_lt hi]; exact e)
  refine ⟨fun i o hi e => ?_, fun i j o o' d e hi hj hij ho ho' hd he => ?_⟩
  · obtain ⟨d, hd, hg⟩ := at_ i o hi e
    refine ⟨d, hd, fun k hk hin => ?_⟩
    rw [List.all_eq_true] at h2
    have := h2 d (List.mem_of_getElem? hg)
    simp only [Bool.not_eq_true', List.any_eq_false] at this
    exact this k hin hk
  · obtain ⟨d', hd', hg⟩ := at_ i o hi ho
    obtain ⟨e', he', hg'⟩ := at_ j o' hj ho'
    rw [hd] at hd'; cases hd'
    rw [he] at he'; cases he'
    rw [List.all_eq_true] at h3
    have a1 := h3 (d, i) (by rw [List.mem_zipIdx_iff_getElem?]; exact hg)
    rw [List.all_eq_true] at a1
    have a2 := a1 (e, j) (by rw [List.mem_zipIdx_iff_getElem?]; exact hg')
    simp only [Bool.or_eq_true, Bool.not_eq_true'] at a2
    rcases a2 with c | c
    · exact absurd (Nat.eq_of_beq_eq_true c) hij
    · intro e2
      subst e2
      have : Nat.beq d d = true := by simp
      rw [this] at c; cases c

/-- what of the first part is still to come -/
def left (m : Nat) (listed : Array Bool) : List Nat := (List.range m).filter fun j => !listed.getD j true

theorem CW.drawF {id : Nat} {os : List Oper} (m : Nat) (Rel : World → World → Prop) (F : Nat → Value → World → Prop) (hmix : P.follows .mixedOrders = true)
    (hok : tailOk os m = true) (hfr : freshOk os m (keysOf L) = true)
    (htrans : ∀ a b c, Rel a b → Rel b c → Rel a c) (hdrew : Rel w w.drew)
    (hstab : ∀ i v w w', Rel w w' → F i v w → F i v w')
    (hstep : ∀ i o, i < m → os[i]? = some o → ∀ L' w', Rel w w' → Sub L L' → (∀ j ∈ bpreds o, ∃ o' d v, os[j]? = some o' ∧ o'.dst = some d ∧ look L' d = some v ∧ F j v w') →
      ∀ d, o.dst = some d → OW P os.toArray (Gives Q n D d L' (Rel w') (F i)) n D [o] L' w')
    (htail : ∀ L' w', Rel w w' → Sub L L' → (∀ i o, i < m → os[i]? = some o → ∃ d v, o.dst = some d ∧ look L' d = some v ∧ F i v w') → OW P os.toArray Q n D (os.drop m) L' w') (hnd : noDefer r os = true := by rfl) :
    CW r P (.region id os.toArray true) Q n D L w := by
  intro a ha
  have dok := TailOk.of hok
  have fok : FreshOk os m L := FreshOk.of dok.le hfr
  refine wpIn_region_any hmix ?_
  have hlt : ∀ {i : Nat} {o : Oper}, os[i]? = some o → i < os.length := by
    intro i o e
    rcases Nat.lt_or_ge i os.length with c | c
    · exact c
    · rw [List.getElem?_eq_none c] at e; cases e
  suffices key : ∀ (k : Nat) (listed : Array Bool) (a : Act) (w' : World), (left m listed).length = k → Known os n D L m Rel F w listed a w' → wpAnyIn (GF r) 0 P .any os.toArray Q (os.length - m + k) listed a w' by
    have hf : ∀ i, i < os.length → (Array.replicate os.toArray.size false).getD i true = false := by
      intro i hi; simp [Array.getD, hi]
    have hl : (left m (Array.replicate os.toArray.size false)).length = m := by
      have : left m (Array.replicate os.toArray.size false) = List.range m := by
        apply List.filter_eq_self.2
        intro j hj
        have hj' : j < m := by simpa using hj
        rw [hf j (Nat.lt_of_lt_of_le hj' dok.le)]; rfl
      rw [this]; simp
    have h := key m _ a w.drew hl ⟨by simp, fun i hi h => (by rw [hf i hi] at h; cases h), fun i o ho h => (by rw [hf i (hlt ho)] at h; cases h), L, ha, Sub.refl L, hdrew, fun i o ho h => (by rw [hf i (hlt ho)] at h; cases h)⟩
    have e : os.length - m + m = os.toArray.size := by have := dok.le; simp; omega
    rw [e] at h
    exact h
  intro k
  induction k with
  | zero =>
    intro listed a w' hk hK
    have hall : ∀ j, j < m → listed.getD j true = true := by
      intro j hj
      have hnil : left m listed = [] := List.eq_nil_of_length_eq_zero hk
      have := List.filter_eq_nil_iff.1 hnil j (by simpa using hj)
      simpa using this
    have hu : upTo os.length m listed := by
      refine ⟨hK.size, fun i hi => ?_⟩
      by_cases c : i < m
      · rw [hall i c]; simp [c]
      · cases hc : listed.getD i true with
        | false => simp [c]
        | true => exact absurd (hK.late i hi hc) c
    obtain ⟨L', hH, hs, hr, hslots⟩ := hK.slots
    refine any_tail dok hnd (os.length - m + 0) m listed a w' (Nat.le_refl _) (by have := dok.le; omega) hu ?_
    exact htail L' w' hr hs (fun i o hi ho => hslots i o ho (hall i hi)) a hH
  | succ k ih =>
    intro listed a w' hk hK
    have hnot : ∃ j, j < m ∧ listed.getD j true = false := by
      have hne : left m listed ≠ [] := by intro e; rw [e] at hk; simp at hk
      obtain ⟨j, hj⟩ := List.exists_mem_of_ne_nil _ hne
      have := List.mem_filter.1 hj
      exact ⟨j, by simpa using this.1, by simpa using this.2⟩
    have hsz : ∀ i, i < os.length → listed.getD i false = listed.getD i true := fun i hi => getD_ft (by rw [hK.size]; exact hi)
    have hpr : ∀ {i : Nat} (o : Oper), os[i]? = some o → (∀ e ∈ o.after, Region.binds .any e = true → listed.getD e.on false = true) → ∀ j, j ∈ bpreds o → listed.getD j true = true := by
      intro i o ho hd j hj
      have hji := dok.back ho hj
      have hil := hlt ho
      obtain ⟨e, he, hb, rfl⟩ := mem_bpreds.1 hj
      rw [← hsz _ (by omega)]; exact hd e he hb
    -- what is ready lies in the first part
    have hready : ∀ i, i ∈ Region.ready .any os.toArray listed → i < m := by
      intro i hi
      obtain ⟨o, ho, hl, hd⟩ := ready_iff.1 hi
      have hil := hlt ho
      rcases Nat.lt_or_ge i m with c | c
      · exact c
      · exfalso
        rcases Nat.lt_or_ge m i with c2 | c2
        · obtain ⟨q, hq, hei⟩ := dok.chain i o ho c2
          have := hK.late _ (by omega) (hpr o ho hd q hq)
          omega
        · have him : i = m := by omega
          subst him
          -- all of the first part is listed: from the last on down
          have hall : ∀ g j, j + g + 1 = i → listed.getD j true = true := by
            intro g
            induction g using Nat.strongRecOn with
            | _ g ihg =>
              intro j hj
              rcases dok.cover o ho j (by omega) with hm | ⟨q, o', hq, ho', hm⟩
              · exact hpr o ho hd j hm
              · have hjq := dok.back ho' hm
                exact hK.closed q o' ho' (ihg (i - 1 - q) (by omega) q (by omega)) j hm
          obtain ⟨j, hj, hf⟩ := hnot
          rw [hall (i - 1 - j) j (by omega)] at hf; cases hf
    -- something is ready
    have hsome : ∃ i, i ∈ Region.ready .any os.toArray listed := by
      obtain ⟨j, hj, hf⟩ := hnot
      have : ∀ g j, j ≤ g → j < os.length → listed.getD j true = false → ∃ i, i ∈ Region.ready .any os.toArray listed := by
        intro g
        induction g with
        | zero =>
          intro j hj hjl hf
          have hj0 : j = 0 := by omega
          subst hj0
          exact ⟨0, ready_iff.2 ⟨os[0], List.getElem?_eq_getElem hjl, hf, fun e he hb => absurd (dok.back (List.getElem?_eq_getElem hjl) (mem_bpreds.2 ⟨e, he, hb, rfl⟩)) (by omega)⟩⟩
        | succ g ihg =>
          intro j hj hjl hf
          by_cases c : ∃ q ∈ bpreds os[j], listed.getD q true = false
          · obtain ⟨q, hq, hqf⟩ := c
            have := dok.back (List.getElem?_eq_getElem hjl) hq
            exact ihg q (by omega) (by omega) hqf
          · refine ⟨j, ready_iff.2 ⟨os[j], List.getElem?_eq_getElem hjl, hf, fun e he hb => ?_⟩⟩
            have hm : e.on ∈ bpreds os[j] := mem_bpreds.2 ⟨e, he, hb, rfl⟩
            have := dok.back (List.getElem?_eq_getElem hjl) hm
            rw [hsz _ (by omega)]
            cases h : listed.getD e.on true with
            | true => rfl
            | false => exact absurd ⟨e.on, hm, h⟩ c
      exact this j j (Nat.le_refl _) (Nat.lt_of_lt_of_le hj dok.le) hf
    rw [show os.length - m + (k + 1) = (os.length - m + k) + 1 by omega]
    simp only [wpAnyIn]
    refine ⟨fun hr => by obtain ⟨i, hi⟩ := hsome; rw [hr] at hi; simp at hi, fun i hi => ?_⟩
    have him := hready i hi
    obtain ⟨o, ho, hl, hd⟩ := ready_iff.1 hi
    have hil := hlt ho
    obtain ⟨L', hH, hs, hr, hslots⟩ := hK.slots
    obtain ⟨d, hdst, hkeys⟩ := fok.dst i o him ho
    have hdeps : ∀ j ∈ bpreds o, ∃ o' d v, os[j]? = some o' ∧ o'.dst = some d ∧ look L' d = some v ∧ F j v w' := by
      intro j hj
      have hel : j < os.length := by have := dok.back ho hj; omega
      obtain ⟨d', v', h2, h3, h4⟩ := hslots j os[j] (List.getElem?_eq_getElem hel) (hpr o ho hd j hj)
      exact ⟨os[j], d', v', List.getElem?_eq_getElem hel, h2, h3, h4⟩
    have hop := hstep i o him ho L' w' hr hs hdeps d hdst a hH
    -- behind it
    have hleft : (left m (listed.setIfInBounds i true)).length = k := by
      have : left m (listed.setIfInBounds i true) = (left m listed).filter (fun j => j != i) := by
        unfold left
        rw [List.filter_filter]
        apply List.filter_congr
        intro j hj
        have hj' : j < m := by simpa using hj
        have hjs : j < listed.size := by rw [hK.size]; have := dok.le; omega
        simp only [Array.getD_eq_getD_getElem?, Array.getElem?_setIfInBounds]
        by_cases c : i = j
        · subst c; simp [hjs]
        · rw [if_neg c]
          have : (j != i) = true := by simp; omega
          rw [this, Bool.true_and]
      rw [this]
      have hmem : i ∈ left m listed := by
        simp only [left, List.mem_filter, List.mem_range]
        exact ⟨him, by rw [hl]; rfl⟩
      have hnd : (left m listed).Nodup := List.Pairwise.filter _ List.nodup_range
      rw [← List.Nodup.erase_eq_filter hnd i, List.length_erase_of_mem hmem, hk]; rfl
    have hnext : ∀ a'' w'', Gives Q n D d L' (Rel w') (F i) .normal a'' w'' → wpAnyIn (GF r) 0 P .any os.toArray Q (os.length - m + k) (listed.setIfInBounds i true) a'' w'' := by
      rintro a'' w'' ⟨v, hH', hr', hF⟩
      have hget : ∀ j, j < os.length → j ≠ i → (listed.setIfInBounds i true).getD j true = listed.getD j true := by
        intro j hj c
        simp only [Array.getD_eq_getD_getElem?, Array.getElem?_setIfInBounds]
        rw [if_neg (fun e => c e.symm)]
      refine ih _ a'' w'' hleft ⟨by simp [hK.size], fun j hj h => ?_, fun j o' ho' h e he => ?_, (d, v) :: L', hH', ?_, htrans _ _ _ hr hr', fun j o' ho' h => ?_⟩
      · by_cases c : j = i
        · omega
        · rw [hget j hj c] at h; exact hK.late j hj h
      · have hjl := hlt ho'
        have hej := dok.back ho' he
        have hmono : listed.getD e true = true → (listed.setIfInBounds i true).getD e true = true := by
          intro h
          rw [getD_set (by rw [hK.size]; omega), h]; simp
        by_cases c : j = i
        · subst c
          rw [ho] at ho'; cases ho'
          exact hmono (hpr o ho hd e he)
        · rw [hget j hjl c] at h
          exact hmono (hK.closed j o' ho' h e he)
      · intro t x hx
        have := hs t x hx
        simp only [look]
        have hne : Nat.beq d t = false := by
          cases c : Nat.beq d t with
          | false => rfl
          | true => exact absurd (look_keys hx) (hkeys t c)
        rw [hne]; exact this
      · by_cases c : j = i
        · subst c
          rw [ho] at ho'; cases ho'
          exact ⟨d, v, hdst, by simp [look], hF⟩
        · have hjl := hlt ho'
          rw [hget j hjl c] at h
          obtain ⟨d', v', h2, h3, h4⟩ := hslots j o' ho' h
          have hne : d ≠ d' := fok.ne i j o o' d d' him (hK.late j hjl h) (fun e => c e.symm) ho ho' hdst h2
          exact ⟨d', v', h2, by simp only [look]; rw [beq_ne hne]; exact h3, hstab j v' w' w'' hr' h4⟩
    simp only [wpL] at hop
    simp only [wpOpIn, List.getElem?_toArray, ho]
    split
    · rename_i hw
      rw [if_pos hw] at hop
      exact wpIn_round (Q := Gives Q n D d L' (Rel w') (F i)) hnd (List.mem_of_getElem? ho) hnext (fun _ _ _ h => h) (fun ⟨_, _, h⟩ => h.elim) hop
    · rename_i hw
      rw [if_neg hw] at hop
      exact ⟨fun _ _ => trivial, hnext _ _ hop⟩

/-- the same, the first part's operations one by one -/
def drawFAll (P : Program) (Q : Exit → Act → World → Prop) (n : Nat) (D : List Deferred) (L : List (Nat × Value)) (w : World) (Rel : World → World → Prop) (os : List Oper) (Fs : List (Value → World → Prop)) : List Oper → List (Value → World → Prop) → Prop
  | o :: os', F :: Fs' => (∀ L' w', Rel w w' → Sub L L' → (∀ j ∈ bpreds o, ∃ o' d v F', os[j]? = some o' ∧ o'.dst = some d ∧ Fs[j]? = some F' ∧ look L' d = some v ∧ F' v w') →
      ∀ d, o.dst = some d → OW P os.toArray (Gives Q n D d L' (Rel w') F) n D [o] L' w') ∧ drawFAll P Q n D L w Rel os Fs os' Fs'
  | [], [] => True
  | _, _ => False

theorem drawFAll.cons {Rel : World → World → Prop} {Fs Fs' : List (Value → World → Prop)} {os' : List Oper} {o : Oper} {F : Value → World → Prop}
    (h1 : ∀ L' w', Rel w w' → Sub L L' → (∀ j ∈ bpreds o, ∃ o' d v F', os[j]? = some o' ∧ o'.dst = some d ∧ Fs[j]? = some F' ∧ look L' d = some v ∧ F' v w') →
      ∀ d, o.dst = some d → OW P os.toArray (Gives Q n D d L' (Rel w') F) n D [o] L' w')
    (h2 : drawFAll P Q n D L w Rel os Fs os' Fs') : drawFAll P Q n D L w Rel os Fs (o :: os') (F :: Fs') := ⟨h1, h2⟩
theorem drawFAll.nil {Rel : World → World → Prop} {Fs : List (Value → World → Prop)} : drawFAll P Q n D L w Rel os Fs [] [] := trivial

theorem drawFAll.at {Rel : World → World → Prop} {Fs : List (Value → World → Prop)} : ∀ {os' : List Oper} {Fs' : List (Value → World → Prop)}, drawFAll P Q n D L w Rel os Fs os' Fs' → ∀ {i : Nat} {o : Oper}, os'[i]? = some o →
    ∃ F, Fs'[i]? = some F ∧ (∀ L' w', Rel w w' → Sub L L' → (∀ j ∈ bpreds o, ∃ o' d v F', os[j]? = some o' ∧ o'.dst = some d ∧ Fs[j]? = some F' ∧ look L' d = some v ∧ F' v w') →
      ∀ d, o.dst = some d → OW P os.toArray (Gives Q n D d L' (Rel w') F) n D [o] L' w')
  | [], _, _, i, o, e => by simp at e
  | o' :: os', [], h, _, _, _ => by simp [drawFAll] at h
  | o' :: os', F :: Fs', h, i, o, e => by
    cases i with
    | zero => simp at e; subst e; exact ⟨F, rfl, h.1⟩
    | succ i => exact drawFAll.at h.2 (by simpa using e)

theorem CW.drawFL {id : Nat} (m : Nat) (Rel : World → World → Prop) (Fs : List (Value → World → Prop)) (hmix : P.follows .mixedOrders = true)
    (hok : tailOk os m = true) (hfr : freshOk os m (keysOf L) = true) (hlen : Nat.beq Fs.length m = true)
    (htrans : ∀ a b c, Rel a b → Rel b c → Rel a c) (hdrew : Rel w w.drew)
    (hstab : ∀ F ∈ Fs, ∀ v w w', Rel w w' → F v w → F v w')
    (hall : drawFAll P Q n D L w Rel os Fs (os.take m) Fs)
    (htail : ∀ L' w', Rel w w' → Sub L L' → (∀ i o, i < m → os[i]? = some o → ∃ d v F, o.dst = some d ∧ Fs[i]? = some F ∧ look L' d = some v ∧ F v w') → OW P os.toArray Q n D (os.drop m) L' w') (hnd : noDefer r os = true := by rfl) :
    CW r P (.region id os.toArray true) Q n D L w := by
  have hlen := Nat.eq_of_beq_eq_true hlen
  refine CW.drawF m Rel (fun i v w => ∃ F, Fs[i]? = some F ∧ F v w) hmix hok hfr htrans hdrew ?_ ?_ ?_ hnd
  · rintro i v w w' hr ⟨F, hF, h⟩
    exact ⟨F, hF, hstab F (List.mem_of_getElem? hF) v w w' hr h⟩
  · intro i o hi ho L' w' hr hs hdeps d hd
    obtain ⟨F, hF, h⟩ := hall.at (i := i) (o := o) (by rw [List.getElem?_take_of_lt hi]; exact ho)
    have key := h L' w' hr hs (fun j hj => by
      obtain ⟨o', d', v, h1, h2, h3, F', h4, h5⟩ := hdeps j hj
      exact ⟨o', d', v, F', h1, h2, h4, h3, h5⟩) d hd
    intro a ha
    have h2 := key a ha
    -- the same with what is known told weaker
    have mono : ∀ e a w, Gives Q n D d L' (Rel w') F e a w → Gives Q n D d L' (Rel w') (fun v w => ∃ F, Fs[i]? = some F ∧ F v w) e a w := by
      intro e a w hg
      cases e with
      | normal => obtain ⟨v, g1, g2, g3⟩ := hg; exact ⟨v, g1, g2, F, hF, g3⟩
      | _ => exact hg
    simp only [wpL] at h2 ⊢
    split
    · rename_i hw
      rw [if_pos hw] at h2
      exact wpIn_round (r := none) (os := [o]) rfl (by simp) (fun a w h => mono .normal a w h) (fun _ _ _ h => h) (fun ⟨_, _, h⟩ => h.elim) h2
    · rename_i hw
      rw [if_neg hw] at h2
      exact mono .normal _ _ h2
  · intro L' w' hr hs hF
    refine htail L' w' hr hs fun i o hi ho => ?_
    obtain ⟨d, v, h1, h2, F, h3, h4⟩ := hF i o hi ho
    exact ⟨d, v, F, h1, h3, h2, h4⟩

theorem NX.givesF {d : Nat} {Rel : World → Prop} {F : Value → World → Prop} {v : Value} {L' : List (Nat × Value)} (hs : Sub L L') (hr : Rel w) (hf : F v w) : NX (Gives Q n D d L Rel F) n D .normal ((d, v) :: L') w :=
  fun _ ha => ⟨v, ha.sub (Sub.consK hs), hr, hf⟩

end Go.Eng
