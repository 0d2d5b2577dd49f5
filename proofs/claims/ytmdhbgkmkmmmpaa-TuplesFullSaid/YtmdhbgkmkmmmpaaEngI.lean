/-
  The engine, part I: rows of elements that lie side by side in one block; and a function that compares two of them.
  No condition: general lemmas over any program.
-/
import Derived.Test.YtmdhbgkmkmmmpaaEngH
import Derived.Test.YtmdhbgkmkmmmpaaSrt
namespace Go.Eng
open Go

variable {r : Option Nat} {P : Program} {Q Q' : Exit → Act → World → Prop} {w w' w0 : World} {n : Nat} {D : List Deferred} {L : List (Nat × Value)} {ops : Array Oper}

/-- a guard whose operation was itself passed over -/
theorem OW.gnoU {todo : List Oper} {d : Nat} {op : Op} {ty : TypeId} {pos : String} {af : Array Edge} {j s : Nat} {c : Bool}
    (hj : (ops[j]?).bind (·.dst) = some s) (hs : look L s = some undef) (hd : Nat.blt d n = true)
    (k : OW P ops Q n D todo ((d, undef) :: L) w) : OW P ops Q n D (⟨some d, op, ty, pos, af, some (j, c)⟩ :: todo) L w := by
  intro a ha
  have hy : yielded ops a.tmps j = none := by simp [yielded, hj, ha.get s _ hs, undef]
  simp only [wpL]
  rw [if_neg (by simp [Region.wanted, hy])]
  exact k _ (ha.put hd undef)

theorem NX.slot {e : Exit} {s : Nat} {v v' : Value} (hs : look L s = some v) (h : v = v') (k : NX Q n D e ((s, v') :: L) w) : NX Q n D e L w := by
  subst h
  exact fun a ha => k a (ha.sub (Sub.cons hs (Sub.refl _)))

theorem drawAll.cons {Rel : Nat → World → Prop} {os os' : List Oper} {vs vs' : List Value} {o : Oper} {s : Stg} {ss : List Stg} {v : Value} (h1 : drawStep P Q n D L Rel os vs o s v)
    (h2 : drawAll P Q n D L Rel os vs os' ss vs') : drawAll P Q n D L Rel os vs (o :: os') (s :: ss) (v :: vs') := ⟨h1, h2⟩
theorem drawAll.nil {Rel : Nat → World → Prop} {os : List Oper} {vs : List Value} : drawAll P Q n D L Rel os vs [] [] [] := trivial

def cat (f : Nat → List Value) : Nat → List Value
  | 0 => []
  | n + 1 => cat f n ++ f n

theorem cat_congr {f g : Nat → List Value} : ∀ {n : Nat}, (∀ i, i < n → f i = g i) → cat f n = cat g n
  | 0, _ => rfl
  | n + 1, h => by simp only [cat]; rw [cat_congr (fun i hi => h i (by omega)), h n (by omega)]

theorem cat_length {f : Nat → List Value} {sz : Nat} : ∀ {n : Nat}, (∀ i, i < n → (f i).length = sz) → (cat f n).length = n * sz
  | 0, _ => by simp [cat]
  | n + 1, h => by simp only [cat, List.length_append]; rw [cat_length (fun i hi => h i (by omega)), h n (by omega), Nat.succ_mul]

theorem cat_split {f : Nat → List Value} {sz : Nat} : ∀ {n i : Nat}, (∀ i, i < n → (f i).length = sz) → i < n →
    ∃ A B, A.length = i * sz ∧ cat f n = A ++ f i ++ B ∧ ∀ v, cat (fun k => if k = i then v else f k) n = A ++ v ++ B
  | 0, i, _, hi => by omega
  | n + 1, i, h, hi => by
    by_cases c : i = n
    · subst c
      refine ⟨cat f i, [], cat_length (fun k hk => h k (by omega)), by simp [cat], fun v => ?_⟩
      simp only [cat, if_true, List.append_nil]
      rw [cat_congr (g := f) (fun k hk => if_neg (by omega))]
    · obtain ⟨A, B, h1, h2, h3⟩ := cat_split (n := n) (i := i) (fun k hk => h k (by omega)) (by omega)
      refine ⟨A, B ++ f n, h1, by simp only [cat, h2, List.append_assoc], fun v => ?_⟩
      simp only [cat, h3]
      rw [if_neg (by omega)]
      simp only [List.append_assoc]

/-- a row of n elements in a block -/
structure Arr (w : World) (b T sz n : Nat) (pre post : List Value) (f : Nat → List Value) : Prop where
  bk : Bk w b T (pre ++ cat f n ++ post)
  len : ∀ i, i < n → (f i).length = sz
  one : ∀ i, i < n → ∀ c ∈ f i, c.oneCell' = true

variable {b T sz : Nat} {pre post : List Value} {f : Nat → List Value}

theorem Arr.frame {S : Nat → Prop} (h : Arr w b T sz n pre post f) (g : Fr S w w') (hs : ¬ S b) : Arr w' b T sz n pre post f := ⟨h.bk.frame g hs, h.len, h.one⟩

theorem Arr.seg (h : Arr w b T sz n pre post f) {i : Nat} (hi : i < n) : Seg w b (pre.length + i * sz) (f i) := by
  obtain ⟨A, B, h1, h2, _⟩ := cat_split h.len hi
  refine h.bk.segAt _ _ fun j v e => ?_
  rw [h2]
  have hj : j < (f i).length := by
    rcases Nat.lt_or_ge j (f i).length with c | c
    · exact c
    · rw [List.getElem?_eq_none c] at e; cases e
  have e2 : pre ++ (A ++ f i ++ B) ++ post = (pre ++ A) ++ (f i ++ (B ++ post)) := by simp only [List.append_assoc]
  rw [e2, List.getElem?_append_right (by simp; omega), List.getElem?_append_left (by simp; omega)]
  rw [show pre.length + i * sz + j - (pre ++ A).length = j by simp; omega]
  exact e

theorem Arr.set (h : Arr w b T sz n pre post f) {i : Nat} (hi : i < n) {v : List Value} (hv : v.length = sz) (h1 : ∀ c ∈ v, c.oneCell' = true)
    (hb : Bk w' b T (upd (pre ++ cat f n ++ post) (pre.length + i * sz) v)) : Arr w' b T sz n pre post (fun k => if k = i then v else f k) := by
  obtain ⟨A, B, g1, g2, g3⟩ := cat_split h.len hi
  refine ⟨?_, fun k hk => ?_, fun k hk => ?_⟩
  · rw [g3]
    have hfi := h.len i hi
    have e : upd (pre ++ cat f n ++ post) (pre.length + i * sz) v = pre ++ (A ++ v ++ B) ++ post := by
      have hl : (pre ++ A).length = pre.length + i * sz := by simp [g1]
      have hl2 : ((pre ++ A) ++ f i).length = pre.length + i * sz + v.length := by simp [g1, hfi, hv]; omega
      have e2 : pre ++ cat f n ++ post = (pre ++ A) ++ f i ++ (B ++ post) := by rw [g2]; simp only [List.append_assoc]
      rw [e2]
      unfold upd
      rw [← hl2, List.drop_left]
      rw [List.append_assoc (pre ++ A), ← hl, List.take_left]
      simp only [List.append_assoc]
    rw [← e]; exact hb
  · split
    · exact hv
    · exact h.len k hk
  · split
    · exact h1
    · exact h.one k hk

theorem Arr.fit (h : Arr w b T sz n pre post f) {i : Nat} (hi : i < n) : pre.length + i * sz + sz ≤ (pre ++ cat f n ++ post).length := by
  obtain ⟨A, B, g1, g2, g3⟩ := cat_split h.len hi
  rw [g2]
  have := h.len i hi
  simp [g1, this]; omega

theorem Arr.eq {g : Nat → List Value} (h : Arr w b T sz n pre post f) (e : ∀ i, f i = g i) : Arr w b T sz n pre post g := by
  have : f = g := funext e
  exact this ▸ h

/-- elements of one cell -/
def elv (c : List Value) : Value := c.headD undef

theorem elv_of {c : List Value} (h : c.length = 1) : c = [elv c] := by
  match c, h with
  | [v], _ => rfl

theorem Arr.cell1 (h : Arr w b T 1 n pre post f) {i : Nat} (hi : i < n) : w.cell? ⟨b, pre.length + i * 1, none⟩ = some (elv (f i)) := by
  have := h.seg hi
  rw [elv_of (h.len i hi)] at this
  exact this.head

theorem oneCell_cells {v : Value} (h : v.oneCell' = true) : v.cells = #[v] := by
  cases v <;> first | rfl | (simp [Value.oneCell'] at h)

theorem Arr.elvOne (h : Arr w b T 1 n pre post f) {i : Nat} (hi : i < n) : (elv (f i)).cells.toList = f i := by
  have h1 := h.one i hi (elv (f i)) (by rw [elv_of (h.len i hi)]; simp [elv])
  rw [oneCell_cells h1]
  exact (elv_of (h.len i hi)).symm

section ops
variable {N : Nat} {todo : List Oper} {d : Nat} {t ty : TypeId} {pos : String} {af : Array Edge} {x y : Operand} {i : Nat}

theorem OW.loadArrA (hd : Nat.blt d n = true) (ht : aggSz P t = some sz) (hx : evl L x = some (.pointer (some ⟨b, pre.length + i * sz, none⟩))) (hA : Arr w b T sz N pre post f) (hi : i < N)
    (h : OW P ops Q n D todo ((d, .agg (f i).toArray) :: L) w) : OW P ops Q n D (⟨some d, .load t x, ty, pos, af, none⟩ :: todo) L w :=
  OW.loadA hd ht hx (hA.seg hi) (hA.len i hi) h

theorem OW.loadArr1 (hd : Nat.blt d n = true) (ht : cellTy P t = true) (hx : evl L x = some (.pointer (some ⟨b, pre.length + i * 1, none⟩))) (hA : Arr w b T 1 N pre post f) (hi : i < N)
    (h : OW P ops Q n D todo ((d, elv (f i)) :: L) w) : OW P ops Q n D (⟨some d, .load t x, ty, pos, af, none⟩ :: todo) L w :=
  OW.load1 hd ht hx (hA.cell1 hi) h

theorem OW.storeArrA {v : List Value} (hx : evl L x = some (.pointer (some ⟨b, pre.length + i * sz, none⟩))) (hy : evl L y = some (.agg v.toArray)) (ht : sizeIs P t = some sz) (hA : Arr w b T sz N pre post f) (hi : i < N)
    (hv : v.length = sz) (h1 : ∀ c ∈ v, c.oneCell' = true) (h : ∀ w', Fr (fun k => k = b) w w' → Arr w' b T sz N pre post (fun k => if k = i then v else f k) → OW P ops Q n D todo L w') :
    OW P ops Q n D (⟨none, .store t x y, ty, pos, af, none⟩ :: todo) L w := by
  refine OW.store hx hy (show sizeIs P t = some v.toArray.size from by rw [ht]; simp [hv]) hA.bk ?_ (show ∀ x ∈ v.toArray.toList, x.oneCell' = true from by simpa using h1) fun w' f1 _ b1 => ?_
  · show _ + v.toArray.size ≤ _
    have := hA.fit hi
    simpa [hv] using this
  · exact h w' f1 (hA.set hi hv h1 (by simpa using (show Bk w' b T (upd _ _ v.toArray.toList) from b1)))

theorem OW.storeArr1 {v : List Value} (hx : evl L x = some (.pointer (some ⟨b, pre.length + i * 1, none⟩))) (hy : evl L y = some (elv v)) (ht : sizeIs P t = some 1) (hA : Arr w b T 1 N pre post f) (hi : i < N)
    (hv : v.length = 1) (h1 : ∀ c ∈ v, c.oneCell' = true) (h : ∀ w', Fr (fun k => k = b) w w' → Arr w' b T 1 N pre post (fun k => if k = i then v else f k) → OW P ops Q n D todo L w') :
    OW P ops Q n D (⟨none, .store t x y, ty, pos, af, none⟩ :: todo) L w := by
  have hc : (elv v).cells = #[elv v] := oneCell_cells (h1 (elv v) (by rw [elv_of hv]; simp [elv]))
  have hl : (elv v).cells.toList = v := by rw [hc]; exact (elv_of hv).symm
  refine OW.store hx hy (by rw [ht, hc]; rfl) hA.bk ?_ (by rw [hl]; exact h1) fun w' f1 _ b1 => ?_
  · have := hA.fit hi
    rw [hc]; exact this
  · exact h w' f1 (hA.set hi hv h1 (by rw [hl] at b1; exact b1))
end ops

theorem half_eq {x : Int} {k : Nat} (h : 2 * (k : Int) ≤ x ∧ x < 2 * (k : Int) + 2) : (Value.int .u64 (x.fdiv (2 ^ min (1 : Int).toNat (IntKind.bits .u64)))) = .int .u64 (k : Int) := by
  have e : (2 : Int) ^ min (1 : Int).toNat (IntKind.bits .u64) = 2 := by decide
  rw [e]
  congr 1
  rw [Int.fdiv_eq_ediv_of_nonneg _ (by omega)]
  omega

/-- how far the sorting of a row has come -/
structure SS (w0 w : World) (b T sz N : Nat) (pre post : List Value) (xs : Nat → List Value) (p : Nat → Nat) : Prop where
  fr : Fr (fun k => k = b) w0 w
  arr : Arr w b T sz N pre post (fun k => xs (p k))

theorem SS.draw {N : Nat} {xs : Nat → List Value} {p : Nat → Nat} (h : SS w0 w b T sz N pre post xs p) (g : Fr0 w w') : SS w0 w' b T sz N pre post xs p := ⟨h.fr.trans g.any, h.arr.frame g id⟩
theorem SS.step {N : Nat} {xs : Nat → List Value} {p q : Nat → Nat} (h : SS w0 w b T sz N pre post xs p) (g : Fr (fun k => k = b) w w') (ha : Arr w' b T sz N pre post (fun k => xs (q k))) : SS w0 w' b T sz N pre post xs q := ⟨h.fr.trans g, ha⟩

/-- a function's value that compares two elements, wherever they have been put within the block -/
def Cmpr (P : Program) (cv : Value) (w0 : World) (b : Nat) (ev : List Value → Value) (n : Nat) (xs : Nat → List Value) (cmp : Nat → Nat → Int) : Prop :=
  ∃ g first cap, cv = .func (.func g) first cap ∧ callable P g = true ∧ ∀ w, Fr (fun k => k = b) w0 w → ∀ i j, i < n → j < n →
    Does P g (first.toList ++ [ev (xs i), ev (xs j)] ++ cap.toList) w fun v w' => v = .int .i64 (cmp i j) ∧ Fr0 w w'

def lessOf (cmp : Nat → Nat → Int) : Nat → Nat → Bool := fun i j => decide (cmp i j < 0)

/-- two elements change places -/
theorem sw_eq (xs : Nat → List Value) (q : Nat → Nat) {i j : Nat} (h : i ≠ j) (k : Nat) :
    (fun k => if k = j then xs (q i) else (fun k => if k = i then xs (q j) else xs (q k)) k) k = xs (sw q i j k) := by
  simp only [sw]
  by_cases c : k = i
  · subst c; simp [h]
  · by_cases c2 : k = j
    · subst c2; simp [c]
    · simp [c, c2]

end Go.Eng
