/-
  The table of package tuples on the heap.
  No condition.
-/
import Derived.Test.YtmdhbgkmkmmmpaaEngW
import Derived.Test.YtmdhbgkmkmmmpaaDg
namespace Go.Eng
open Go

/-! ### runs: what became of some pieces of the heap -/

abbrev Run (w w' : World) (As Bs : List Asn) : Prop := Moves w w' (star As) (star Bs)

section run
variable {w w1 w2 : World} {As Bs Cs : List Asn} {a a' : Asn}

theorem Run.start (h : Holds w As) : Run w w As As := ⟨Fr.refl _ _, h.ok, fun _ hk => .inl hk, h.nodup, h.lt⟩
theorem Run.holds (r : Run w w1 As Bs) : Holds w1 Bs := ⟨r.ok, r.nodup, r.lt⟩
theorem Run.get (r : Run w w1 As Bs) (i : Nat) (e : Bs[i]? = some a) : a.ok w1 := r.holds.get i e
theorem Run.fr0 (r : Run w w1 As Bs) (f : Fr0 w1 w2) : Run w w2 As Bs :=
  ⟨r.fr.trans f.any, (r.holds.fr0 f).ok, r.sub, r.nodup, fun k hk => Nat.lt_of_lt_of_le (r.lt k hk) f.size⟩
theorem Run.conv (r : Run w w1 As Bs) (h : Holds w1 Cs) (hs : ∀ k ∈ fps Cs, k ∈ fps Bs) : Run w w1 As Cs :=
  ⟨r.fr, h.ok, fun k hk => r.sub k (hs k hk), h.nodup, h.lt⟩
theorem Run.perm (r : Run w w1 As Bs) (p : Bs.Perm Cs) : Run w w1 As Cs :=
  r.conv (r.holds.perm p) fun _ hk => (show (fps Bs).Perm (fps Cs) from p.flatMap_right _).mem_iff.2 hk
theorem Run.put (r : Run w w1 As Bs) (i : Nat) (e : Bs[i]? = some a) (m : Moves w1 w2 a a') : Run w w2 As (Bs.set i a') := by
  have h2 := r.holds.put i e m
  obtain ⟨l1, l2, e1, e2, _⟩ := set_split e
  have hin : ∀ k ∈ a.fp, k ∈ fps Bs := fun k hk => by rw [e1]; exact List.mem_flatMap.2 ⟨a, by simp, hk⟩
  refine ⟨r.fr.trans' m.fr (fun _ hk c => (r.sub _ (hin _ c)).resolve_right (by omega)), h2.ok, fun k hk => ?_, h2.nodup, h2.lt⟩
  have hk' : k ∈ fps (l1 ++ a' :: l2) := by rw [← e2]; exact hk
  obtain ⟨b, hb, hkb⟩ := List.mem_flatMap.1 hk'
  rcases List.mem_append.1 hb with c | c
  · exact r.sub k (by rw [e1]; exact List.mem_flatMap.2 ⟨b, by simp [c], hkb⟩)
  · rcases List.mem_cons.1 c with rfl | c
    · rcases m.sub k hkb with d | d
      · exact r.sub k (hin k d)
      · exact .inr (Nat.le_trans r.fr.size d)
    · exact r.sub k (by rw [e1]; exact List.mem_flatMap.2 ⟨b, by simp [c], hkb⟩)
theorem Run.push (r : Run w w1 As Bs) (f : Fr0 w1 w2) (ho : a.ok w2) (hn : a.fp.Nodup) (hf : ∀ k ∈ a.fp, w1.heap.size ≤ k ∧ k < w2.heap.size) : Run w w2 As (a :: Bs) := by
  have h2 := r.holds.push f ho hn hf
  refine ⟨r.fr.trans f.any, h2.ok, fun k hk => ?_, h2.nodup, h2.lt⟩
  have hk' : k ∈ a.fp ++ fps Bs := hk
  rcases List.mem_append.1 hk' with c | c
  · exact .inr (Nat.le_trans r.fr.size (hf k c).1)
  · exact r.sub k c
theorem Run.newPts (r : Run w w1 As Bs) {b T : Nat} {cs : List Value} (n : New w1 w2 b (.cells cs.toArray T (0, 0))) : Run w w2 As (pts b T cs :: Bs) :=
  r.push n.fr n.here (by simp [pts]) fun k hk => by simp [pts] at hk; subst hk; have := n.fresh; have := n.size; omega
theorem Run.newMap (r : Run w w1 As Bs) {κ : Type} {b : Nat} (ek : κ → Value) (n : New w1 w2 b (.map #[] 0)) : Run w w2 As (mapA b ek [] :: Bs) :=
  r.push n.fr (MapBk.empty ek n) (by simp [mapA]) fun k hk => by simp [mapA] at hk; subst hk; have := n.fresh; have := n.size; omega
/-- a piece that holds no block -/
theorem Run.void (r : Run w w1 As Bs) (ho : a.ok w1) (hn : a.fp = []) : Run w w1 As (a :: Bs) := r.push (Fr.refl _ _) ho (by simp [hn]) (by simp [hn])
theorem Run.drop (r : Run w w1 As (a :: Bs)) : Run w w1 As Bs :=
  r.conv (r.holds.drop (Cs := [a]) (by simpa using (List.perm_append_singleton a Bs).symm)) fun k hk => List.mem_append_right _ hk
theorem Run.split (r : Run w w1 As (star Bs :: Cs)) : Run w w1 As (Bs ++ Cs) := r.conv r.holds.of_star fun k hk => by simpa [fps, star] using hk
theorem Run.join (r : Run w w1 As (Bs ++ Cs)) : Run w w1 As (star Bs :: Cs) := r.conv r.holds.to_star fun k hk => by simpa [fps, star] using hk
theorem Run.starPerm {Ds : List Asn} (r : Run w w1 As (star Bs :: Cs)) (p : Bs.Perm Ds) : Run w w1 As (star Ds :: Cs) := (r.split.perm (p.append_right _)).join
theorem Run.uncons (r : Run w w1 As (star (a :: Bs) :: Cs)) : Run w w1 As (a :: star Bs :: Cs) :=
  (((r.split).perm (Cs := Bs ++ (a :: Cs)) (List.perm_middle (a := a) (l₁ := Bs) (l₂ := Cs)).symm).join).perm (List.Perm.swap _ _ _)
theorem Run.cons (r : Run w w1 As (a :: star Bs :: Cs)) : Run w w1 As (star (a :: Bs) :: Cs) :=
  (((r.perm (List.Perm.swap _ _ _)).split).perm (Cs := (a :: Bs) ++ Cs) (List.perm_middle (a := a) (l₁ := Bs) (l₂ := Cs))).join
theorem Run.front (r : Run w w1 As Bs) (i : Nat) (e : Bs[i]? = some a) : Run w w1 As (a :: Bs.eraseIdx i) := by
  refine r.perm ?_
  obtain ⟨l1, l2, e1, _, e3⟩ := set_split e
  subst e1
  rw [List.eraseIdx_append_of_length_le (by omega), e3, Nat.sub_self]
  exact List.perm_middle
end run

/-! ### the table -/

structure In where
  id : Int
  rank : Int
  deriving DecidableEq, Inhabited

def i64Ok (i : Int) : Prop := -9223372036854775808 ≤ i ∧ i < 9223372036854775808
def inR : Rep In := fun _ _ cs x => cs = [.int .i64 x.id, .int .i64 x.rank] ∧ i64Ok x.id ∧ i64Ok x.rank
theorem inR_ok : inR.Ok 2 where
  frame := fun h _ _ => h
  mono := fun h _ => h
  one := fun ⟨e, _⟩ c hc => by subst e; simp at hc; rcases hc with rfl | rfl <;> rfl
  len := fun ⟨e, _⟩ => by subst e; rfl

def ptrR : Rep Nat := fun _ _ cs p => cs = [.pointer (some ⟨p, 0, none⟩)]
theorem ptrR_ok : ptrR.Ok 1 where
  frame := fun h _ _ => h
  mono := fun h _ => h
  one := fun e c hc => by subst e; simp at hc; subst hc; rfl
  len := fun e => by subst e; rfl

structure Bkt where
  v : Value
  l : List In

structure RowSt where
  ptr : Nat
  mp : Nat
  mask : Hdr
  bks : List (Hdr × Bkt)
  greatest : Int
  many : Nat
instance : Inhabited RowSt := ⟨⟨0, 0, fun _ => 0, [], 0, 0⟩⟩

def rowCells (r : RowSt) : List Value := r.mask.cells ++ [.map (some r.mp), .int .i64 r.greatest, .int .i64 (r.many : Nat)]
def hdrK (h : Hdr) : Value := .agg (ints h.lits).toArray
def bkA (b : Hdr × Bkt) : Asn := ownA 137 2 inR inR_ok b.2.v b.2.l
def bkMap (bks : List (Hdr × Bkt)) : List (Hdr × Value) := bks.map fun p => (p.1, p.2.v)
def rowPieces (r : RowSt) : List Asn := [pts r.ptr 133 (rowCells r), mapA r.mp hdrK (bkMap r.bks), star (r.bks.map bkA)]
def rowA (r : RowSt) : Asn := star (rowPieces r)

structure TabSt where
  bt : Nat
  mt : Nat
  vrows : Value
  rows : List RowSt
  atl : List (Int × Rule)
  last : Int

def ruleV (r : Rule) : Value := .agg (ruleCells r.rank r.mat (.slice none 0 0) r.cookie).toArray
def idK (i : Int) : Value := .int .i64 i
def atMap (l : List (Int × Rule)) : List (Int × Value) := l.map fun x => (x.1, ruleV x.2)
def tabCells (v : Value) (m : Nat) (last : Int) : List Value := [v, .map (some m), .int .i64 last]
def tabPieces (T : TabSt) : List Asn :=
  [pts T.bt 127 (tabCells T.vrows T.mt T.last), mapA T.mt idK (atMap T.atl), ownA 130 1 ptrR ptrR_ok T.vrows (T.rows.map (·.ptr)), star (T.rows.map rowA)]
def tabA (T : TabSt) : Asn := star (tabPieces T)

section rows
variable {w w1 : World} {As Cs : List Asn} {rows : List RowSt}

theorem Run.rowOut (r : Run w w1 As (star (rows.map rowA) :: Cs)) {i : Nat} {x : RowSt} (e : rows[i]? = some x) : Run w w1 As (rowA x :: star ((rows.eraseIdx i).map rowA) :: Cs) := by
  obtain ⟨l1, l2, e1, _, e3⟩ := set_split e
  subst e1
  refine (r.starPerm (Ds := rowA x :: ((l1 ++ x :: l2).eraseIdx i).map rowA) ?_).uncons
  rw [List.eraseIdx_append_of_length_le (by omega), e3, Nat.sub_self]
  simp only [List.map_append, List.map_cons, List.eraseIdx_cons_zero]
  exact List.perm_middle

theorem Run.rowIn {i : Nat} {x : RowSt} (r : Run w w1 As (rowA x :: star ((rows.eraseIdx i).map rowA) :: Cs)) (hi : i < rows.length) : Run w w1 As (star ((rows.set i x).map rowA) :: Cs) := by
  obtain ⟨l1, l2, e1, e2, e3⟩ := set_split (List.getElem?_eq_getElem hi)
  have e4 : rows.eraseIdx i = l1 ++ l2 := by
    rw [e1, List.eraseIdx_append_of_length_le (by omega), e3, Nat.sub_self]; rfl
  rw [e4] at r
  rw [e2 x]
  refine r.cons.starPerm ?_
  simp only [List.map_append, List.map_cons]
  exact List.perm_middle.symm

def nilB : Bkt := ⟨.slice none 0 0, []⟩

theorem Run.bktOut {bks : List (Hdr × Bkt)} (r : Run w w1 As (star (bks.map bkA) :: Cs)) (k : Hdr) : Run w w1 As (bkA (k, (kvGetG k bks).getD nilB) :: star ((kvDelG k bks).map bkA) :: Cs) := by
  cases h : kvGetG k bks with
  | some b => exact (r.starPerm ((kvGetG_perm h).map bkA)).uncons
  | none =>
    rw [kvDelG_none h]
    exact r.void (a := bkA (k, nilB)) (OwnSl.nil (X := fun _ => False)) rfl

theorem Run.bktIn {bks : List (Hdr × Bkt)} {k : Hdr} {b : Bkt} (r : Run w w1 As (bkA (k, b) :: star ((kvDelG k bks).map bkA) :: Cs)) (hn : (bks.map (·.1)).Nodup) : Run w w1 As (star ((kvSetG k b bks).map bkA) :: Cs) :=
  r.cons.starPerm ((kvSetG_perm hn).map bkA).symm
end rows

theorem hdrKey {P : Program} {t : Nat} (hf : Flat P t (List.replicate 11 .u64)) : KeyEq P t hdrK (fun h : Hdr => intsWf h.lits) := KeyEq.flat hf (fun _ => rfl) (fun _ _ h => Hdr.lits_inj h)

def inCmp (x y : In) : Int := if Dg.cmpI y.rank x.rank ≠ 0 then Dg.cmpI y.rank x.rank else Dg.cmpI x.id y.id
def inLt (x y : In) : Prop := y.rank < x.rank ∨ (x.rank = y.rank ∧ x.id < y.id)
instance : DecidableRel inLt := fun x y => by unfold inLt; infer_instance
theorem inCmp_lt (x y : In) : inCmp x y < 0 ↔ inLt x y := by
  unfold inCmp inLt Dg.cmpI
  constructor
  · intro h; split at h <;> (repeat' split at h) <;> omega
  · intro h; split <;> (repeat' split) <;> omega

end Go.Eng
