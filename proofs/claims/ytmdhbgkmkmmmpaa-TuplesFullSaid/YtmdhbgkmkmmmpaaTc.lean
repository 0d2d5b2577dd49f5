/-
  Ordering, New and Rows of package tuples, stepped through.
  No condition.
-/
import Derived.Test.YtmdhbgkmkmmmpaaTb
import Derived.Test.YtmdhbgkmkmmmpaaDh
import Derived.Test.YtmdhbgkmkmmmpaaProg
import Derived.KernelRfl
namespace Go.Eng.Tc
open Go Go.Eng Go.Proofs
theorem MIX : Try.prog.follows .mixedOrders = true := by kernel_rfl

theorem cl123 : callable Try.prog 123 = true := by kernel_rfl
theorem cl125 : callable Try.prog 125 = true := by kernel_rfl
theorem cl126 : callable Try.prog 126 = true := by kernel_rfl
theorem cl143 : callable Try.prog 143 = true := by kernel_rfl
theorem cl67 : callable Try.prog 67 = true := by kernel_rfl
theorem ct125 : cellTy Try.prog 125 = true := by kernel_rfl
theorem el125 : elemIs Try.prog 125 = some (130, 1) := by kernel_rfl
theorem fo127_0 : fieldOff Try.prog 127 0 = some 0 := by kernel_rfl
theorem pl127 : placesIs Try.prog 127 = some [(0, 1), (1, 1), (2, 1)] := by kernel_rfl
theorem u_57 : Try.prog.underlying 57 = some (.pointer 127) := by kernel_rfl
theorem zr127 : zeroIs Try.prog 127 = some (.agg #[.slice none 0 0, .map none, .int .i64 0]) := by kernel_rfl

def rowPR : Rep RowSt := fun _ _ cs r => cs = [.pointer (some ⟨r.ptr, 0, none⟩)]
theorem rowPR_ok : rowPR.Ok 1 where
  frame := fun h _ _ => h
  mono := fun h _ => h
  one := fun e c hc => by subst e; simp at hc; subst hc; rfl
  len := fun e => by subst e; rfl
theorem own_rows {e : Nat} {X : Nat → Prop} {w : World} {v : Value} {rows : List RowSt} : OwnSl e 1 ptrR X w v (rows.map (·.ptr)) ↔ OwnSl e 1 rowPR X w v rows := by
  constructor
  · rintro ⟨cs, h1, h2, h3, h4⟩
    refine ⟨cs, by simpa using h1, by simpa using h2, h3, fun i x c hx hc => ?_⟩
    exact h4 i x.ptr c (by rw [List.getElem?_map, hx]; rfl) hc
  · rintro ⟨cs, h1, h2, h3, h4⟩
    refine ⟨cs, by simpa using h1, by simpa using h2, h3, fun i x c hx hc => ?_⟩
    rw [List.getElem?_map] at hx
    simp only [Option.map_eq_some_iff] at hx
    obtain ⟨y, hy, rfl⟩ := hx
    exact h4 i y c hy hc
def rowLe (x y : RowSt) : Bool := decide (Dg.cmpI y.greatest x.greatest < 0)
theorem rowLe_iff (x y : RowSt) : rowLe x y = decide (y.greatest < x.greatest) := by unfold rowLe; exact decide_eq_decide.2 (by rw [Dh.cmpI_lt])
def inLe (x y : In) : Bool := decide (inCmp x y < 0)

theorem sortIns_does {w : World} {v : Value} {xs : List In} (ho : OwnSl 137 2 inR (fun _ => False) w v xs) (hn : xs.length ≤ 140737488355328) : Does Try.prog 66 [v, .func (.func 67) #[] #[]] w fun _ w' => OwnSl 137 2 inR (fun _ => False) w' v (isort inLe xs) ∧ Fr (fun k => v.ownBlock = some k) w w' := by
  refine Does.enter Try.func66 rfl rfl ?_
  show CW _ _ _ _ 7 [] [(0, v), (1, .func (.func 67) #[] #[])] w
  have hC : CmpE Try.prog (.func (.func 67) #[] #[]) w v (fun c => .agg c.toArray) inR (fun _ => False) xs inCmp := ⟨67, #[], #[], rfl, cl67, fun w1 _ x y c e _ _ hc he => by
    obtain ⟨rfl, _⟩ := hc
    obtain ⟨rfl, _⟩ := he
    exact Tb.inCmp_does x y w1⟩
  refine CW.region ?_
  refine OW.move rfl rfl ?_
  refine OW.move rfl rfl ?_
  refine OW.call rfl rfl cl123 (sort_own (srt := 123) inR_ok (fun hc ho hn hA => SI.sort_SI (pre := []) hc ho hn hA) SI.sort0_SI ho hn (fun _ c => c.elim) hC (fun {x y z} _ _ _ h1 h2 => by rw [inCmp_lt] at *; unfold inLt at *; omega) (fun {x y} _ _ h => by rw [inCmp_lt] at *; unfold inLt at *; omega)) ?_
  rintro _ w2 ⟨h1, h2⟩
  refine OW.nil ?_
  exact NX.ret0 (.inr rfl) rfl (⟨h1, h2⟩)

theorem sortRows_does {w : World} {v : Value} {xs : List RowSt} (ho : OwnSl 130 1 rowPR (fun _ => False) w v xs) (hn : xs.length ≤ 140737488355328) (hb : ∀ x ∈ xs, Bk w x.ptr 133 (rowCells x)) (hd : ∀ x ∈ xs, ¬ v.ownBlock = some x.ptr) : Does Try.prog 125 [v, .func (.func 126) #[] #[]] w fun _ w' => OwnSl 130 1 rowPR (fun _ => False) w' v (isort rowLe xs) ∧ Fr (fun k => v.ownBlock = some k) w w' := by
  refine Does.enter Try.func125 rfl rfl ?_
  show CW _ _ _ _ 7 [] [(0, v), (1, .func (.func 126) #[] #[])] w
  have hC : CmpE Try.prog (.func (.func 126) #[] #[]) w v elv rowPR (fun _ => False) xs (fun x y => Dg.cmpI y.greatest x.greatest) := ⟨126, #[], #[], rfl, cl126, fun w1 f x y c e hx hy hc he => by
    have hc : c = _ := hc
    have he : e = _ := he
    subst hc; subst he
    exact Tb.rowCmp_does w1 ((hb x hx).frame f (hd x hx)) ((hb y hy).frame f (hd y hy))⟩
  refine CW.region ?_
  refine OW.move rfl rfl ?_
  refine OW.move rfl rfl ?_
  refine OW.call rfl rfl cl143 (sort_own (srt := 143) rowPR_ok (fun hc ho hn hA => SP.sort_SP (pre := []) hc ho hn hA) SP.sort0_SP ho hn (fun _ c => c.elim) hC (fun {x y z} _ _ _ h1 h2 => by rw [Dh.cmpI_lt] at *; omega) (fun {x y} _ _ h => by rw [Dh.cmpI_lt] at *; omega)) ?_
  rintro _ w2 ⟨h1, h2⟩
  refine OW.nil ?_
  exact NX.ret0 (.inr rfl) rfl (⟨h1, h2⟩)

theorem order_does {w : World} {bt mt : Nat} {v : Value} {last : Int} {xs : List RowSt} (ht : Bk w bt 127 (tabCells v mt last)) (ho : OwnSl 130 1 rowPR (fun _ => False) w v xs) (hn : xs.length ≤ 140737488355328) (hb : ∀ x ∈ xs, Bk w x.ptr 133 (rowCells x)) (hd : ∀ x ∈ xs, ¬ v.ownBlock = some x.ptr) : Does Try.prog 70 [.pointer (some ⟨bt, 0, none⟩)] w fun _ w' => OwnSl 130 1 rowPR (fun _ => False) w' v (isort rowLe xs) ∧ Fr (fun k => v.ownBlock = some k) w w' := by
  refine Does.enter Try.func70 rfl rfl ?_
  show CW _ _ _ _ 7 [] [(0, .pointer (some ⟨bt, 0, none⟩))] w
  refine CW.region ?_
  refine OW.move rfl rfl ?_
  refine OW.nilCheck rfl rfl ?_
  refine OW.fieldAddr rfl fo127_0 rfl ?_
  refine OW.load1 rfl ct125 rfl (ht.cell (o := 0) rfl) ?_
  refine OW.call rfl rfl cl125 (sortRows_does ho hn hb hd) ?_
  rintro _ w2 ⟨h1, h2⟩
  refine OW.nil ?_
  exact NX.ret0 (.inr rfl) rfl (⟨h1, h2⟩)

theorem new_holds {w w1 w2 : World} {b1 b2 : Nat} (n1 : New w w1 b1 (.map #[] 0)) (n2 : New w1 w2 b2 (.cells (tabCells (.slice none 0 0) b1 0).toArray 127 (0, 0))) : Holds w2 [tabA ⟨b2, b1, .slice none 0 0, [], [], 0⟩] ∧ ∀ k ∈ (tabA ⟨b2, b1, .slice none 0 0, [], [], 0⟩).fp, w.heap.size ≤ k := by
  have r1 := ((Run.start (Holds.nil (w := w))).newMap idK n1).newPts n2
  have e : fps [pts b2 127 (tabCells (.slice none 0 0) b1 0), mapA b1 idK []] = [b2, b1] := rfl
  have hfp : (tabA ⟨b2, b1, .slice none 0 0, [], [], 0⟩).fp = [b2, b1] := rfl
  refine ⟨Holds.one ?_ ?_ ?_, ?_⟩
  · intro a ha
    have ha : a ∈ tabPieces _ := ha
    simp only [tabPieces, List.mem_cons, List.not_mem_nil, or_false] at ha
    rcases ha with rfl | rfl | rfl | rfl
    · exact r1.get 0 rfl
    · exact r1.get 1 rfl
    · exact (OwnSl.nil (X := fun _ => False))
    · intro a ha; cases ha
  · rw [hfp]; exact r1.nodup
  · rw [hfp]; exact r1.lt
  · rw [hfp]
    intro k hk
    exact (r1.sub k hk).resolve_left (by simp [star, fps])

theorem new_does (w : World) : Does Try.prog 27 [] w fun v w' => ∃ T : TabSt, v = .pointer (some ⟨T.bt, 0, none⟩) ∧ (T.rows = [] ∧ T.atl = [] ∧ T.last = 0) ∧ (Holds w' [tabA T] ∧ ∀ k ∈ (tabA T).fp, w.heap.size ≤ k) ∧ Fr0 w w' := by
  refine Does.enter Try.func27 rfl rfl ?_
  show CW _ _ _ _ 4 [] [] w
  refine CW.seq ?_
  refine CW.region ?_
  refine OW.assign rfl rfl ?_
  refine OW.nil ?_
  refine NX.seq ?_
  refine CW.seq ?_
  refine CW.region ?_
  refine OW.makeMap rfl ?_
  intro b1 w1 n1
  refine OW.build (z := [.slice none 0 0, .map none, .int .i64 0]) rfl pl127 zr127 rfl rfl ?_
  refine OW.boxA (vs := tabCells (.slice none 0 0) b1 0) rfl rfl ?_
  intro b2 w2 n2
  refine OW.assign rfl rfl ?_
  refine OW.nil ?_
  refine NX.seq ?_
  refine CW.ret ?_
  exact NX.ret1 rfl rfl (⟨⟨b2, b1, .slice none 0 0, [], [], 0⟩, rfl, ⟨rfl, rfl, rfl⟩, new_holds n1 n2, n1.fr.trans n2.fr⟩)

theorem rows_does {T : TabSt} (w : World) (h : Holds w (tabPieces T)) : Does Try.prog 36 [.pointer (some ⟨T.bt, 0, none⟩)] w fun v w' => v = .int .i64 (T.rows.length : Nat) ∧ Fr0 w w' := by
  refine Does.enter Try.func36 rfl rfl ?_
  show CW _ _ _ _ 10 [] [(0, .pointer (some ⟨T.bt, 0, none⟩))] w
  have ht : Bk w T.bt 127 (tabCells T.vrows T.mt T.last) := h.get 0 rfl
  have ho : OwnSl 130 1 ptrR (fun _ => False) w T.vrows (T.rows.map (·.ptr)) := h.get 2 rfl
  obtain ⟨pv, cv, hv, _⟩ := ho.shape
  rw [hv] at ht
  refine CW.seq ?_
  refine CW.region ?_
  refine OW.assign rfl rfl ?_
  refine OW.nil ?_
  refine NX.seq ?_
  refine CW.seq ?_
  refine CW.seq ?_
  refine CW.region ?_
  refine OW.move rfl rfl ?_
  refine OW.eqlPtrNil rfl u_57 rfl rfl ?_
  refine OW.slot (s := 4) rfl (show _ = Value.bool false from rfl) ?_
  refine OW.nil ?_
  refine NX.seq ?_
  refine CW.condF rfl ?_
  refine CW.skip ?_
  refine NX.seq ?_
  refine CW.seq ?_
  refine CW.region ?_
  refine OW.move rfl rfl ?_
  refine OW.nilCheck rfl rfl ?_
  refine OW.fieldAddr rfl fo127_0 rfl ?_
  refine OW.load1 rfl ct125 rfl (ht.cell (o := 0) rfl) ?_
  refine OW.len rfl el125 rfl ?_
  refine OW.assign rfl rfl ?_
  refine OW.nil ?_
  refine NX.seq ?_
  refine CW.ret ?_
  exact NX.ret1 rfl rfl (⟨congrArg (fun n : Nat => Value.int .i64 (n : Int)) (by simp), Fr.refl _ _⟩)

end Go.Eng.Tc
