/-
  Drop of package tuples, stepped through.
  No condition.
-/
import Derived.Test.YtmdhbgkmkmmmpaaTh
import Derived.Test.YtmdhbgkmkmmmpaaTe
import Derived.Test.YtmdhbgkmkmmmpaaTupM
import Derived.Test.YtmdhbgkmkmmmpaaEngZ
import Derived.Test.YtmdhbgkmkmmmpaaProg
import Derived.KernelRfl
namespace Go.Eng.Ti
open Go Go.Eng Go.Proofs
theorem MIX : Try.prog.follows .mixedOrders = true := by kernel_rfl

theorem ag31 : aggSz Try.prog 31 = some 11 := by kernel_rfl
theorem cl64 : callable Try.prog 64 = true := by kernel_rfl
theorem cl70 : callable Try.prog 70 = true := by kernel_rfl
theorem cl73 : callable Try.prog 73 = true := by kernel_rfl
theorem cl74 : callable Try.prog 74 = true := by kernel_rfl
theorem cl75 : callable Try.prog 75 = true := by kernel_rfl
theorem cl76 : callable Try.prog 76 = true := by kernel_rfl
theorem ct124 : cellTy Try.prog 124 = true := by kernel_rfl
theorem ct125 : cellTy Try.prog 125 = true := by kernel_rfl
theorem ct130 : cellTy Try.prog 130 = true := by kernel_rfl
theorem ct131 : cellTy Try.prog 131 = true := by kernel_rfl
theorem ct3 : cellTy Try.prog 3 = true := by kernel_rfl
theorem el125 : elemIs Try.prog 125 = some (130, 1) := by kernel_rfl
theorem el135 : elemIs Try.prog 135 = some (137, 2) := by kernel_rfl
theorem fo127_0 : fieldOff Try.prog 127 0 = some 0 := by kernel_rfl
theorem fo127_1 : fieldOff Try.prog 127 1 = some 1 := by kernel_rfl
theorem fo133_1 : fieldOff Try.prog 133 1 = some 11 := by kernel_rfl
theorem fo133_2 : fieldOff Try.prog 133 2 = some 12 := by kernel_rfl
theorem fo133_3 : fieldOff Try.prog 133 3 = some 13 := by kernel_rfl
theorem fo137_1 : fieldOff Try.prog 137 1 = some 1 := by kernel_rfl
theorem fo33_0 : fieldOff Try.prog 33 0 = some 0 := by kernel_rfl
theorem fo36_1 : fieldOff Try.prog 36 1 = some 1 := by kernel_rfl
theorem mp124 : Try.prog.underlying 124 = some (.map 3 36) := by kernel_rfl
theorem mp131 : Try.prog.underlying 131 = some (.map 31 135) := by kernel_rfl
theorem sz125 : sizeIs Try.prog 125 = some 1 := by kernel_rfl
theorem sz3 : sizeIs Try.prog 3 = some 1 := by kernel_rfl
theorem sz36 : sizeIs Try.prog 36 = some 25 := by kernel_rfl
theorem u_57 : Try.prog.underlying 57 = some (.pointer 127) := by kernel_rfl
theorem zr135 : zeroIs Try.prog 135 = some (.slice none 0 0) := by kernel_rfl
theorem zr36 : zeroIs Try.prog 36 = some (.agg #[.int .i64 0, .int .u64 0, .int .u64 0, .int .u64 0, .int .u64 0, .int .u64 0, .int .u64 0, .int .u64 0, .int .u64 0, .int .u64 0, .int .u64 0, .int .u64 0, .int .u64 0, .int .u64 0, .int .u64 0, .int .u64 0, .int .u64 0, .int .u64 0, .int .u64 0, .int .u64 0, .int .u64 0, .int .u64 0, .int .u64 0, .slice none 0 0, .int .u64 0]) := by kernel_rfl

theorem kvDel_setG {κ β : Type} [DecidableEq κ] {k : κ} {v : β} : ∀ {kv : List (κ × β)}, kvDelG k (kvSetG k v kv) = kvDelG k kv
  | [] => by simp [kvSetG, kvDelG]
  | (x, u) :: r => by
    unfold kvSetG
    split
    · rename_i h; subst h; simp [kvDelG]
    · rename_i h
      simp only [kvDelG, if_neg h]
      rw [kvDel_setG]
theorem map_split {rb : List (Hdr × Bkt)} {l1 l2 : List (Hdr × Value)} {p : Hdr × Value} (h : bkMap rb = l1 ++ p :: l2) : ∃ r1 b r2, rb = r1 ++ b :: r2 ∧ p = (b.1, b.2.v) ∧ l1 ++ l2 = bkMap (r1 ++ r2) := by
  unfold bkMap at h ⊢
  rw [List.map_eq_append_iff] at h
  obtain ⟨r1, r2', e, h1, h2⟩ := h
  rw [List.map_eq_cons_iff] at h2
  obtain ⟨b, r2, e2, h3, h4⟩ := h2
  subst e2
  exact ⟨r1, b, r2, e, h3.symm, by rw [List.map_append, h1, h4]⟩
/-- the greatest of the first ones of some lists -/
structure GMax (l : List (Hdr × Bkt)) (g : Int) : Prop where
  has : ∃ b ∈ l, ∃ f, b.2.l[0]? = some f ∧ f.rank = g
  all : ∀ b ∈ l, ∀ f, b.2.l[0]? = some f → f.rank ≤ g
theorem GMax.one {b : Hdr × Bkt} {f : In} (h : b.2.l[0]? = some f) : GMax [b] f.rank :=
  ⟨⟨b, by simp, f, h, rfl⟩, fun c hc g hg => by simp at hc; subst hc; rw [h] at hg; cases hg; exact Int.le_refl _⟩
theorem GMax.more {l : List (Hdr × Bkt)} {g : Int} {b : Hdr × Bkt} {f : In} (m : GMax l g) (h : b.2.l[0]? = some f) (hg : f.rank > g) : GMax (b :: l) f.rank :=
  ⟨⟨b, by simp, f, h, rfl⟩, fun c hc x hx => by
    rcases List.mem_cons.1 hc with rfl | hc
    · rw [h] at hx; cases hx; exact Int.le_refl _
    · have := m.all c hc x hx; omega⟩
theorem GMax.same {l : List (Hdr × Bkt)} {g : Int} {b : Hdr × Bkt} {f : In} (m : GMax l g) (h : b.2.l[0]? = some f) (hg : ¬ f.rank > g) : GMax (b :: l) g :=
  ⟨by obtain ⟨c, hc, r⟩ := m.has; exact ⟨c, List.mem_cons_of_mem _ hc, r⟩, fun c hc x hx => by
    rcases List.mem_cons.1 hc with rfl | hc
    · rw [h] at hx; cases hx; omega
    · exact m.all c hc x hx⟩
theorem GMax.perm {l m : List (Hdr × Bkt)} {g : Int} (h : GMax l g) (p : l.Perm m) : GMax m g :=
  ⟨by obtain ⟨b, hb, r⟩ := h.has; exact ⟨b, p.mem_iff.1 hb, r⟩, fun b hb => h.all b (p.mem_iff.2 hb)⟩
def dropL (x : RowSt) (val : Hdr) (id : Int) : List In := ((kvGetG val x.bks).getD nilB).l.filter fun k => !decide (k.id = id)
def Bks (x : RowSt) (val : Hdr) (id : Int) (bks1 : List (Hdr × Bkt)) : Prop :=
  (dropL x val id = [] ∧ bks1 = kvDelG val x.bks) ∨ (dropL x val id ≠ [] ∧ ∃ v', bks1 = kvSetG val ⟨v', dropL x val id⟩ x.bks)
structure RowDown (x x' : RowSt) (val : Hdr) (id : Int) : Prop where
  ptr : x'.ptr = x.ptr
  mp : x'.mp = x.mp
  mask : x'.mask = x.mask
  bks : Bks x val id x'.bks
  many : x.many = x'.many + 1
  great : GMax x'.bks x'.greatest
def DropRel (T : TabSt) (id : Int) (T' : TabSt) : Prop :=
  T'.bt = T.bt ∧ T'.mt = T.mt ∧ T'.last = T.last ∧ T'.atl = kvDelG id T.atl ∧ ∃ ru i x, kvGetG id T.atl = some ru ∧ T.rows[i]? = some x ∧ x.mask = ru.mat.mask ∧
    ((x.many = 1 ∧ T'.rows = T.rows.eraseIdx i) ∨ ∃ x', x'.many ≠ 0 ∧ RowDown x x' ru.mat.val id ∧ T'.rows = isort Tc.rowLe (T.rows.set i x'))
theorem idx_there {α : Type} {p : α → Bool} {l : List α} {x : α} (hx : x ∈ l) (hp : p x = true) : ∃ i, l.findIdx? p = some i := by
  cases h : l.findIdx? p with
  | some i => exact ⟨i, rfl⟩
  | none =>
    rw [List.findIdx?_eq_none_iff] at h
    rw [h x hx] at hp; cases hp
theorem bks_nodup {x : RowSt} {val : Hdr} {id : Int} {b : List (Hdr × Bkt)} (h : Bks x val id b) (hn : (x.bks.map (·.1)).Nodup) : (b.map (·.1)).Nodup := by
  rcases h with ⟨_, rfl⟩ | ⟨_, v', rfl⟩
  · exact kvDelG_nodup hn
  · exact kvSetG_nodup hn
theorem bks_mem {x : RowSt} {val : Hdr} {id : Int} {bs : List (Hdr × Bkt)} (h : Bks x val id bs) (hn : (x.bks.map (·.1)).Nodup) {b : Hdr × Bkt} (hb : b ∈ bs) : (b.2.l = dropL x val id ∧ b.2.l ≠ [] ∧ b.1 = val) ∨ (b ∈ x.bks ∧ b.1 ≠ val) := by
  rcases h with ⟨_, rfl⟩ | ⟨h0, v', rfl⟩
  · exact .inr ((kvDelG_mem hn).1 hb)
  · rcases (kvSetG_mem hn).1 hb with rfl | c
    · exact .inl ⟨rfl, h0, rfl⟩
    · exact .inr c
theorem perm_cons {α : Type} {l d r1 r2 : List α} {b : α} (h : l.Perm (d ++ (r1 ++ b :: r2))) : l.Perm ((b :: d) ++ (r1 ++ r2)) := by
  refine h.trans ?_
  rw [← List.append_assoc]
  refine List.perm_middle.trans ?_
  rw [List.append_assoc]; exact List.Perm.refl _
theorem erase_map {α β : Type} {f : α → β} {l : List α} {i : Nat} : (l.map f).eraseIdx i = (l.eraseIdx i).map f := by
  rw [List.eraseIdx_eq_take_drop_succ, List.eraseIdx_eq_take_drop_succ, List.map_append, List.map_take, List.map_drop]
theorem stay_ne {T : TabSt} {id : Int} {ru : Rule} {x : RowSt} (inv : TInv T) (hx : x ∈ T.rows) {bks1 : List (Hdr × Bkt)} (hB : Bks x ru.mat.val id bks1) (h2 : 2 ≤ x.many) : bks1 ≠ [] := by
  have ri := inv.rows x hx
  obtain ⟨y, hy, hym, hyi⟩ : ∃ y ∈ T.atl, y.2.mat.mask = x.mask ∧ y.1 ≠ id := by
    rw [ri.many, List.countP_eq_length_filter] at h2
    match hf : T.atl.filter (fun z => decide (z.2.mat.mask = x.mask)), h2 with
    | [], h2 => rw [hf] at h2; exact absurd h2 (by simp)
    | [a], h2 => rw [hf] at h2; exact absurd h2 (by simp)
    | a :: b :: r, h2 =>
      have ha := List.mem_filter.1 (show a ∈ T.atl.filter (fun z => decide (z.2.mat.mask = x.mask)) by rw [hf]; simp)
      have hb := List.mem_filter.1 (show b ∈ T.atl.filter (fun z => decide (z.2.mat.mask = x.mask)) by rw [hf]; simp)
      have hp := inv.ids.sublist (List.filter_sublist (p := fun z => decide (z.2.mat.mask = x.mask)))
      rw [hf] at hp
      have hlt := (List.pairwise_cons.1 hp).1 b (by simp)
      by_cases c : a.1 = id
      · exact ⟨b, hb.1, by simpa using hb.2, by omega⟩
      · exact ⟨a, ha.1, by simpa using ha.2, c⟩
  obtain ⟨bk, hbk, hk⟩ := ri.cov y hy hym
  intro e
  rcases hB with ⟨h0, rfl⟩ | ⟨_, v', rfl⟩
  · by_cases c : bk.1 = ru.mat.val
    · obtain ⟨_, _, hperm⟩ := ri.bucket bk hbk
      have hin : (⟨y.1, y.2.rank⟩ : In) ∈ bk.2.l := hperm.mem_iff.2 (mem_insOf.2 ⟨y, hy, ⟨hym, hk.symm⟩, rfl⟩)
      have hg : kvGetG ru.mat.val x.bks = some bk.2 := kvGetG_of_mem ri.nodup (by rw [← c]; exact hbk)
      have : (⟨y.1, y.2.rank⟩ : In) ∈ dropL x ru.mat.val id := by
        unfold dropL
        rw [hg]
        exact List.mem_filter.2 ⟨hin, by simpa using hyi⟩
      rw [h0] at this; cases this
    · have : bk ∈ kvDelG ru.mat.val x.bks := (kvDelG_mem ri.nodup).2 ⟨hbk, c⟩
      rw [e] at this; cases this
  · have : (ru.mat.val, (⟨v', dropL x ru.mat.val id⟩ : Bkt)) ∈ kvSetG ru.mat.val ⟨v', dropL x ru.mat.val id⟩ x.bks := (kvSetG_mem ri.nodup).2 (.inl rfl)
    rw [e] at this; cases this

theorem single {w w' : World} {a b : Asn} (r : Run w w' [a] [b]) : Moves w w' a b := Td.single r
theorem own_tl {w w' : World} {a : Asn} {As Bs : List Asn} (r : Run w w' As (a :: Bs)) : Run w w' As (Bs ++ [a]) := Td.own_tl r
theorem zrule_one : ∀ x ∈ (.agg #[.int .i64 0, .int .u64 0, .int .u64 0, .int .u64 0, .int .u64 0, .int .u64 0, .int .u64 0, .int .u64 0, .int .u64 0, .int .u64 0, .int .u64 0, .int .u64 0, .int .u64 0, .int .u64 0, .int .u64 0, .int .u64 0, .int .u64 0, .int .u64 0, .int .u64 0, .int .u64 0, .int .u64 0, .int .u64 0, .int .u64 0, .slice none 0 0, .int .u64 0] : Value).cells.toList, x.oneCell' = true := by
  intro x hx
  simp [Value.cells] at hx
  rcases hx with rfl | rfl | rfl | rfl <;> rfl
theorem ints_one {l : List (IntKind × Int)} : ∀ x ∈ ints l, x.oneCell' = true := by
  intro x hx
  obtain ⟨y, _, rfl⟩ := List.mem_map.1 hx
  rfl
theorem rule_one {ru : Rule} : ∀ x ∈ (ruleV ru).cells.toList, x.oneCell' = true := by
  intro x hx
  exact ruleCells_one (rank := ru.rank) (m := ru.mat) (cv := .slice none 0 0) (ck := ru.cookie) rfl x hx

theorem drop_does {T : TabSt} {id : Int} (w : World) (h : Holds w [tabA T]) (hp : Td.AddPre T) (inv : TInv T) :
    Does Try.prog 33 [.pointer (some ⟨T.bt, 0, none⟩), .int .i64 id] w fun v w' => (kvGetG id T.atl = none ∧ v = .bool false ∧ Fr0 w w') ∨ (v = .bool true ∧ ∃ T', DropRel T id T' ∧ Moves w w' (tabA T) (tabA T')) := by
  obtain ⟨bt, mt, vr, rows, atl, last⟩ := T
  obtain ⟨hlast, hrows, hbks⟩ := hp
  simp only at hlast hrows hbks
  refine Does.enter Try.func33 rfl rfl ?_
  show CW _ _ _ _ 125 [] [(0, .pointer (some ⟨bt, 0, none⟩)), (1, .int .i64 id)] w
  have r1 : Run w w [tabA ⟨bt, mt, vr, rows, atl, last⟩] [pts bt 127 (tabCells vr mt last), mapA mt idK (atMap atl), ownA 130 1 ptrR ptrR_ok vr (rows.map (·.ptr)), star (rows.map rowA)] := (Run.start h).split
  refine CW.seq ?_
  refine CW.region ?_
  refine OW.box rfl rfl ?_
  intro bi w1 n1
  have r2 := r1.newPts n1
  refine OW.assign rfl rfl ?_
  refine OW.nil ?_
  refine NX.seq ?_
  refine CW.seq ?_
  refine CW.seq ?_
  refine CW.region ?_
  refine OW.move rfl rfl ?_
  refine OW.eqlPtrNil rfl u_57 rfl rfl ?_
  refine OW.slot (s := 14) rfl (show _ = Value.bool false from rfl) ?_
  refine OW.nil ?_
  refine NX.seq ?_
  refine CW.condF rfl ?_
  rcases hg : kvGetG id atl with _ | ru
  · have hkv : kvGet id (atMap atl) = none := by
      unfold atMap; rw [kvGet_mapG ruleV, hg]; rfl
    have id0 : ¬ False := fun c => c
    refine CW.skip ?_
    refine NX.seq ?_
    refine CW.seq ?_
    refine CW.drawY [(0, false), (1, false), (2, false), (3, false), (4, false), (5, false), (6, false), (7, false), (8, false), (9, true), (10, true)] [11] (fun z => Fr0 w1 z) MIX (by kernel_rfl) (fun _ h => h) ?_
    intro z1 hz1
    refine XW.val rfl rfl (fun zw hz => OW.move rfl rfl (OW.nil NX.calm)) ?_
    refine XW.val rfl rfl (fun zw hz => OW.nilCheck rfl rfl (OW.nil NX.calm)) ?_
    refine XW.val rfl rfl (fun zw hz => OW.fieldAddr rfl fo127_1 rfl (OW.nil NX.calm)) ?_
    refine XW.val rfl rfl (fun zw hz => OW.load1 rfl ct124 rfl (((r2.get 1 rfl : Bk _ _ _ _).frame hz id0).cell (o := 1) rfl) (OW.nil NX.calm)) ?_
    refine XW.val rfl rfl (fun zw hz => OW.load1 rfl ct3 rfl (((r2.get 0 rfl : Bk _ _ _ _).frame hz id0).cell (o := 0) rfl) (OW.nil NX.calm)) ?_
    refine XW.val rfl rfl (fun zw hz => OW.lookup2 id rfl mp124 Td.idKey zr36 rfl rfl trivial (fun _ _ => trivial) (MapBk.frame (r2.get 2 rfl) hz id0) (OW.nil NX.calm)) ?_
    refine XW.slot (s := 21) rfl (show _ = Value.tuple #[(.agg #[.int .i64 0, .int .u64 0, .int .u64 0, .int .u64 0, .int .u64 0, .int .u64 0, .int .u64 0, .int .u64 0, .int .u64 0, .int .u64 0, .int .u64 0, .int .u64 0, .int .u64 0, .int .u64 0, .int .u64 0, .int .u64 0, .int .u64 0, .int .u64 0, .int .u64 0, .int .u64 0, .int .u64 0, .int .u64 0, .int .u64 0, .slice none 0 0, .int .u64 0]), .bool false] from by rw [hkv]; rfl) ?_
    refine XW.val rfl rfl (fun zw hz => OW.move rfl rfl (OW.nil NX.calm)) ?_
    refine XW.val rfl rfl (fun zw hz => OW.extract rfl rfl rfl (OW.nil NX.calm)) ?_
    refine XW.val rfl rfl (fun zw hz => OW.extract rfl rfl rfl (OW.nil NX.calm)) ?_
    refine XW.does ?_
    have r3 := r2.fr0 hz1
    refine OW.alloc rfl zr36 ?_
    intro br w2 n2
    have r4 := r3.newPts n2
    refine OW.nil (NX.does (hz1.trans n2.fr) ?_)
    refine XW.does ?_
    refine OW.store rfl rfl sz36 (n2.bk) (Nat.le_of_ble_eq_true rfl) (fun x hx => zrule_one x hx) ?_
    intro w3 f3 s3 b3
    have g13 : Fr0 w1 w3 := (hz1.trans n2.fr).trans' f3 (fun k hk c => by subst c; have := n2.fresh; have := hz1.size; omega)
    refine OW.nil (NX.does (g13) ?_)
    have g3 : Fr0 w w3 := n1.fr.trans g13
    refine XW.tail ?_
    refine OW.assign rfl rfl ?_
    refine OW.nil ?_
    refine NX.seq ?_
    refine CW.seq ?_
    refine CW.seq ?_
    refine CW.region ?_
    refine OW.move rfl rfl ?_
    refine OW.not rfl rfl ?_
    refine OW.nil ?_
    refine NX.seq ?_
    refine CW.condB rfl (fun hc => ?_) (fun hc => ?_)
    · refine CW.seq ?_
      refine CW.region ?_
      refine OW.assign rfl rfl ?_
      refine OW.nil ?_
      refine NX.seq ?_
      refine CW.ret ?_
      refine NX.thenRet ?_
      exact NX.ret1 rfl rfl ((.inl ⟨rfl, rfl, g3⟩))
    · cases hc
  · have hkv : kvGet id (atMap atl) = some (ruleV ru) := by
      unfold atMap; rw [kvGet_mapG ruleV, hg]; rfl
    have id0 : ¬ False := fun c => c
    have hmem : (id, ru) ∈ atl := kvGetG_mem hg
    obtain ⟨hok, hwf⟩ := inv.okm _ hmem
    simp only at hok hwf
    refine CW.skip ?_
    refine NX.seq ?_
    refine CW.seq ?_
    refine CW.drawY [(0, false), (1, false), (2, false), (3, false), (4, false), (5, false), (6, false), (7, false), (8, false), (9, true), (10, true)] [11] (fun z => Fr0 w1 z) MIX (by kernel_rfl) (fun _ h => h) ?_
    intro z1 hz1
    refine XW.val rfl rfl (fun zw hz => OW.move rfl rfl (OW.nil NX.calm)) ?_
    refine XW.val rfl rfl (fun zw hz => OW.nilCheck rfl rfl (OW.nil NX.calm)) ?_
    refine XW.val rfl rfl (fun zw hz => OW.fieldAddr rfl fo127_1 rfl (OW.nil NX.calm)) ?_
    refine XW.val rfl rfl (fun zw hz => OW.load1 rfl ct124 rfl (((r2.get 1 rfl : Bk _ _ _ _).frame hz id0).cell (o := 1) rfl) (OW.nil NX.calm)) ?_
    refine XW.val rfl rfl (fun zw hz => OW.load1 rfl ct3 rfl (((r2.get 0 rfl : Bk _ _ _ _).frame hz id0).cell (o := 0) rfl) (OW.nil NX.calm)) ?_
    refine XW.val rfl rfl (fun zw hz => OW.lookup2 id rfl mp124 Td.idKey zr36 rfl rfl trivial (fun _ _ => trivial) (MapBk.frame (r2.get 2 rfl) hz id0) (OW.nil NX.calm)) ?_
    refine XW.slot (s := 21) rfl (show _ = Value.tuple #[(ruleV ru), .bool true] from by rw [hkv]; rfl) ?_
    refine XW.val rfl rfl (fun zw hz => OW.move rfl rfl (OW.nil NX.calm)) ?_
    refine XW.val rfl rfl (fun zw hz => OW.extract rfl rfl rfl (OW.nil NX.calm)) ?_
    refine XW.val rfl rfl (fun zw hz => OW.extract rfl rfl rfl (OW.nil NX.calm)) ?_
    refine XW.does ?_
    have r3 := r2.fr0 hz1
    refine OW.alloc rfl zr36 ?_
    intro br w2 n2
    have r4 := r3.newPts n2
    refine OW.nil (NX.does (hz1.trans n2.fr) ?_)
    refine XW.does ?_
    refine OW.store rfl rfl sz36 (n2.bk) (Nat.le_of_ble_eq_true rfl) (fun x hx => rule_one x hx) ?_
    intro w3 f3 s3 b3
    have e3 : upd ([.int .i64 0, .int .u64 0, .int .u64 0, .int .u64 0, .int .u64 0, .int .u64 0, .int .u64 0, .int .u64 0, .int .u64 0, .int .u64 0, .int .u64 0, .int .u64 0, .int .u64 0, .int .u64 0, .int .u64 0, .int .u64 0, .int .u64 0, .int .u64 0, .int .u64 0, .int .u64 0, .int .u64 0, .int .u64 0, .int .u64 0, .slice none 0 0, .int .u64 0]) 0 (ruleCells ru.rank ru.mat (.slice none 0 0) ru.cookie) = ruleCells ru.rank ru.mat (.slice none 0 0) ru.cookie := upd_all rfl
    have b3' : Bk w3 br 36 (upd ([.int .i64 0, .int .u64 0, .int .u64 0, .int .u64 0, .int .u64 0, .int .u64 0, .int .u64 0, .int .u64 0, .int .u64 0, .int .u64 0, .int .u64 0, .int .u64 0, .int .u64 0, .int .u64 0, .int .u64 0, .int .u64 0, .int .u64 0, .int .u64 0, .int .u64 0, .int .u64 0, .int .u64 0, .int .u64 0, .int .u64 0, .slice none 0 0, .int .u64 0]) 0 (ruleCells ru.rank ru.mat (.slice none 0 0) ru.cookie)) := b3
    rw [e3] at b3'
    have r5 := r4.put 0 rfl (Moves.pts f3 b3')
    have g13 : Fr0 w1 w3 := (hz1.trans n2.fr).trans' f3 (fun k hk c => by subst c; have := n2.fresh; have := hz1.size; omega)
    refine OW.nil (NX.does (g13) ?_)
    refine XW.tail ?_
    refine OW.assign rfl rfl ?_
    refine OW.nil ?_
    refine NX.seq ?_
    refine CW.seq ?_
    refine CW.seq ?_
    refine CW.region ?_
    refine OW.move rfl rfl ?_
    refine OW.not rfl rfl ?_
    refine OW.nil ?_
    refine NX.seq ?_
    refine CW.condB rfl (fun hc => ?_) (fun hc => ?_)
    · cases hc
    · refine CW.skip ?_
      refine NX.seq ?_
      refine CW.seq ?_
      refine CW.drawY [(0, false), (1, false), (2, false), (3, false), (4, false)] [5] (fun z => Fr0 w3 z) MIX (by kernel_rfl) (fun _ h => h) ?_
      intro z2 hz2
      refine XW.val rfl rfl (fun zw hz => OW.move rfl rfl (OW.nil NX.calm)) ?_
      refine XW.val rfl rfl (fun zw hz => OW.nilCheck rfl rfl (OW.nil NX.calm)) ?_
      refine XW.val rfl rfl (fun zw hz => OW.fieldAddr rfl fo127_1 rfl (OW.nil NX.calm)) ?_
      refine XW.val rfl rfl (fun zw hz => OW.load1 rfl ct124 rfl (((r5.get 2 rfl : Bk _ _ _ _).frame hz id0).cell (o := 1) rfl) (OW.nil NX.calm)) ?_
      refine XW.val rfl rfl (fun zw hz => OW.load1 rfl ct3 rfl (((r5.get 1 rfl : Bk _ _ _ _).frame hz id0).cell (o := 0) rfl) (OW.nil NX.calm)) ?_
      refine XW.tail ?_
      have r6 := r5.fr0 hz2
      refine OW.deleteN id mp124 Td.idKey rfl rfl trivial (fun _ _ => trivial) (r6.get 3 rfl) ?_
      intro w5 f5 s5 m5
      have m5' : MapBk w5 mt idK (atMap (kvDelG id atl)) := by
        have := kvDel_mapG (k := id) ruleV atl
        unfold atMap
        rw [← this]; exact m5
      have r7 := r6.put 3 rfl (Moves.map f5 m5')
      have ho5 := Tc.own_rows.1 (r7.get 4 rfl)
      refine OW.nil ?_
      refine NX.seq ?_
      refine CW.seq ?_
      refine CW.region ?_
      refine OW.move rfl rfl ?_
      refine OW.nilCheck rfl rfl ?_
      refine OW.fieldAddr rfl fo127_0 rfl ?_
      refine OW.load1 rfl ct125 rfl ((r7.get 2 rfl : Bk _ _ _ _).cell (o := 0) rfl) ?_
      refine OW.makeFunc (us := []) (vs := [.pointer (some ⟨br, 0, none⟩)]) rfl rfl rfl ?_
      have hrw : ∀ (x : RowSt) (w1 : World), x ∈ rows → Fr0 w5 w1 → Bk w1 x.ptr 133 (rowCells x) := fun x w1 hx f => by
        have h1 : (rowA x).ok w5 := (r7.get 5 rfl) (rowA x) (List.mem_map.2 ⟨x, hx, rfl⟩)
        have h2 : Bk w5 x.ptr 133 (rowCells x) := h1 _ (List.mem_cons_self ..)
        exact h2.frame f id0
      have hbr := (r7.get 0 rfl : Bk _ _ _ _)
      refine OW.call rfl rfl cl64 (Tb.idxRows_does Tc.rowPR_ok (first := #[]) (cap := #[.pointer (some ⟨br, 0, none⟩)]) (pr := fun x : RowSt => decide (x.mask = ru.mat.mask)) ho5 cl73 (by omega) (fun x c w1 hx f hc => by
          have hc : [c] = [_] := hc
          cases hc
          exact Tb.isRowD_does w1 (hrw x w1 hx f) (hbks x hx).1 hwf.2.2.1.2 (hbr.frame f id0))) ?_
      rintro _ w6 ⟨rfl, f6⟩
      have r8 := r7.fr0 f6
      obtain ⟨xr, hxr, hxm'⟩ := inv.cover _ hmem
      obtain ⟨i, hfi⟩ : ∃ i, rows.findIdx? (fun x : RowSt => decide (x.mask = ru.mat.mask)) = some i := idx_there (p := fun x : RowSt => decide (x.mask = ru.mat.mask)) hxr (by simpa using hxm')
      have hidx : Tb.idxI (fun x : RowSt => decide (x.mask = ru.mat.mask)) rows = (i : Nat) := by unfold Tb.idxI; rw [hfi]
      rw [hidx]
      obtain ⟨hil, hpi, _⟩ := List.findIdx?_eq_some_iff_getElem.1 hfi
      obtain ⟨x, hx1, hix⟩ := getL hil
      rw [← hx1] at hpi
      have hxm : x.mask = ru.mat.mask := by simpa using hpi
      have hxmem : x ∈ rows := List.mem_of_getElem? hix
      have ri := inv.rows x hxmem
      have hxp := hbks x hxmem
      obtain ⟨m1, hm1⟩ : ∃ m1, x.many = m1 + 1 := by
        have hpos : 0 < x.many := by
          rw [ri.many]
          exact List.countP_pos_iff.2 ⟨(id, ru), hmem, by simpa using hxm.symm⟩
        exact ⟨x.many - 1, by omega⟩
      obtain ⟨pv, cw, hv, hcap⟩ := (Tc.own_rows.1 (r8.get 4 rfl)).shape
      subst hv
      have hrd := (Tc.own_rows.1 (r8.get 4 rfl)).rd
      obtain ⟨bs, os, hps, hrs⟩ := hrd.at' hil
      subst hps
      obtain ⟨_, sgx, rfl⟩ := hrs i x hix
      refine OW.assign rfl rfl ?_
      refine OW.nil ?_
      refine NX.seq ?_
      refine CW.seq ?_
      refine CW.region ?_
      refine OW.move rfl rfl ?_
      refine OW.nilCheck rfl rfl ?_
      refine OW.fieldAddr rfl fo127_0 rfl ?_
      refine OW.load1 rfl ct125 rfl ((r8.get 2 rfl : Bk _ _ _ _).cell (o := 0) rfl) ?_
      refine OW.move rfl rfl ?_
      refine OW.indexAddr rfl el125 rfl rfl (⟨by omega, by omega⟩) ?_
      refine OW.load1 rfl ct130 rfl (sgx.one 0 rfl) ?_
      have r9 := r8.front 5 rfl
      have r10 := r9.rowOut hix
      have r11 := Run.split (Bs := rowPieces x) r10
      have r12 := r11.front 2 rfl
      have r13 := r12.bktOut ru.mat.val
      obtain ⟨cb, hcb⟩ : ∃ cb, cb = (kvGetG ru.mat.val x.bks).getD nilB := ⟨_, rfl⟩
      have hcl : cb.l.length ≤ 100000 := by
        rw [hcb]
        cases hg : kvGetG ru.mat.val x.bks with
        | none => simp [nilB]
        | some b => exact (hxp.2.2.2.2 _ (kvGetG_mem hg)).2
      rw [← hcb] at r13
      refine OW.assign rfl rfl ?_
      refine OW.nil ?_
      refine NX.seq ?_
      refine CW.seq ?_
      refine CW.drawY [(0, false), (1, false), (2, false), (3, false), (4, false), (5, false), (6, false), (7, false), (8, false)] [9, 10] (fun z => Fr0 w6 z) MIX (by kernel_rfl) (fun _ h => h) ?_
      intro z3 hz3
      refine XW.val rfl rfl (fun zw hz => OW.move rfl rfl (OW.nil NX.calm)) ?_
      refine XW.val rfl rfl (fun zw hz => OW.nilCheck rfl rfl (OW.nil NX.calm)) ?_
      refine XW.val rfl rfl (fun zw hz => OW.fieldAddr rfl fo133_1 rfl (OW.nil NX.calm)) ?_
      refine XW.val rfl rfl (fun zw hz => OW.load1 rfl ct131 rfl (((r13.get 2 rfl : Bk _ _ _ _).frame hz id0).cell (o := 11) rfl) (OW.nil NX.calm)) ?_
      refine XW.val rfl rfl (fun zw hz => OW.fieldAddr rfl fo36_1 rfl (OW.nil NX.calm)) ?_
      refine XW.val rfl rfl (fun zw hz => OW.fieldAddr rfl fo33_0 rfl (OW.nil NX.calm)) ?_
      refine XW.val rfl rfl (fun zw hz => OW.loadA rfl ag31 rfl (((r13.get 5 rfl : Bk _ _ _ _).frame hz id0).segAt 1 ru.mat.val.cells (fun j v e => Tb.val_in_rule j v e)) (rfl) (OW.nil NX.calm)) ?_
      refine XW.val rfl rfl (fun zw hz => OW.lookup ru.mat.val rfl mp131 Td.hdrKey' zr135 rfl rfl (Hdr.lits_wf hwf.2.2.1.1) (Td.bk_wf hxp.2.2.2.2) (MapBk.frame (r13.get 3 rfl) hz id0) (OW.nil NX.calm)) ?_
      refine XW.slot (s := 51) rfl (show _ = cb.v from by rw [Td.bkt_v, ← hcb]) ?_
      refine XW.val rfl rfl (fun zw hz => OW.makeFunc (us := []) (vs := [.pointer (some ⟨bi, 0, none⟩)]) rfl rfl rfl (OW.nil NX.calm)) ?_
      refine XW.tail ?_
      have r14 := r13.fr0 hz3
      have hbi := (r14.get 6 rfl : Bk _ _ _ _)
      have hne : ¬ cb.v.ownBlock = some bi := fun c => r14.holds.apart (i := 0) (j := 6) rfl rfl (by decide) (k := bi) (by simp [bkA, ownA, c]) (by simp [pts])
      refine OW.call rfl rfl cl74 (Th.delFunc_does (first := #[]) (cap := #[.pointer (some ⟨bi, 0, none⟩)]) (pr := fun k => decide (k.id = id)) (show OwnSl 137 2 inR (fun _ => False) _ cb.v cb.l from (r14.get 0 rfl)) cl75 (by omega) (fun y c w1 hy f hc => by
          obtain ⟨rfl, _⟩ := hc
          exact Th.isIn_does w1 (hbi.frame f hne))) ?_
      rintro v8 w8 ⟨o8, f8, g8⟩
      obtain ⟨l, hl⟩ : ∃ l, l = dropL x ru.mat.val id := ⟨_, rfl⟩
      have o8' : OwnSl 137 2 inR (fun _ => False) w8 v8 l := by
        rw [hl]; unfold dropL; rw [← hcb]; exact o8
      have r15 := r14.put 0 rfl (Moves.own (hR := inR_ok) f8 o8' (fun k hk => .inl (g8 k hk)) : Moves _ _ (bkA (ru.mat.val, cb)) (bkA (ru.mat.val, ⟨v8, l⟩)))
      obtain ⟨p8, c8, hv8, hc8⟩ := o8'.shape
      subst hv8
      refine OW.assign rfl rfl ?_
      refine OW.nil ?_
      refine NX.seq ?_
      refine CW.mid (α := List (Hdr × Bkt)) (fun bks1 : List (Hdr × Bkt) => [(0, .pointer (some ⟨bt, 0, none⟩)), (7, .int .i64 ((i : Nat) : Int)), (8, .pointer (some ⟨x.ptr, 0, none⟩))]) (fun (bks1 : List (Hdr × Bkt)) U => Run w U [tabA ⟨bt, mt, (.slice (some ⟨bs, os, none⟩) rows.length cw), rows, atl, last⟩] [star (bks1.map bkA), pts x.ptr 133 (rowCells x), mapA x.mp hdrK (bkMap bks1), star ((rows.eraseIdx i).map rowA), pts bt 127 (tabCells (.slice (some ⟨bs, os, none⟩) rows.length cw) mt last), mapA mt idK (atMap (kvDelG id atl)), ownA 130 1 ptrR ptrR_ok (.slice (some ⟨bs, os, none⟩) rows.length cw) (rows.map (·.ptr))] ∧ Bks x ru.mat.val id bks1) ?_ ?_
      · refine CW.seq ?_
        refine CW.drawY [(0, false), (1, false), (2, false), (3, false), (4, false), (5, false), (6, false), (7, false)] [8] (fun z => Fr0 w8 z) MIX (by kernel_rfl) (fun _ h => h) ?_
        intro z4 hz4
        refine XW.val rfl rfl (fun zw hz => OW.move rfl rfl (OW.nil NX.calm)) ?_
        refine XW.val rfl rfl (fun zw hz => OW.nilCheck rfl rfl (OW.nil NX.calm)) ?_
        refine XW.val rfl rfl (fun zw hz => OW.fieldAddr rfl fo133_1 rfl (OW.nil NX.calm)) ?_
        refine XW.val rfl rfl (fun zw hz => OW.load1 rfl ct131 rfl (((r15.get 2 rfl : Bk _ _ _ _).frame hz id0).cell (o := 11) rfl) (OW.nil NX.calm)) ?_
        refine XW.val rfl rfl (fun zw hz => OW.fieldAddr rfl fo36_1 rfl (OW.nil NX.calm)) ?_
        refine XW.val rfl rfl (fun zw hz => OW.fieldAddr rfl fo33_0 rfl (OW.nil NX.calm)) ?_
        refine XW.val rfl rfl (fun zw hz => OW.loadA rfl ag31 rfl (((r15.get 5 rfl : Bk _ _ _ _).frame hz id0).segAt 1 ru.mat.val.cells (fun j v e => Tb.val_in_rule j v e)) (rfl) (OW.nil NX.calm)) ?_
        refine XW.val rfl rfl (fun zw hz => OW.move rfl rfl (OW.nil NX.calm)) ?_
        refine XW.tail ?_
        have r16 := r15.fr0 hz4
        refine OW.mapUpdate ru.mat.val mp131 Td.hdrKey' rfl rfl rfl (Hdr.lits_wf hwf.2.2.1.1) (Td.bk_wf hxp.2.2.2.2) (r16.get 3 rfl) ?_
        intro w16 f16 s16 m16
        have m16' : MapBk w16 x.mp hdrK (bkMap (kvSetG ru.mat.val ⟨.slice p8 l.length c8, l⟩ x.bks)) := by
          have := kvSet_mapG (k := ru.mat.val) Bkt.v ⟨.slice p8 l.length c8, l⟩ x.bks
          unfold bkMap
          rw [← this]; exact m16
        have r17 := r16.put 3 rfl (Moves.map f16 m16')
        refine OW.nil ?_
        refine NX.seq ?_
        refine CW.seq ?_
        refine CW.region ?_
        refine OW.move rfl rfl ?_
        refine OW.len rfl el135 rfl ?_
        refine OW.eql rfl rfl rfl ?_
        refine OW.nil ?_
        refine NX.seq ?_
        refine CW.cond rfl (fun hl0 => ?_) (fun hl0 => ?_)
        · refine CW.drawY [(0, false), (1, false), (2, false), (3, false), (4, false), (5, false), (6, false)] [7] (fun z => Fr0 w16 z) MIX (by kernel_rfl) (fun _ h => h) ?_
          intro z5 hz5
          refine XW.val rfl rfl (fun zw hz => OW.move rfl rfl (OW.nil NX.calm)) ?_
          refine XW.val rfl rfl (fun zw hz => OW.nilCheck rfl rfl (OW.nil NX.calm)) ?_
          refine XW.val rfl rfl (fun zw hz => OW.fieldAddr rfl fo133_1 rfl (OW.nil NX.calm)) ?_
          refine XW.val rfl rfl (fun zw hz => OW.load1 rfl ct131 rfl (((r17.get 2 rfl : Bk _ _ _ _).frame hz id0).cell (o := 11) rfl) (OW.nil NX.calm)) ?_
          refine XW.val rfl rfl (fun zw hz => OW.fieldAddr rfl fo36_1 rfl (OW.nil NX.calm)) ?_
          refine XW.val rfl rfl (fun zw hz => OW.fieldAddr rfl fo33_0 rfl (OW.nil NX.calm)) ?_
          refine XW.val rfl rfl (fun zw hz => OW.loadA rfl ag31 rfl (((r17.get 5 rfl : Bk _ _ _ _).frame hz id0).segAt 1 ru.mat.val.cells (fun j v e => Tb.val_in_rule j v e)) (rfl) (OW.nil NX.calm)) ?_
          refine XW.tail ?_
          have r18 := r17.fr0 hz5
          have hset : ∀ p ∈ bkMap (kvSetG ru.mat.val ⟨.slice p8 l.length c8, l⟩ x.bks), intsWf p.1.lits := by
            intro p hp
            obtain ⟨b, hb, rfl⟩ := List.mem_map.1 hp
            rcases (kvSetG_mem hxp.2.2.2.1).1 hb with rfl | ⟨hb, _⟩
            · exact Hdr.lits_wf hwf.2.2.1.1
            · exact Hdr.lits_wf (hxp.2.2.2.2 b hb).1
          refine OW.deleteN ru.mat.val mp131 Td.hdrKey' rfl rfl (Hdr.lits_wf hwf.2.2.1.1) hset (r18.get 3 rfl) ?_
          intro w17 f17 s17 m17
          have hl0' : dropL x ru.mat.val id = [] := by rw [← hl]; exact List.eq_nil_of_length_eq_zero (by omega)
          have m17' : MapBk w17 x.mp hdrK (bkMap (kvDelG ru.mat.val x.bks)) := by
            have := kvDel_mapG (k := ru.mat.val) Bkt.v (kvSetG ru.mat.val ⟨.slice p8 l.length c8, l⟩ x.bks)
            rw [kvDel_setG] at this
            unfold bkMap
            rw [← this]; exact m17
          have r19 := r18.put 3 rfl (Moves.map f17 m17')
          refine OW.nil ?_
          have r20 := r19.front 0 rfl
          have r21 := r20.drop
          have r22 := r21.front 4 rfl
          have r23 := r22.drop
          have r24 := r23.front 4 rfl
          have r25 := r24.drop
          have r26 := r25.front 6 rfl
          have r27 := r26.front 6 rfl
          have r28 := r27.front 6 rfl
          have r29 := r28.front 6 rfl
          have r30 := r29.front 6 rfl
          have r31 := r30.front 6 rfl
          have r32 := r31.front 6 rfl
          exact NX.mid (kvDelG ru.mat.val x.bks) ((Sub.cons rfl (Sub.cons rfl (Sub.cons rfl (Sub.nil _))))) (⟨r32, .inl ⟨hl0', rfl⟩⟩)
        · refine CW.skip ?_
          have r18 := r17.bktIn hxp.2.2.2.1
          have r19 := r18.front 4 rfl
          have r20 := r19.drop
          have r21 := r20.front 4 rfl
          have r22 := r21.drop
          have r23 := r22.front 6 rfl
          have r24 := r23.front 6 rfl
          have r25 := r24.front 6 rfl
          have r26 := r25.front 6 rfl
          have r27 := r26.front 6 rfl
          have r28 := r27.front 6 rfl
          have r29 := r28.front 6 rfl
          exact NX.mid (kvSetG ru.mat.val ⟨.slice p8 l.length c8, l⟩ x.bks) ((Sub.cons rfl (Sub.cons rfl (Sub.cons rfl (Sub.nil _))))) (⟨r29, .inr ⟨fun c => hl0 (by rw [hl, c]; rfl), .slice p8 l.length c8, by rw [← hl]⟩⟩)
      · rintro bks1 W ⟨rr, hB⟩
        have hnd := bks_nodup hB ri.nodup
        refine CW.seq ?_
        refine CW.seq ?_
        refine CW.region ?_
        refine OW.move rfl rfl ?_
        refine OW.nilCheck rfl rfl ?_
        refine OW.fieldAddr rfl fo133_3 rfl ?_
        refine OW.load1 rfl ct3 rfl ((rr.get 1 rfl : Bk _ _ _ _).cell (o := 13) rfl) ?_
        refine OW.sub' rfl rfl rfl (by omega) ?_
        refine OW.slot (s := 76) rfl (congrArg (Value.int .i64) (show (_ : Int) = ((m1 : Nat) : Int) by omega)) ?_
        refine OW.nilCheck rfl rfl ?_
        refine OW.fieldAddr rfl fo133_3 rfl ?_
        refine OW.store rfl rfl sz3 ((rr.get 1 rfl : Bk _ _ _ _)) (Nat.le_of_ble_eq_true rfl) (fun x hx => by simp [Value.cells] at hx; subst hx; rfl) ?_
        intro w18 f18 s18 b18
        have r41 := rr.put 1 rfl (Moves.pts (cs' := x.mask.cells ++ [.map (some x.mp), .int .i64 x.greatest, .int .i64 (m1 : Nat)]) f18 b18)
        refine OW.nil ?_
        refine NX.seq ?_
        refine CW.seq ?_
        refine CW.region ?_
        refine OW.move rfl rfl ?_
        refine OW.nilCheck rfl rfl ?_
        refine OW.fieldAddr rfl fo133_3 rfl ?_
        refine OW.load1 rfl ct3 rfl ((r41.get 1 rfl : Bk _ _ _ _).cell (o := 13) rfl) ?_
        refine OW.eql rfl rfl rfl ?_
        refine OW.nil ?_
        refine NX.seq ?_
        refine CW.cond rfl (fun hm0 => ?_) (fun hm0 => ?_)
        · refine CW.seq ?_
          refine CW.region ?_
          refine OW.move rfl rfl ?_
          refine OW.move rfl rfl ?_
          refine OW.nilCheck rfl rfl ?_
          refine OW.fieldAddr rfl fo127_0 rfl ?_
          refine OW.load1 rfl ct125 rfl ((r41.get 4 rfl : Bk _ _ _ _).cell (o := 0) rfl) ?_
          refine OW.move rfl rfl ?_
          refine OW.move rfl rfl ?_
          refine OW.add rfl rfl rfl (by omega) ?_
          refine OW.call rfl rfl cl76 (Th.delRow_does (i := i) (r41.get 6 rfl) (by simpa using hil) (by simpa using Nat.le_trans hrows (by decide))) ?_
          rintro v9 w9 ⟨o9, f9, g9⟩
          have r42 := r41.put 6 rfl (Moves.own (hR := ptrR_ok) f9 o9 (fun k hk => .inl (g9 k hk)))
          refine OW.nilCheck rfl rfl ?_
          refine OW.fieldAddr rfl fo127_0 rfl ?_
          refine OW.store (v := v9) rfl rfl (by rw [o9.cells1]; exact sz125) ((r42.get 4 rfl : Bk _ _ _ _)) (by rw [o9.cells1]; exact Nat.le_of_ble_eq_true rfl) (fun x hx => by rw [o9.cells1] at hx; simp at hx; subst hx; exact o9.one) ?_
          intro w12 f12 s12 b12
          have b12' : Bk w12 bt 127 (tabCells v9 mt last) := by
            rw [o9.cells1] at b12; exact b12
          have r43 := r42.put 4 rfl (Moves.pts f12 b12')
          have r44 := r43.front 0 rfl
          have r45 := r44.drop
          have r46 := r45.front 0 rfl
          have r47 := r46.drop
          have r48 := r47.front 0 rfl
          have r49 := r48.drop
          have r50 := r49.front 0 rfl
          have r51 := r50.front 3 rfl
          have r52 := r51.front 3 rfl
          have r53 := r52.front 3 rfl
          have e9 : (rows.map (·.ptr)).eraseIdx i = (rows.eraseIdx i).map (·.ptr) := erase_map
          rw [e9] at r53
          have r96 : Run w w12 [tabA ⟨bt, mt, .slice (some ⟨bs, os, none⟩) rows.length cw, rows, atl, last⟩] (tabPieces ⟨bt, mt, v9, rows.eraseIdx i, kvDelG id atl, last⟩ ++ []) := r53
          have r97 := single r96.join
          refine OW.nil ?_
          refine NX.seq ?_
          refine CW.seq ?_
          refine CW.region ?_
          refine OW.assign rfl rfl ?_
          refine OW.nil ?_
          refine NX.seq ?_
          refine CW.ret ?_
          refine NX.thenRet ?_
          exact NX.ret1 rfl rfl ((.inr ⟨rfl, ⟨bt, mt, v9, rows.eraseIdx i, kvDelG id atl, last⟩, ⟨rfl, rfl, rfl, rfl, ru, i, x, hg, hix, hxm, .inl ⟨by omega, rfl⟩⟩, r97⟩))
        · have hmm := (r41.get 2 rfl)
          refine CW.skip ?_
          refine NX.seq ?_
          refine CW.seq ?_
          refine CW.region ?_
          refine OW.assign rfl rfl ?_
          refine OW.nil ?_
          refine NX.seq ?_
          refine CW.seq ?_
          refine CW.seq ?_
          refine CW.region ?_
          refine OW.move rfl rfl ?_
          refine OW.nilCheck rfl rfl ?_
          refine OW.fieldAddr rfl fo133_1 rfl ?_
          refine OW.load1 rfl ct131 rfl ((r41.get 1 rfl : Bk _ _ _ _).cell (o := 11) rfl) ?_
          refine OW.rangeMap rfl mp131 rfl hmm ?_
          intro it w19 hge hlt f19 hit
          have mv := Moves.range f19 hmm hit hge
          have r42 := r41.put 2 rfl mv
          refine OW.nil ?_
          refine NX.seq ?_
          refine CW.block ?_
          refine CW.loop (α := List (Hdr × Bkt) × List (Hdr × Bkt) × Int × Option (Hdr × Value)) (fun s : List (Hdr × Bkt) × List (Hdr × Bkt) × Int × Option (Hdr × Value) => [(0, .pointer (some ⟨bt, 0, none⟩)), (8, .pointer (some ⟨x.ptr, 0, none⟩)), (10, .bool s.1.isEmpty), (99, .pointer (some ⟨it, 0, none⟩))]) (fun (s : List (Hdr × Bkt) × List (Hdr × Bkt) × Int × Option (Hdr × Value)) U => Run w U [tabA ⟨bt, mt, (.slice (some ⟨bs, os, none⟩) rows.length cw), rows, atl, last⟩] [star (bks1.map bkA), pts x.ptr 133 (x.mask.cells ++ [Value.map (some x.mp), Value.int .i64 s.2.2.1, Value.int .i64 (m1 : Nat)]), iterA it x.mp hdrK (bkMap bks1) (bkMap s.2.1) s.2.2.2, star ((rows.eraseIdx i).map rowA), pts bt 127 (tabCells (.slice (some ⟨bs, os, none⟩) rows.length cw) mt last), mapA mt idK (atMap (kvDelG id atl)), ownA 130 1 ptrR ptrR_ok (.slice (some ⟨bs, os, none⟩) rows.length cw) (rows.map (·.ptr))] ∧ bks1.Perm (s.1 ++ s.2.1) ∧ (s.1 ≠ [] → GMax s.1 s.2.2.1)) (fun s : List (Hdr × Bkt) × List (Hdr × Bkt) × Int × Option (Hdr × Value) => s.2.1.length) ([], bks1, x.greatest, none) (Sub.cons rfl (Sub.cons rfl (Sub.cons rfl (Sub.cons rfl (Sub.nil _))))) ⟨r42, List.Perm.refl _, fun c => absurd rfl c⟩ ?_
          rintro ⟨dn, rb, G, la⟩ U ⟨rl, hperm, hG⟩
          simp only at rl hperm hG
          refine CW.seq ?_
          refine CW.region ?_
          have hia : it ≠ x.mp ∧ IterAt U it x.mp hdrK (bkMap bks1) (bkMap rb) la := (rl.get 2 rfl)
          refine OW.next rfl rfl hia.2 hia.1 ?_ ?_
          · intro hrb U' fU hi2
            have r61 := rl.fr0 fU
            refine OW.extract rfl rfl rfl ?_
            refine OW.nil ?_
            refine NX.seq ?_
            refine CW.seq ?_
            refine CW.condF rfl ?_
            have hrb0 : rb = [] := by
              have : bkMap rb = [] := hrb
              unfold bkMap at this
              simpa using this
            subst hrb0
            rw [List.append_nil] at hperm
            have hdn : dn ≠ [] := by
              intro c
              rw [c] at hperm
              have hb0 := hperm.eq_nil
              exact stay_ne inv hxmem hB (by omega) hb0
            have hgm : GMax bks1 G := (hG hdn).perm hperm.symm
            have r62 := r61.put 2 rfl (Moves.ended hi2 (by unfold bkMap; rw [List.map_map]; exact hnd))
            have r63 := r62.front 6 rfl
            have r64 := r63.front 6 rfl
            have r65 := r64.front 6 rfl
            have r66 := r65.front 6 rfl
            have r67 := r66.front 4 rfl
            have r68 := r67.front 6 rfl
            have r69 := r68.front 6 rfl
            obtain ⟨x', hx'⟩ : ∃ x' : RowSt, x' = ⟨x.ptr, x.mp, x.mask, bks1, G, m1⟩ := ⟨_, rfl⟩
            have r89 : Run w U' [tabA ⟨bt, mt, (.slice (some ⟨bs, os, none⟩) rows.length cw), rows, atl, last⟩] (rowPieces x' ++ [star ((rows.eraseIdx i).map rowA), pts bt 127 (tabCells (.slice (some ⟨bs, os, none⟩) rows.length cw) mt last), mapA mt idK (atMap (kvDelG id atl)), ownA 130 1 ptrR ptrR_ok (.slice (some ⟨bs, os, none⟩) rows.length cw) (rows.map (·.ptr))]) := by
              unfold rowPieces
              rw [hx']
              exact r69
            have r90 : Run w U' [tabA ⟨bt, mt, (.slice (some ⟨bs, os, none⟩) rows.length cw), rows, atl, last⟩] (rowA x' :: _) := r89.join
            have r91 := r90.rowIn hil
            have hptr : (rows.set i x').map (·.ptr) = rows.map (·.ptr) := by
              rw [List.map_set, hx']
              apply List.ext_getElem?
              intro j
              rw [List.getElem?_set]
              split
              · rename_i e; subst e; simp [hil, (List.getElem?_eq_some_iff.1 hix).2]
              · rfl
            have hlen : (rows.set i x').length = rows.length := List.length_set
            obtain ⟨rows2, hr2⟩ : ∃ rows2, rows2 = rows.set i x' := ⟨_, rfl⟩
            rw [← hr2] at r91 hptr hlen
            rw [← hptr] at r91
            have ho2 := Tc.own_rows.1 (r91.get 3 rfl)
            have hb2 : ∀ y ∈ rows2, Bk U' y.ptr 133 (rowCells y) := fun y hy => (show (rowA y).ok U' from (r91.get 0 rfl) (rowA y) (List.mem_map.2 ⟨y, hy, rfl⟩)) _ (List.mem_cons_self ..)
            have hd2 : ∀ y ∈ rows2, ¬ (Value.slice (some ⟨bs, os, none⟩) rows.length cw).ownBlock = some y.ptr := fun y hy c => r91.holds.apart (i := 3) (j := 0) rfl rfl (by decide) (k := y.ptr) (by simp [ownA, c]) (List.mem_flatMap.2 ⟨rowA y, List.mem_map.2 ⟨y, hy, rfl⟩, by simp [rowA, star, fps, rowPieces, pts]⟩)
            refine CW.exit ?_
            refine NX.thenExit ?_
            refine NX.thenExit ?_
            refine NX.blockEq ?_
            refine NX.seq ?_
            refine CW.seq ?_
            refine CW.region ?_
            refine OW.move rfl rfl ?_
            refine OW.call rfl rfl cl70 (Tc.order_does (r91.get 1 rfl : Bk _ _ _ _) ho2 (by omega) hb2 hd2) ?_
            rintro _ w22 ⟨o22, f22⟩
            have o22' := Tc.own_rows.2 o22
            have r92 := r91.put 3 rfl (Moves.own (hR := ptrR_ok) f22 o22' (fun k hk => .inl hk))
            have r93 := Run.starPerm r92 ((isort_perm Tc.rowLe rows2).symm.map rowA)
            have r95 := own_tl r93
            have r96 : Run w w22 [tabA ⟨bt, mt, (.slice (some ⟨bs, os, none⟩) rows.length cw), rows, atl, last⟩] (tabPieces ⟨bt, mt, .slice (some ⟨bs, os, none⟩) rows.length cw, isort Tc.rowLe rows2, kvDelG id atl, last⟩ ++ []) := r95
            have r97 := single r96.join
            refine OW.nil ?_
            refine NX.seq ?_
            refine CW.seq ?_
            refine CW.region ?_
            refine OW.assign rfl rfl ?_
            refine OW.nil ?_
            refine NX.seq ?_
            refine CW.ret ?_
            exact NX.ret1 rfl rfl ((.inr ⟨rfl, ⟨bt, mt, .slice (some ⟨bs, os, none⟩) rows.length cw, isort Tc.rowLe rows2, kvDelG id atl, last⟩, ⟨rfl, rfl, rfl, rfl, ru, i, x, hg, hix, hxm, .inr ⟨x', by rw [hx']; show m1 ≠ 0; omega, ⟨by rw [hx'], by rw [hx'], by rw [hx'], by rw [hx']; exact hB, by rw [hx']; exact hm1, by rw [hx']; exact hgm⟩, by rw [hr2]⟩⟩, r97⟩))
          · intro l1 p l2 U' hrb fU sU hi2
            obtain ⟨r1, b, r2, hrb2, rfl, hll⟩ := map_split hrb
            rw [hll] at hi2
            have r61 := rl.put 2 rfl (Moves.next fU hi2 hia.1)
            refine OW.extract rfl rfl rfl ?_
            refine OW.nil ?_
            refine NX.seq ?_
            refine CW.seq ?_
            refine CW.condT rfl ?_
            refine CW.skip ?_
            refine NX.seq ?_
            refine CW.block ?_
            refine CW.seq ?_
            refine CW.region ?_
            refine OW.entry rfl rfl hi2 ?_
            have hp2 : bks1.Perm ((b :: dn) ++ (r1 ++ r2)) := perm_cons (by rw [← hrb2]; exact hperm)
            have hbm : b ∈ bks1 := hp2.mem_iff.2 (by simp)
            have hbo : OwnSl 137 2 inR (fun _ => False) U' b.2.v b.2.l := (r61.get 0 rfl) (bkA b) (List.mem_map.2 ⟨_, hbm, rfl⟩)
            have hne : b.2.l ≠ [] := by
              rcases bks_mem hB ri.nodup hbm with ⟨_, c, _⟩ | ⟨c, _⟩
              · exact c
              · exact (ri.bucket b c).1
            obtain ⟨pb, cb2, hbv, hcb2⟩ := hbo.shape
            have hbr2 := hbo.rd
            have h0l : 0 < b.2.l.length := List.length_pos_iff.2 hne
            obtain ⟨f, hf1, hf2⟩ := getL h0l
            rw [hbv] at hbr2
            obtain ⟨bb, ob, hpb, hrb3⟩ := hbr2.at' h0l
            subst hpb
            obtain ⟨_, sgf, rfl, hfo⟩ := hrb3 0 f hf2
            refine OW.extract rfl rfl rfl ?_
            refine OW.slot (s := 103) rfl (show _ = Value.slice (some ⟨bb, ob, none⟩) b.2.l.length cb2 from hbv) ?_
            refine OW.assign rfl rfl ?_
            refine OW.nil ?_
            refine NX.seq ?_
            rcases dn with _ | ⟨d0, ds⟩
            · have id0 : ¬ False := fun c => c
              refine CW.seq ?_
              refine CW.seq ?_
              refine CW.drawY [(0, false), (1, false), (2, false), (3, false), (4, false), (5, false), (6, false), (7, false), (8, false), (9, false)] [10, 11] (fun z => Fr0 U' z) MIX (by kernel_rfl) (fun _ h => h) ?_
              intro z4 hz4
              refine XW.val rfl rfl (fun zw hz => OW.move rfl rfl (OW.nil NX.calm)) ?_
              refine XW.val rfl rfl (fun zw hz => OW.move rfl rfl (OW.nil NX.calm)) ?_
              refine XW.gno rfl rfl rfl rfl ?_
              refine XW.gno rfl rfl rfl rfl ?_
              refine XW.gno rfl rfl rfl rfl ?_
              refine XW.gno rfl rfl rfl rfl ?_
              refine XW.gno rfl rfl rfl rfl ?_
              refine XW.gno rfl rfl rfl rfl ?_
              refine XW.gno rfl rfl rfl rfl ?_
              refine XW.gno rfl rfl rfl rfl ?_
              refine XW.tail ?_
              refine OW.gnoD rfl rfl rfl rfl ?_
              refine OW.pickT rfl rfl rfl ?_
              refine OW.nil ?_
              refine NX.seq ?_
              have r62 := r61.fr0 hz4
              have gU := hz4
              refine CW.condT rfl ?_
              refine CW.region ?_
              refine OW.move rfl rfl ?_
              refine OW.move rfl rfl ?_
              refine OW.indexAddr rfl el135 rfl rfl (⟨by decide, by omega⟩) ?_
              refine OW.fieldAddr rfl fo137_1 rfl ?_
              refine OW.load1 rfl ct3 rfl (Te.first_rank (sgf.frame gU id0)) ?_
              refine OW.nilCheck rfl rfl ?_
              refine OW.fieldAddr rfl fo133_2 rfl ?_
              refine OW.store rfl rfl sz3 ((r62.get 1 rfl : Bk _ _ _ _)) (Nat.le_of_ble_eq_true rfl) (fun x hx => by simp [Value.cells] at hx; subst hx; rfl) ?_
              intro w21 f21 s21 b21
              have r63 := r62.put 1 rfl (Moves.pts (cs' := x.mask.cells ++ [.map (some x.mp), .int .i64 f.rank, .int .i64 (m1 : Nat)]) f21 b21)
              refine OW.nil ?_
              refine NX.seq ?_
              refine CW.region ?_
              refine OW.assign rfl rfl ?_
              refine OW.nil ?_
              refine NX.blockN ?_
              exact NX.loop ((b :: [], r1 ++ r2, f.rank, some (b.1, b.2.v))) ((Sub.cons rfl (Sub.cons rfl (Sub.cons rfl (Sub.cons rfl (Sub.nil _)))))) (⟨r63, hp2, fun _ => GMax.one hf2⟩) (by show (r1 ++ r2).length < rb.length; rw [hrb2]; simp only [List.length_append, List.length_cons]; omega)
            · have id0 : ¬ False := fun c => c
              refine CW.seq ?_
              refine CW.seq ?_
              refine CW.drawY [(0, false), (1, false), (2, false), (3, false), (4, false), (5, false), (6, false), (7, false), (8, false), (9, false)] [10, 11] (fun z => Fr0 U' z) MIX (by kernel_rfl) (fun _ h => h) ?_
              intro z4 hz4
              refine XW.val rfl rfl (fun zw hz => OW.move rfl rfl (OW.nil NX.calm)) ?_
              refine XW.val rfl rfl (fun zw hz => OW.move rfl rfl (OW.nil NX.calm)) ?_
              refine XW.val rfl rfl (fun zw hz => OW.gyes rfl rfl (OW.move rfl rfl (OW.nil NX.calm))) ?_
              refine XW.val rfl rfl (fun zw hz => OW.gyes rfl rfl (OW.indexAddr rfl el135 rfl rfl (⟨by decide, by omega⟩) (OW.nil NX.calm))) ?_
              refine XW.val rfl rfl (fun zw hz => OW.gyes rfl rfl (OW.fieldAddr rfl fo137_1 rfl (OW.nil NX.calm))) ?_
              refine XW.val rfl rfl (fun zw hz => OW.gyes rfl rfl (OW.load1 rfl ct3 rfl (Te.first_rank (sgf.frame hz id0)) (OW.nil NX.calm))) ?_
              refine XW.val rfl rfl (fun zw hz => OW.gyes rfl rfl (OW.move rfl rfl (OW.nil NX.calm))) ?_
              refine XW.val rfl rfl (fun zw hz => OW.gyes rfl rfl (OW.nilCheck rfl rfl (OW.nil NX.calm))) ?_
              refine XW.val rfl rfl (fun zw hz => OW.gyes rfl rfl (OW.fieldAddr rfl fo133_2 rfl (OW.nil NX.calm))) ?_
              refine XW.val rfl rfl (fun zw hz => OW.gyes rfl rfl (OW.load1 rfl ct3 rfl (((r61.get 1 rfl : Bk _ _ _ _).frame hz id0).cell (o := 12) rfl) (OW.nil NX.calm))) ?_
              refine XW.tail ?_
              refine OW.gyes rfl rfl ?_
              refine OW.gtr rfl rfl rfl ?_
              refine OW.pickF rfl rfl rfl ?_
              refine OW.nil ?_
              refine NX.seq ?_
              have r62 := r61.fr0 hz4
              have gU := hz4
              refine CW.cond rfl (fun hgt => ?_) (fun hgt => ?_)
              · refine CW.region ?_
                refine OW.move rfl rfl ?_
                refine OW.move rfl rfl ?_
                refine OW.indexAddr rfl el135 rfl rfl (⟨by decide, by omega⟩) ?_
                refine OW.fieldAddr rfl fo137_1 rfl ?_
                refine OW.load1 rfl ct3 rfl (Te.first_rank (sgf.frame gU id0)) ?_
                refine OW.nilCheck rfl rfl ?_
                refine OW.fieldAddr rfl fo133_2 rfl ?_
                refine OW.store rfl rfl sz3 ((r62.get 1 rfl : Bk _ _ _ _)) (Nat.le_of_ble_eq_true rfl) (fun x hx => by simp [Value.cells] at hx; subst hx; rfl) ?_
                intro w21 f21 s21 b21
                have r63 := r62.put 1 rfl (Moves.pts (cs' := x.mask.cells ++ [.map (some x.mp), .int .i64 f.rank, .int .i64 (m1 : Nat)]) f21 b21)
                refine OW.nil ?_
                refine NX.seq ?_
                refine CW.region ?_
                refine OW.assign rfl rfl ?_
                refine OW.nil ?_
                refine NX.blockN ?_
                exact NX.loop ((b :: (d0 :: ds), r1 ++ r2, f.rank, some (b.1, b.2.v))) ((Sub.cons rfl (Sub.cons rfl (Sub.cons rfl (Sub.cons rfl (Sub.nil _)))))) (⟨r63, hp2, fun _ => (hG (by simp)).more hf2 hgt⟩) (by show (r1 ++ r2).length < rb.length; rw [hrb2]; simp only [List.length_append, List.length_cons]; omega)
              · refine CW.skip ?_
                refine NX.seq ?_
                refine CW.region ?_
                refine OW.assign rfl rfl ?_
                refine OW.nil ?_
                refine NX.blockN ?_
                exact NX.loop ((b :: (d0 :: ds), r1 ++ r2, G, some (b.1, b.2.v))) ((Sub.cons rfl (Sub.cons rfl (Sub.cons rfl (Sub.cons rfl (Sub.nil _)))))) (⟨r62, hp2, fun _ => (hG (by simp)).same hf2 hgt⟩) (by show (r1 ++ r2).length < rb.length; rw [hrb2]; simp only [List.length_append, List.length_cons]; omega)

end Go.Eng.Ti
