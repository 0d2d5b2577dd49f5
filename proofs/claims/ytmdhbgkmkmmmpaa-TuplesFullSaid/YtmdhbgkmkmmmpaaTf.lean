/-
  Tables of package tuples as a whole; law 9's wakes.
  No condition.
-/
import Derived.Test.YtmdhbgkmkmmmpaaTe
import Derived.Test.YtmdhbgkmkmmmpaaTupM
import Derived.Test.YtmdhbgkmkmmmpaaEngY
import Derived.Test.YtmdhbgkmkmmmpaaProg
import Derived.KernelRfl
namespace Go.Eng.Tf
open Go Go.Eng Go.Proofs
theorem MIX : Try.prog.follows .mixedOrders = true := by kernel_rfl

theorem ar31 : arrIs Try.prog 31 = some (11, 29, 1) := by kernel_rfl
theorem cl27 : callable Try.prog 27 = true := by kernel_rfl
theorem cl28 : callable Try.prog 28 = true := by kernel_rfl
theorem cl29 : callable Try.prog 29 = true := by kernel_rfl
theorem cl36 : callable Try.prog 36 = true := by kernel_rfl
theorem pl33 : placesIs Try.prog 33 = some [(0, 11), (11, 11)] := by kernel_rfl
theorem pl36 : placesIs Try.prog 36 = some [(0, 1), (1, 22), (23, 1), (24, 1)] := by kernel_rfl
theorem zr31 : zeroIs Try.prog 31 = some (.agg #[.int .u64 0, .int .u64 0, .int .u64 0, .int .u64 0, .int .u64 0, .int .u64 0, .int .u64 0, .int .u64 0, .int .u64 0, .int .u64 0, .int .u64 0]) := by kernel_rfl
theorem zr33 : zeroIs Try.prog 33 = some (.agg #[.int .u64 0, .int .u64 0, .int .u64 0, .int .u64 0, .int .u64 0, .int .u64 0, .int .u64 0, .int .u64 0, .int .u64 0, .int .u64 0, .int .u64 0, .int .u64 0, .int .u64 0, .int .u64 0, .int .u64 0, .int .u64 0, .int .u64 0, .int .u64 0, .int .u64 0, .int .u64 0, .int .u64 0, .int .u64 0]) := by kernel_rfl
theorem zr36 : zeroIs Try.prog 36 = some (.agg #[.int .i64 0, .int .u64 0, .int .u64 0, .int .u64 0, .int .u64 0, .int .u64 0, .int .u64 0, .int .u64 0, .int .u64 0, .int .u64 0, .int .u64 0, .int .u64 0, .int .u64 0, .int .u64 0, .int .u64 0, .int .u64 0, .int .u64 0, .int .u64 0, .int .u64 0, .int .u64 0, .int .u64 0, .int .u64 0, .int .u64 0, .slice none 0 0, .int .u64 0]) := by kernel_rfl

def AddOut (T : TabSt) (ru : Rule) (v : Value) (T' : TabSt) : Prop :=
  (matOk ru.mat = false ∧ v = .tuple #[.int .i64 0, .int .i64 20] ∧ T' = T) ∨ (matOk ru.mat = true ∧ 1024 ≤ T.atl.length ∧ v = .tuple #[.int .i64 0, .int .i64 4] ∧ T' = T) ∨
  (matOk ru.mat = true ∧ T.atl.length < 1024 ∧ v = .tuple #[.int .i64 (T.last + 1), .int .i64 0] ∧ T'.atl = T.atl ++ [(T.last + 1, Td.r0 ru)] ∧ T'.last = T.last + 1)
theorem add_spec {T : TabSt} {ru : Rule} {X : Nat → Prop} {rc : List Value} (w : World) (h : Holds w [tabA T]) (inv : TInv T) (hl : T.atl.length ≤ 100000) (hb : T.last < 4611686018427387904) (hru : ruleR X w rc ru) :
    Does Try.prog 28 [.pointer (some ⟨T.bt, 0, none⟩), .agg rc.toArray] w fun v w' => ∃ T', TInv T' ∧ T'.bt = T.bt ∧ Moves w w' (tabA T) (tabA T') ∧ AddOut T ru v T' := by
  have hwf : ru.wf := by obtain ⟨_, _, _, h⟩ := hru; exact h
  refine (Td.add_does w h (add_pre inv hl hb) hru).mono ?_
  rintro v w' (⟨h1, h2, f⟩ | ⟨h1, h2, h3, f⟩ | ⟨h1, h2, h3, T', h4, m⟩)
  · exact ⟨T, inv, rfl, Moves.fr0 h f, .inl ⟨h1, h2, rfl⟩⟩
  · exact ⟨T, inv, rfl, Moves.fr0 h f, .inr (.inl ⟨h1, h2, h3, rfl⟩)⟩
  · obtain ⟨i1, i2, i3⟩ := add_inv inv h4 h1 hwf
    exact ⟨T', i1, h4.1, m, .inr (.inr ⟨h1, h2, h3, i2, i3⟩)⟩
theorem find_spec {T : TabSt} {h : Hdr} (w : World) (hh : h.wf) (H : Holds w [tabA T]) (inv : TInv T) (hl : T.atl.length ≤ 100000) :
    Does Try.prog 29 [.pointer (some ⟨T.bt, 0, none⟩), .agg (h.cells).toArray] w fun v w' => (∃ b, Top T.atl h (fun _ => True) b ∧ v = .tuple #[.int .i64 b.id, .bool (decide (b.id > 0))]) ∧ Fr0 w w' :=
  Te.find_does w hh (tab_pieces H) inv (Nat.le_trans (rows_le inv) hl) (rows_wf inv)
theorem rows_spec {T : TabSt} (w : World) (H : Holds w [tabA T]) : Does Try.prog 36 [.pointer (some ⟨T.bt, 0, none⟩)] w fun v w' => v = .int .i64 (T.rows.length : Nat) ∧ Fr0 w w' := Tc.rows_does w (tab_pieces H)

def H1 : Hdr := Tb.Hset (fun _ => 0) 1 1
def H2 : Hdr := Tb.Hset (fun _ => 0) 1 2
def K1 : Hdr := Tb.Hset (fun _ => 0) 1 281474976710655
def R1 : Rule := ⟨5, ⟨H1, K1⟩, [], 0⟩
def R2 : Rule := ⟨4, ⟨fun _ => 0, fun _ => 0⟩, [], 0⟩
theorem hset_wf (n : Nat) (h : n < 18446744073709551616) : (Tb.Hset (fun _ => 0) 1 n).wf := by
  intro i; unfold Tb.Hset; split
  · exact h
  · show (0 : Nat) < _; decide
theorem zero_wf : Hdr.wf (fun _ => 0) := fun _ => show (0 : Nat) < _ by decide
theorem R1_wf : R1.wf := ⟨by decide, by decide, ⟨hset_wf _ (by decide), hset_wf _ (by decide)⟩, by decide⟩
theorem R2_wf : R2.wf := ⟨by decide, by decide, ⟨zero_wf, zero_wf⟩, by decide⟩
theorem ok1 : matOk R1.mat = true := by decide +kernel
theorem ok2 : matOk R2.mat = true := by decide +kernel
theorem hit11 : hits R1.mat H1 = true := by decide +kernel
theorem hit12 : hits R1.mat H2 = false := by decide +kernel
theorem hit21 : hits R2.mat H1 = true := by decide +kernel
theorem hit22 : hits R2.mat H2 = true := by decide +kernel
theorem top1 {l : List Ent} {b : In} (e : l = [(1, Td.r0 R1), (2, Td.r0 R2)]) (t : Top l H1 (fun _ => True) b) : b.id = 1 := by
  subst e
  rcases t with ⟨_, h2⟩ | ⟨_, x, hx, h2, _, _, h5⟩
  · have := h2 (1, Td.r0 R1) (by simp) trivial
    rw [show (Td.r0 R1).mat = R1.mat from rfl, hit11] at this; cases this
  · have h6 := h5 (1, Td.r0 R1) (by simp) trivial hit11
    simp only [List.mem_cons, List.not_mem_nil, or_false] at hx
    rcases hx with rfl | rfl
    · exact h2.symm
    · unfold Better at h6; simp [Td.r0, R1, R2] at h6
theorem top2 {l : List Ent} {b : In} (e : l = [(1, Td.r0 R1), (2, Td.r0 R2)]) (t : Top l H2 (fun _ => True) b) : b.id = 2 := by
  subst e
  rcases t with ⟨_, h2⟩ | ⟨_, x, hx, h2, _, h4, _⟩
  · have := h2 (2, Td.r0 R2) (by simp) trivial
    rw [show (Td.r0 R2).mat = R2.mat from rfl, hit22] at this; cases this
  · simp only [List.mem_cons, List.not_mem_nil, or_false] at hx
    rcases hx with rfl | rfl
    · rw [show (Td.r0 R1).mat = R1.mat from rfl, hit12] at h4; cases h4
    · exact h2.symm
theorem rows2 {T : TabSt} (inv : TInv T) (e : T.atl = [(1, Td.r0 R1), (2, Td.r0 R2)]) : T.rows.length = 2 := by
  have h1 := rows_le inv
  rw [e] at h1
  have h2 := len_of_sub (l := [K1, (fun _ => 0 : Hdr)]) (m := T.rows.map (·.mask)) (by decide +kernel) fun k hk => by
    simp only [List.mem_cons, List.not_mem_nil, or_false] at hk
    rcases hk with rfl | rfl
    · obtain ⟨r, hr, hm⟩ := inv.cover (1, Td.r0 R1) (by rw [e]; simp)
      exact List.mem_map.2 ⟨r, hr, hm⟩
    · obtain ⟨r, hr, hm⟩ := inv.cover (2, Td.r0 R2) (by rw [e]; simp)
      exact List.mem_map.2 ⟨r, hr, hm⟩
  simp at h1 h2; omega

theorem wakes_does (w : World) : Does Try.prog 31 [] w fun v w' => v = .bool true ∧ Fr0 w w' := by
  refine Does.enter Try.func31 rfl rfl ?_
  show CW _ _ _ _ 71 [] [] w
  refine CW.seq ?_
  refine CW.region ?_
  refine OW.assign rfl rfl ?_
  refine OW.nil ?_
  refine NX.seq ?_
  refine CW.seq ?_
  refine CW.region ?_
  refine OW.call rfl rfl cl27 (Tc.new_does w) ?_
  rintro _ w1 ⟨T, rfl, ⟨e1, e2, e3⟩, ⟨hh, hfr⟩, f1⟩
  have r1 : Run w w1 [] [tabA T] := (Run.start Holds.nil).adopt f1 hh hfr
  have i1 := new_inv e1 e2 e3
  refine OW.assign rfl rfl ?_
  refine OW.nil ?_
  refine NX.seq ?_
  refine CW.seq ?_
  refine CW.region ?_
  refine OW.move rfl rfl ?_
  refine OW.buildArr (z := List.replicate 11 (Value.int .u64 0)) rfl ar31 zr31 rfl rfl ?_
  refine OW.slot (s := 13) rfl (show _ = Value.agg (Hdr.cells H1).toArray from rfl) ?_
  refine OW.buildArr (z := List.replicate 11 (Value.int .u64 0)) rfl ar31 zr31 rfl rfl ?_
  refine OW.slot (s := 14) rfl (show _ = Value.agg (Hdr.cells K1).toArray from rfl) ?_
  refine OW.build (z := Mat.cells ⟨fun _ => 0, fun _ => 0⟩) rfl pl33 zr33 rfl rfl ?_
  refine OW.build (z := ruleCells 0 ⟨fun _ => 0, fun _ => 0⟩ (.slice none 0 0) 0) rfl pl36 zr36 rfl rfl ?_
  refine OW.call rfl rfl cl28 (add_spec (ru := R1) (X := fun _ => True) w1 hh i1 (by rw [e2]; decide) (by rw [e3]; decide) ⟨.slice none 0 0, rfl, .inl ⟨none, 0, rfl, rfl⟩, R1_wf⟩) ?_
  rintro v2 w2 ⟨T2, i2, hb2, m2, ho2⟩
  have r2 := r1.put 0 rfl m2
  obtain ⟨_, _, rfl, e4, e5⟩ : _ ∧ _ ∧ v2 = _ ∧ _ ∧ _ := by
    rcases ho2 with ⟨h, _⟩ | ⟨_, h, _⟩ | h
    · rw [ok1] at h; cases h
    · rw [e2] at h; simp at h
    · exact h
  rw [e2, e3] at e4
  rw [e3] at e5
  rw [← hb2]
  simp only [e3]
  refine OW.move rfl rfl ?_
  refine OW.extract rfl rfl rfl ?_
  refine OW.extract rfl rfl rfl ?_
  refine OW.assign rfl rfl ?_
  refine OW.assign rfl rfl ?_
  refine OW.nil ?_
  refine NX.seq ?_
  refine CW.seq ?_
  refine CW.region ?_
  refine OW.move rfl rfl ?_
  refine OW.build (z := ruleCells 0 ⟨fun _ => 0, fun _ => 0⟩ (.slice none 0 0) 0) rfl pl36 zr36 rfl rfl ?_
  refine OW.call rfl rfl cl28 (add_spec (ru := R2) (X := fun _ => True) w2 (r2.alone 0 rfl) i2 (by rw [e4]; decide) (by rw [e5]; decide) ⟨.slice none 0 0, rfl, .inl ⟨none, 0, rfl, rfl⟩, R2_wf⟩) ?_
  rintro v3 w3 ⟨T3, i3, hb3, m3, ho3⟩
  have r3 := r2.put 0 rfl m3
  obtain ⟨_, _, rfl, e6, e7⟩ : _ ∧ _ ∧ v3 = _ ∧ _ ∧ _ := by
    rcases ho3 with ⟨h, _⟩ | ⟨_, h, _⟩ | h
    · rw [ok2] at h; cases h
    · rw [e4] at h; simp at h
    · exact h
  rw [e4, e5] at e6
  have e6 : T3.atl = [(1, Td.r0 R1), (2, Td.r0 R2)] := e6
  rw [← hb3]
  simp only [e5]
  refine OW.move rfl rfl ?_
  refine OW.extract rfl rfl rfl ?_
  refine OW.extract rfl rfl rfl ?_
  refine OW.assign rfl rfl ?_
  refine OW.assign rfl rfl ?_
  refine OW.nil ?_
  refine NX.seq ?_
  refine CW.seq ?_
  refine CW.region ?_
  refine OW.move rfl rfl ?_
  refine OW.buildArr (z := List.replicate 11 (Value.int .u64 0)) rfl ar31 zr31 rfl rfl ?_
  refine OW.slot (s := 28) rfl (show _ = Value.agg (Hdr.cells H1).toArray from rfl) ?_
  refine OW.call rfl rfl cl29 (find_spec (h := H1) w3 (hset_wf _ (by decide)) (r3.alone 0 rfl) i3 (by rw [e6]; decide)) ?_
  rintro _ w4 ⟨⟨b, hb, rfl⟩, f4⟩
  have r4 := r3.fr0 f4
  rw [top1 e6 hb]
  refine OW.move rfl rfl ?_
  refine OW.extract rfl rfl rfl ?_
  refine OW.extract rfl rfl rfl ?_
  refine OW.assign rfl rfl ?_
  refine OW.assign rfl rfl ?_
  refine OW.nil ?_
  refine NX.seq ?_
  refine CW.seq ?_
  refine CW.region ?_
  refine OW.move rfl rfl ?_
  refine OW.buildArr (z := List.replicate 11 (Value.int .u64 0)) rfl ar31 zr31 rfl rfl ?_
  refine OW.slot (s := 34) rfl (show _ = Value.agg (Hdr.cells H2).toArray from rfl) ?_
  refine OW.call rfl rfl cl29 (find_spec (h := H2) w4 (hset_wf _ (by decide)) (r4.alone 0 rfl) i3 (by rw [e6]; decide)) ?_
  rintro _ w5 ⟨⟨b2, hb2', rfl⟩, f5⟩
  have r5 := r4.fr0 f5
  rw [top2 e6 hb2']
  refine OW.move rfl rfl ?_
  refine OW.extract rfl rfl rfl ?_
  refine OW.extract rfl rfl rfl ?_
  refine OW.assign rfl rfl ?_
  refine OW.assign rfl rfl ?_
  refine OW.nil ?_
  refine NX.seq ?_
  refine CW.seq ?_
  refine CW.region ?_
  refine OW.move rfl rfl ?_
  refine OW.eql rfl rfl rfl ?_
  refine OW.move rfl rfl ?_
  refine OW.slot (s := 40) rfl (show _ = Value.bool true from rfl) ?_
  refine OW.gyes rfl rfl ?_
  refine OW.move rfl rfl ?_
  refine OW.gyes rfl rfl ?_
  refine OW.eql rfl rfl rfl ?_
  refine OW.pickT rfl rfl rfl ?_
  refine OW.move rfl rfl ?_
  refine OW.slot (s := 44) rfl (show _ = Value.bool true from rfl) ?_
  refine OW.gyes rfl rfl ?_
  refine OW.move rfl rfl ?_
  refine OW.gyes rfl rfl ?_
  refine OW.eql rfl rfl rfl ?_
  refine OW.pickT rfl rfl rfl ?_
  refine OW.move rfl rfl ?_
  refine OW.slot (s := 48) rfl (show _ = Value.bool true from rfl) ?_
  refine OW.gyes rfl rfl ?_
  refine OW.move rfl rfl ?_
  refine OW.gyes rfl rfl ?_
  refine OW.eql rfl rfl rfl ?_
  refine OW.pickT rfl rfl rfl ?_
  refine OW.move rfl rfl ?_
  refine OW.slot (s := 52) rfl (show _ = Value.bool true from rfl) ?_
  refine OW.gyes rfl rfl ?_
  refine OW.move rfl rfl ?_
  refine OW.gyes rfl rfl ?_
  refine OW.eql rfl rfl rfl ?_
  refine OW.pickT rfl rfl rfl ?_
  refine OW.move rfl rfl ?_
  refine OW.slot (s := 56) rfl (show _ = Value.bool true from rfl) ?_
  refine OW.gyes rfl rfl ?_
  refine OW.move rfl rfl ?_
  refine OW.pickT rfl rfl rfl ?_
  refine OW.move rfl rfl ?_
  refine OW.slot (s := 59) rfl (show _ = Value.bool true from rfl) ?_
  refine OW.gyes rfl rfl ?_
  refine OW.move rfl rfl ?_
  refine OW.gyes rfl rfl ?_
  refine OW.eql rfl rfl rfl ?_
  refine OW.pickT rfl rfl rfl ?_
  refine OW.move rfl rfl ?_
  refine OW.slot (s := 63) rfl (show _ = Value.bool true from rfl) ?_
  refine OW.gyes rfl rfl ?_
  refine OW.move rfl rfl ?_
  refine OW.pickT rfl rfl rfl ?_
  refine OW.move rfl rfl ?_
  refine OW.slot (s := 66) rfl (show _ = Value.bool true from rfl) ?_
  refine OW.gyes rfl rfl ?_
  refine OW.move rfl rfl ?_
  refine OW.gyes rfl rfl ?_
  refine OW.call rfl rfl cl36 (rows_spec w5 (r5.alone 0 rfl)) ?_
  rintro _ w6 ⟨rfl, f6⟩
  rw [rows2 i3 e6]
  refine OW.gyes rfl rfl ?_
  refine OW.eql rfl rfl rfl ?_
  refine OW.pickT rfl rfl rfl ?_
  refine OW.assign rfl rfl ?_
  refine OW.nil ?_
  refine NX.seq ?_
  refine CW.ret ?_
  exact NX.ret1 rfl rfl (⟨rfl, run0 (r5.fr0 f6)⟩)

end Go.Eng.Tf
