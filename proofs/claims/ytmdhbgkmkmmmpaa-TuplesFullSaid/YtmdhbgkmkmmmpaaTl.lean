/-
  TuplesFull, stepped through.
  No condition.
-/
import Derived.Test.YtmdhbgkmkmmmpaaDeal
import Derived.Test.YtmdhbgkmkmmmpaaProg
import Derived.KernelRfl
namespace Go.Eng.Tl
open Go Go.Eng Go.Proofs
theorem MIX : Try.prog.follows .mixedOrders = true := by kernel_rfl

theorem cl27 : callable Try.prog 27 = true := by kernel_rfl
theorem cl28 : callable Try.prog 28 = true := by kernel_rfl
theorem cl31 : callable Try.prog 31 = true := by kernel_rfl
theorem cl33 : callable Try.prog 33 = true := by kernel_rfl
theorem cl36 : callable Try.prog 36 = true := by kernel_rfl
theorem pl36 : placesIs Try.prog 36 = some [(0, 1), (1, 22), (23, 1), (24, 1)] := by kernel_rfl
theorem zr36 : zeroIs Try.prog 36 = some (.agg #[.int .i64 0, .int .u64 0, .int .u64 0, .int .u64 0, .int .u64 0, .int .u64 0, .int .u64 0, .int .u64 0, .int .u64 0, .int .u64 0, .int .u64 0, .int .u64 0, .int .u64 0, .int .u64 0, .int .u64 0, .int .u64 0, .int .u64 0, .int .u64 0, .int .u64 0, .int .u64 0, .int .u64 0, .int .u64 0, .int .u64 0, .slice none 0 0, .int .u64 0]) := by kernel_rfl

def Z0 : Hdr := fun _ => 0
def RU (k : Int) : Rule := ⟨k, ⟨Z0, Z0⟩, [], 0⟩
theorem RU_wf {k : Int} (h : 0 ≤ k ∧ k < 7) : (RU k).wf := ⟨by show -9223372036854775808 ≤ k; omega, by show k < 9223372036854775808; omega, ⟨fun _ => show (0 : Nat) < _ by decide, fun _ => show (0 : Nat) < _ by decide⟩, by show (0 : Nat) < _; decide⟩
theorem RU_ok (k : Int) : matOk (RU k).mat = true := by
  show matOk ⟨Z0, Z0⟩ = true
  decide +kernel
theorem RU_r {k : Int} (h : 0 ≤ k ∧ k < 7) (w : World) : ruleR (fun _ => True) w (ruleCells k ⟨Z0, Z0⟩ (.slice none 0 0) 0) (RU k) := ⟨.slice none 0 0, rfl, .inl ⟨none, 0, rfl, rfl⟩, RU_wf h⟩
theorem OW.rem {P : Program} {Q : Exit → Act → World → Prop} {w : World} {n : Nat} {D : List Deferred} {L : List (Nat × Value)} {ops : Array Oper} {todo : List Oper} {d : Nat} {t t' ty : TypeId} {pos : String} {af : Array Edge} {x y : Operand} {k : IntKind} {i j : Int}
    (hd : Nat.blt d n = true) (hx : evl L x = some (.int k i)) (hy : evl L y = some (.int k j)) (hj : j ≠ 0) (h : OW P ops Q n D todo ((d, .int k (i.tmod j)) :: L) w) :
    OW P ops Q n D (⟨some d, .binOp .rem t x y t', ty, pos, af, none⟩ :: todo) L w :=
  OW.bin hd hx hy (by simp [eqGuard, binOp, Op.intDiv, hj]) h
theorem mod7 (i : Nat) : 0 ≤ ((i : Nat) : Int).tmod 7 ∧ ((i : Nat) : Int).tmod 7 < 7 := by
  rw [Int.tmod_eq_emod_of_nonneg (by omega)]
  omega
structure Fil (T : TabSt) (i : Nat) : Prop where
  inv : TInv T
  len : T.atl.length = i
  last : T.last = i
  zero : ∀ x ∈ T.atl, x.2.mat.mask = Z0
  five : 5 ≤ i → ∃ x ∈ T.atl, x.1 = 5
theorem Fil.next {T T' : TabSt} {i : Nat} (f : Fil T i) (k : Int) (hi : i < 1024) (inv : TInv T') (ha : T'.atl = addL T.atl T.last (RU k)) (hl : T'.last = addLast T.atl T.last (RU k)) : Fil T' (i + 1) := by
  have ok : addOk T.atl (RU k) = true := by unfold addOk; rw [RU_ok, f.len]; simpa using hi
  have ha : T'.atl = T.atl ++ [(T.last + 1, Td.r0 (RU k))] := by rw [ha]; unfold addL; rw [if_pos ok]
  have hl : T'.last = T.last + 1 := by rw [hl]; unfold addLast; rw [if_pos ok]
  refine ⟨inv, by rw [ha]; simp [f.len], by rw [hl, f.last]; simp, fun x hx => ?_, fun h5 => ?_⟩
  · rw [ha] at hx
    rcases List.mem_append.1 hx with c | c
    · exact f.zero x c
    · simp at c; subst c; rfl
  · rw [ha]
    by_cases c : 5 ≤ i
    · obtain ⟨x, hx, e⟩ := f.five c
      exact ⟨x, List.mem_append_left _ hx, e⟩
    · exact ⟨_, List.mem_append_right _ (List.mem_singleton.2 rfl), by show T.last + 1 = 5; rw [f.last]; omega⟩
theorem add_res {l : List Ent} {last : Int} (k : Int) (hl : l.length < 1024) : addNo l last (RU k) = last + 1 ∧ addErr l (RU k) = 0 := by
  unfold addNo addErr addOk
  rw [RU_ok]; simp [hl]
theorem add_full {l : List Ent} {last : Int} (k : Int) (hl : ¬ l.length < 1024) : addErr l (RU k) = 4 ∧ addL l last (RU k) = l ∧ addLast l last (RU k) = last := by
  unfold addErr addL addLast addOk
  rw [RU_ok]; simp [hl]
theorem one_row {T : TabSt} (inv : TInv T) (h0 : 0 < T.atl.length) (hz : ∀ x ∈ T.atl, x.2.mat.mask = Z0) : T.rows.length = 1 := by
  have hm : ∀ m ∈ T.rows.map (·.mask), m ∈ [Z0] := by
    intro m hm
    obtain ⟨r, hr, rfl⟩ := List.mem_map.1 hm
    obtain ⟨x, hx, h1, _⟩ := (inv.rows r hr).has
    rw [← h1, hz x hx]; simp
  have h1 := len_of_sub inv.masks hm
  have h2 : 0 < T.rows.length := by
    obtain ⟨r, hr, _⟩ := inv.cover T.atl[0] (List.getElem_mem h0)
    exact List.length_pos_of_mem hr
  simp at h1; omega
theorem drop_len {l : List Ent} (hs : l.Pairwise fun a b => a.1 < b.1) {x : Ent} (hx : x ∈ l) : (l.filter fun y => decide (y.1 ≠ x.1)).length + 1 = l.length := by
  have hg := kvGetG_of_mem (keys_nodup hs) (k := x.1) (v := x.2) hx
  have hp := (kvGetG_perm hg).length_eq
  rw [List.length_cons, kvDelG_filter hs] at hp
  exact hp.symm

theorem full_does (w : World) : Does Try.prog 12 [] w fun r w' => r = .bool true ∧ Fr0 w w' := by
  refine Does.enter Try.func12 rfl rfl ?_
  show CW _ _ _ _ 62 [] [] w
  refine CW.seq ?_
  refine CW.region ?_
  refine OW.assign rfl rfl ?_
  refine OW.nil ?_
  refine NX.seq ?_
  refine CW.seq ?_
  refine CW.region ?_
  refine OW.call rfl rfl cl27 (Tc.new_does w) ?_
  rintro _ w1 ⟨T0, rfl, ⟨e1, e2, e3⟩, ⟨hh0, hfr⟩, f1⟩
  have r1 : Run w w1 [] [tabA T0] := (Run.start Holds.nil).adopt f1 hh0 hfr
  have i0 := new_inv e1 e2 e3
  have F0 : Fil T0 0 := ⟨i0, by rw [e2]; rfl, by rw [e3]; rfl, by rw [e2]; simp, fun h => by omega⟩
  refine OW.assign rfl rfl ?_
  refine OW.nil ?_
  refine NX.seq ?_
  refine CW.seq ?_
  refine CW.seq ?_
  refine CW.region ?_
  refine OW.move rfl rfl ?_
  refine OW.nil ?_
  refine NX.seq ?_
  refine CW.block ?_
  refine CW.loop (α := Nat × TabSt) (fun s : Nat × TabSt => [(1, .pointer (some ⟨T0.bt, 0, none⟩)), (9, .int .i64 ((s.1 : Nat) : Int))]) (fun (s : Nat × TabSt) U => s.1 ≤ 1024 ∧ s.2.bt = T0.bt ∧ Run w U [] [tabA s.2] ∧ Fil s.2 s.1) (fun s : Nat × TabSt => 1024 - s.1) (0, T0) (Sub.cons rfl (Sub.cons rfl (Sub.nil _))) ⟨Nat.zero_le _, rfl, r1, F0⟩ ?_
  rintro ⟨i, T⟩ U ⟨hi, hbt, r, F⟩
  simp only at hi hbt r F
  refine CW.seq ?_
  refine CW.region ?_
  refine OW.lss rfl rfl rfl ?_
  refine OW.nil ?_
  refine NX.seq ?_
  refine CW.seq ?_
  refine CW.cond rfl (fun hlt => ?_) (fun hlt => ?_)
  · have hi2 : i < 1024 := by omega
    have hlen := F.len
    have hlast := F.last
    have hm := mod7 i
    refine CW.skip ?_
    refine NX.seq ?_
    refine CW.seq ?_
    refine CW.block ?_
    refine CW.seq ?_
    refine CW.region ?_
    refine OW.move rfl rfl ?_
    refine OW.assign rfl rfl ?_
    refine OW.nil ?_
    refine NX.seq ?_
    refine CW.seq ?_
    refine CW.region ?_
    refine OW.move rfl rfl ?_
    refine OW.move rfl rfl ?_
    refine OW.rem rfl rfl rfl (by decide) ?_
    refine OW.build (z := ruleCells 0 ⟨Z0, Z0⟩ (.slice none 0 0) 0) rfl pl36 zr36 rfl rfl ?_
    rw [← hbt]
    refine OW.call rfl rfl cl28 (add2 (ru := RU (((i : Nat) : Int).tmod 7)) (X := fun _ => True) (rc := ruleCells (((i : Nat) : Int).tmod 7) ⟨Z0, Z0⟩ (.slice none 0 0) 0) U (r.alone 0 rfl) F.inv (by omega) (by omega) (RU_r hm U)) ?_
    rintro _ w7 ⟨T2, rfl, inv2, hb2, m7, ha2, hl2⟩
    have r7 := r.put 0 rfl m7
    obtain ⟨a1, a2⟩ := add_res (l := T.atl) (last := T.last) (((i : Nat) : Int).tmod 7) (by omega)
    rw [a1, a2, hlast]
    refine OW.move rfl rfl ?_
    refine OW.extract rfl rfl rfl ?_
    refine OW.extract rfl rfl rfl ?_
    refine OW.assign rfl rfl ?_
    refine OW.assign rfl rfl ?_
    refine OW.nil ?_
    refine NX.seq ?_
    refine CW.seq ?_
    refine CW.region ?_
    refine OW.move rfl rfl ?_
    refine OW.move rfl rfl ?_
    refine OW.add rfl rfl rfl (by omega) ?_
    refine OW.neq rfl rfl rfl ?_
    refine OW.move rfl rfl ?_
    refine OW.ways (s := 24) rfl (fun hn1 => ?_) (fun hn1 => ?_)
    · exact absurd rfl hn1
    · refine OW.gyes rfl rfl ?_
      refine OW.move rfl rfl ?_
      refine OW.gyes rfl rfl ?_
      refine OW.neq rfl rfl rfl ?_
      refine OW.pickF rfl rfl rfl ?_
      refine OW.nil ?_
      refine NX.seq ?_
      refine CW.cond rfl (fun hn2 => ?_) (fun hn2 => ?_)
      · exact absurd rfl hn2
      · refine CW.skip ?_
        refine NX.blockN ?_
        refine NX.seq ?_
        refine CW.region ?_
        refine OW.add rfl rfl rfl (by omega) ?_
        refine OW.move rfl rfl ?_
        refine OW.nil ?_
        exact NX.loop ((i + 1, T2)) ((Sub.cons rfl (Sub.cons rfl (Sub.nil _)))) (⟨by show i + 1 ≤ 1024; omega, hb2, r7, F.next _ hi2 inv2 ha2 hl2⟩) (by show 1024 - (i + 1) < 1024 - i; omega)
  · have hi2 : i = 1024 := by omega
    subst hi2
    have hlen := F.len
    have hlast := F.last
    refine CW.exit ?_
    refine NX.thenExit ?_
    refine NX.thenExit ?_
    refine NX.blockEq ?_
    refine NX.seq ?_
    refine CW.seq ?_
    refine CW.region ?_
    refine OW.move rfl rfl ?_
    refine OW.build (z := ruleCells 0 ⟨Z0, Z0⟩ (.slice none 0 0) 0) rfl pl36 zr36 rfl rfl ?_
    rw [← hbt]
    refine OW.call rfl rfl cl28 (add2 (ru := RU 0) (X := fun _ => True) (rc := ruleCells 0 ⟨Z0, Z0⟩ (.slice none 0 0) 0) U (r.alone 0 rfl) F.inv (by omega) (by omega) (RU_r ⟨by decide, by decide⟩ U)) ?_
    rintro _ w7 ⟨T2, rfl, inv2, hb2, m7, ha2, hl2⟩
    have r7 := r.put 0 rfl m7
    obtain ⟨a1, a2, a3⟩ := add_full (l := T.atl) (last := T.last) 0 (by omega)
    rw [a1]
    rw [a2] at ha2
    rw [a3] at hl2
    rw [← hb2]
    refine OW.move rfl rfl ?_
    refine OW.extract rfl rfl rfl ?_
    refine OW.extract rfl rfl rfl ?_
    refine OW.assign rfl rfl ?_
    refine OW.assign rfl rfl ?_
    refine OW.nil ?_
    refine NX.seq ?_
    refine CW.seq ?_
    refine CW.seq ?_
    refine CW.region ?_
    refine OW.move rfl rfl ?_
    refine OW.neq rfl rfl rfl ?_
    refine OW.move rfl rfl ?_
    refine OW.ways (s := 37) rfl (fun hn1 => ?_) (fun hn1 => ?_)
    · exact absurd rfl hn1
    · refine OW.gyes rfl rfl ?_
      refine OW.move rfl rfl ?_
      refine OW.gyes rfl rfl ?_
      refine OW.call rfl rfl cl33 (drop2 (id := 5) w7 (r7.alone 0 rfl) inv2 (by rw [ha2]; omega) (by rw [hl2]; omega)) ?_
      rintro _ w8 ⟨T3, rfl, inv3, hb3, m8, ha3, hl3⟩
      have r8 := r7.put 0 rfl m8
      obtain ⟨x5, hx5, h5⟩ := F.five (by decide)
      have hd := drop_len F.inv.ids hx5
      rw [h5] at hd
      have hd2 : (T2.atl.filter fun x => decide (x.1 ≠ 5)).length + 1 = 1024 := by rw [ha2]; exact hd.trans hlen
      have hlt : (T2.atl.filter fun x => decide (x.1 ≠ 5)).length < T2.atl.length := by rw [ha2] at hd2 ⊢; exact Nat.lt_of_succ_le (Nat.le_of_eq (hd2.trans hlen.symm))
      rw [decide_eq_true hlt]
      rw [← hb3]
      have hl3' : T3.atl.length = 1023 := by rw [ha3]; exact Nat.succ.inj hd2
      refine OW.gyes rfl rfl ?_
      refine OW.not rfl rfl ?_
      refine OW.pickF rfl rfl rfl ?_
      refine OW.nil ?_
      refine NX.seq ?_
      refine CW.condB rfl (fun hn2 => ?_) (fun hn2 => ?_)
      · cases hn2
      · refine CW.skip ?_
        refine NX.seq ?_
        refine CW.seq ?_
        refine CW.region ?_
        refine OW.move rfl rfl ?_
        refine OW.build (z := ruleCells 0 ⟨Z0, Z0⟩ (.slice none 0 0) 0) rfl pl36 zr36 rfl rfl ?_
        refine OW.call rfl rfl cl28 (add2 (ru := RU 0) (X := fun _ => True) (rc := ruleCells 0 ⟨Z0, Z0⟩ (.slice none 0 0) 0) w8 (r8.alone 0 rfl) inv3 (by omega) (by rw [hl3, hl2]; omega) (RU_r ⟨by decide, by decide⟩ w8)) ?_
        rintro _ w9 ⟨T4, rfl, inv4, hb4, m9, ha4, hl4⟩
        have r9 := r8.put 0 rfl m9
        obtain ⟨a4, a5⟩ := add_res (l := T3.atl) (last := T3.last) 0 (by omega)
        rw [a4, a5, hl3, hl2, hlast]
        have hrow : T4.rows.length = 1 := by
          refine one_row inv4 ?_ fun x hx => ?_
          · rw [ha4]; unfold addL; split
            · rw [List.length_append]; simp
            · omega
          · rw [ha4] at hx
            unfold addL at hx
            have hold : ∀ y ∈ T3.atl, y.2.mat.mask = Z0 := fun y hy => by
              rw [ha3] at hy
              have := (List.mem_filter.1 hy).1
              rw [ha2] at this
              exact F.zero y this
            split at hx
            · rcases List.mem_append.1 hx with c | c
              · exact hold x c
              · simp at c; subst c; rfl
            · exact hold x hx
        rw [← hb4]
        refine OW.move rfl rfl ?_
        refine OW.extract rfl rfl rfl ?_
        refine OW.extract rfl rfl rfl ?_
        refine OW.assign rfl rfl ?_
        refine OW.assign rfl rfl ?_
        refine OW.nil ?_
        refine NX.seq ?_
        refine CW.seq ?_
        refine CW.region ?_
        refine OW.move rfl rfl ?_
        refine OW.eql rfl rfl rfl ?_
        refine OW.move rfl rfl ?_
        refine OW.slot (s := 50) rfl (show _ = Value.bool true from rfl) ?_
        refine OW.gyes rfl rfl ?_
        refine OW.move rfl rfl ?_
        refine OW.gyes rfl rfl ?_
        refine OW.eql rfl rfl rfl ?_
        refine OW.pickT rfl rfl rfl ?_
        refine OW.move rfl rfl ?_
        refine OW.slot (s := 54) rfl (show _ = Value.bool true from rfl) ?_
        refine OW.gyes rfl rfl ?_
        refine OW.move rfl rfl ?_
        refine OW.gyes rfl rfl ?_
        refine OW.call rfl rfl cl36 (Tf.rows_spec w9 (r9.alone 0 rfl)) ?_
        rintro _ w10 ⟨rfl, f10⟩
        have r10 := r9.fr0 f10
        rw [hrow]
        refine OW.gyes rfl rfl ?_
        refine OW.eql rfl rfl rfl ?_
        refine OW.pickT rfl rfl rfl ?_
        refine OW.move rfl rfl ?_
        refine OW.slot (s := 59) rfl (show _ = Value.bool true from rfl) ?_
        refine OW.gyes rfl rfl ?_
        refine OW.call rfl rfl cl31 (Tf.wakes_does w10) ?_
        rintro _ w11 ⟨rfl, f11⟩
        have r11 := r10.fr0 f11
        refine OW.pickT rfl rfl rfl ?_
        refine OW.assign rfl rfl ?_
        refine OW.nil ?_
        refine NX.seq ?_
        refine CW.ret ?_
        exact NX.ret1 rfl rfl (⟨rfl, run0 r11⟩)

end Go.Eng.Tl
