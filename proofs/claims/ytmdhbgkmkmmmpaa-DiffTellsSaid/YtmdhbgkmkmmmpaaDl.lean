/-
  The rule that law 24 makes, stepped through.
  No condition.
-/
import Derived.Test.YtmdhbgkmkmmmpaaDk
import Derived.Test.YtmdhbgkmkmmmpaaProg
import Derived.KernelRfl
namespace Go.Eng.Dl
open Go Go.Eng Go.Proofs

theorem ag36 : aggSz Try.prog 36 = some 25 := by kernel_rfl
theorem ar31 : arrIs Try.prog 31 = some (11, 29, 1) := by kernel_rfl
theorem el34 : elemIs Try.prog 34 = some (75, 1) := by kernel_rfl
theorem el75 : elemIs Try.prog 75 = some (89, 3) := by kernel_rfl
theorem fo33_0 : fieldOff Try.prog 33 0 = some 0 := by kernel_rfl
theorem fo33_1 : fieldOff Try.prog 33 1 = some 11 := by kernel_rfl
theorem fo36_0 : fieldOff Try.prog 36 0 = some 0 := by kernel_rfl
theorem fo36_1 : fieldOff Try.prog 36 1 = some 1 := by kernel_rfl
theorem fo36_2 : fieldOff Try.prog 36 2 = some 23 := by kernel_rfl
theorem pl89 : placesIs Try.prog 89 = some [(0, 1), (1, 1), (2, 1)] := by kernel_rfl
theorem sz29 : sizeIs Try.prog 29 = some 1 := by kernel_rfl
theorem sz3 : sizeIs Try.prog 3 = some 1 := by kernel_rfl
theorem sz34 : sizeIs Try.prog 34 = some 1 := by kernel_rfl
theorem sz36 : sizeIs Try.prog 36 = some 25 := by kernel_rfl
theorem zr36 : zeroIs Try.prog 36 = some (.agg #[.int .i64 0, .int .u64 0, .int .u64 0, .int .u64 0, .int .u64 0, .int .u64 0, .int .u64 0, .int .u64 0, .int .u64 0, .int .u64 0, .int .u64 0, .int .u64 0, .int .u64 0, .int .u64 0, .int .u64 0, .int .u64 0, .int .u64 0, .int .u64 0, .int .u64 0, .int .u64 0, .int .u64 0, .int .u64 0, .int .u64 0, .slice none 0 0, .int .u64 0]) := by kernel_rfl
theorem zr75 : zeroIs Try.prog 75 = some (.slice none 0 0) := by kernel_rfl
theorem zr89 : zeroIs Try.prog 89 = some (.agg #[.int .i8 0, .int .i8 0, .int .u64 0]) := by kernel_rfl

def h5 (n : Nat) : Hdr := fun i => if i = 5 then n else 0

theorem rule_does (rk : Int) (to out : Nat) (hout : out < 18446744073709551616) (w : World) : Does Try.prog 38 [.int .i64 rk, .int .u64 ((to : Nat) : Int), .int .u64 ((out : Nat) : Int)] w fun v w' => ∃ cv, v = .agg (ruleCells rk ⟨h5 to, h5 255⟩ cv 0).toArray ∧ SlR 1 cpsR (fun j => w.heap.size ≤ j) w' cv [[⟨1, 0, out⟩]] ∧ Fr0 w w' := by
  refine Does.enter Try.func38 rfl rfl ?_
  show CW _ _ _ _ 23 [] [(0, .int .i64 rk), (1, .int .u64 ((to : Nat) : Int)), (2, .int .u64 ((out : Nat) : Int))] w
  refine CW.seq ?_
  refine CW.region ?_
  refine OW.alloc rfl zr36 ?_
  intro b6 w1 n1
  refine OW.nil ?_
  refine NX.seq ?_
  refine CW.seq ?_
  refine CW.region ?_
  refine OW.alloc rfl zr36 ?_
  intro b7 w2 n2
  have q1 := n1.fresh
  have q2 := n2.fresh
  have s1 := n1.size
  have s2 := n2.size
  refine OW.nil ?_
  refine NX.seq ?_
  refine CW.seq ?_
  refine CW.region ?_
  refine OW.move rfl rfl ?_
  refine OW.fieldAddr rfl fo36_0 rfl ?_
  refine OW.store rfl rfl sz3 (New.bk (cs := ruleCells 0 ⟨fun _ => 0, fun _ => 0⟩ (.slice none 0 0) 0) n2) (by show 0 + 0 + 1 ≤ 25; omega) (fun x hx => by simp [Value.cells] at hx; subst hx; rfl) ?_
  intro w3 f3 z3 c3
  have e3 : Bk w3 b7 36 (ruleCells rk ⟨(fun _ => 0), (fun _ => 0)⟩ (.slice none 0 0) 0) := c3
  refine OW.nil ?_
  refine NX.seq ?_
  refine CW.seq ?_
  refine CW.region ?_
  refine OW.move rfl rfl ?_
  refine OW.fieldAddr rfl fo36_1 rfl ?_
  refine OW.fieldAddr rfl fo33_0 rfl ?_
  refine OW.indexAddrArr rfl ar31 rfl rfl (⟨by decide, by decide⟩) ?_
  refine OW.store rfl rfl sz29 (e3) (by show 0 + 1 + 0 + 5 * 1 + 1 ≤ 25; omega) (fun x hx => by simp [Value.cells] at hx; subst hx; rfl) ?_
  intro w4 f4 z4 c4
  have e4 : Bk w4 b7 36 (ruleCells rk ⟨(h5 to), (fun _ => 0)⟩ (.slice none 0 0) 0) := c4
  refine OW.nil ?_
  refine NX.seq ?_
  refine CW.seq ?_
  refine CW.region ?_
  refine OW.fieldAddr rfl fo36_1 rfl ?_
  refine OW.fieldAddr rfl fo33_1 rfl ?_
  refine OW.indexAddrArr rfl ar31 rfl rfl (⟨by decide, by decide⟩) ?_
  refine OW.store rfl rfl sz29 (e4) (by show 0 + 1 + 11 + 5 * 1 + 1 ≤ 25; omega) (fun x hx => by simp [Value.cells] at hx; subst hx; rfl) ?_
  intro w5 f5 z5 c5
  have e5 : Bk w5 b7 36 (ruleCells rk ⟨(h5 to), (h5 255)⟩ (.slice none 0 0) 0) := c5
  refine OW.nil ?_
  refine NX.seq ?_
  refine CW.seq ?_
  refine CW.region ?_
  refine OW.move rfl rfl ?_
  refine OW.build (z := [.int .i8 0, .int .i8 0, .int .u64 0]) rfl pl89 zr89 rfl rfl ?_
  refine OW.buildOne (c := Actn.cells ⟨1, 0, out⟩) rfl el75 zr89 rfl rfl rfl rfl rfl rfl ?_
  intro b8 w6 n6
  refine OW.buildOne (c := [.slice (some ⟨b8, 0, none⟩) 1 1]) rfl el34 zr75 rfl rfl rfl rfl rfl rfl ?_
  intro b9 w7 n7
  have q6 := n6.fresh
  have q7 := n7.fresh
  have s6 := n6.size
  have s7 := n7.size
  have e7 := (e5.frame n6.fr id).frame n7.fr id
  refine OW.fieldAddr rfl fo36_2 rfl ?_
  refine OW.store rfl rfl sz34 (e7) (by show 0 + 23 + 1 ≤ 25; omega) (fun x hx => by simp [Value.cells] at hx; subst hx; rfl) ?_
  intro w8 f8 z8 c8
  have e8 : Bk w8 b7 36 (ruleCells rk ⟨h5 to, h5 255⟩ (.slice (some ⟨b9, 0, none⟩) 1 1) 0) := c8
  refine OW.nil ?_
  refine NX.seq ?_
  refine CW.seq ?_
  refine CW.region ?_
  refine OW.loadA rfl ag36 rfl (e8.seg) (rfl) ?_
  have e6 : Bk w8 b6 36 (ruleCells 0 ⟨fun _ => 0, fun _ => 0⟩ (.slice none 0 0) 0) := ((((((New.bk (cs := ruleCells 0 ⟨fun _ => 0, fun _ => 0⟩ (.slice none 0 0) 0) n1).frame n2.fr id).frame f3 (by omega)).frame f4 (by omega)).frame f5 (by omega)).frame (n6.fr.trans n7.fr) id).frame f8 (by omega)
  refine OW.store rfl rfl sz36 (e6) (Nat.le_refl _) (fun x hx => ruleCells_one (cv := .slice (some ⟨b9, 0, none⟩) 1 1) rfl x hx) ?_
  intro w9 f9 z9 c9
  have e9 : Bk w9 b6 36 (ruleCells rk ⟨h5 to, h5 255⟩ (.slice (some ⟨b9, 0, none⟩) 1 1) 0) := c9
  have g8 : Seg w9 b8 0 (Actn.cells ⟨1, 0, out⟩) := (((Seg.ofNew n6).frame n7.fr id).frame f8 (by omega)).frame f9 (by omega)
  have g9 : Seg w9 b9 0 [.slice (some ⟨b8, 0, none⟩) 1 1] := ((Seg.ofNew n7).frame f8 (by omega)).frame f9 (by omega)
  have hs : w9.heap.size = w.heap.size + 4 := by omega
  have hcv : SlR 1 cpsR (fun j => w.heap.size ≤ j) w9 (.slice (some ⟨b9, 0, none⟩) 1 1) [[⟨1, 0, out⟩]] := by
    refine .inr ⟨b9, 0, 1, rfl, by show w.heap.size ≤ b9; omega, by omega, Nat.le_refl _, show 1 ≤ 140737488355328 from by decide, fun i x hx => ?_⟩
    match i, hx with
    | 0, hx =>
      cases hx
      refine ⟨_, g9, _, rfl, .inr ⟨b8, 0, 1, rfl, by show w.heap.size ≤ b8; omega, by omega, Nat.le_refl _, show 1 ≤ 140737488355328 from by decide, fun i x hx => ?_⟩⟩
      match i, hx with
      | 0, hx => cases hx; exact ⟨_, g8, rfl, ⟨show (-128 : Int) ≤ 1 from by decide, show (1 : Int) < 128 from by decide, show (-128 : Int) ≤ 0 from by decide, show (0 : Int) < 128 from by decide, hout⟩⟩
  have fT : Fr0 w w9 := (((((n1.fr.trans n2.fr).trans' f3 (fun k h c => by omega)).trans' f4 (fun k h c => by omega)).trans' f5 (fun k h c => by omega)).trans (n6.fr.trans n7.fr)).trans' f8 (fun k h c => by omega) |>.trans' f9 (fun k h c => by omega)
  refine OW.nil ?_
  refine NX.seq ?_
  refine CW.ret ?_
  exact NX.retA rfl rfl ag36 (e9.seg) (rfl) (⟨_, rfl, hcv, fT⟩)

end Go.Eng.Dl
