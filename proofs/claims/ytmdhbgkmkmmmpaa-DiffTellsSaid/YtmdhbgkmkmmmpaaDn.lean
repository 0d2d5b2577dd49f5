/-
  DiffFalls, stepped through.
  No condition.
-/
import Derived.Test.YtmdhbgkmkmmmpaaDm
import Derived.Test.YtmdhbgkmkmmmpaaDf
import Derived.Test.YtmdhbgkmkmmmpaaProg
import Derived.KernelRfl
namespace Go.Eng.Dn
open Go Go.Eng Go.Proofs

theorem cl13 : callable Try.prog 13 = true := by kernel_rfl
theorem cl14 : callable Try.prog 14 = true := by kernel_rfl
theorem cl16 : callable Try.prog 16 = true := by kernel_rfl
theorem ct3 : cellTy Try.prog 3 = true := by kernel_rfl
theorem ct38 : cellTy Try.prog 38 = true := by kernel_rfl
theorem el22 : elemIs Try.prog 22 = some (36, 25) := by kernel_rfl
theorem el26 : elemIs Try.prog 26 = some (45, 36) := by kernel_rfl
theorem fo36_0 : fieldOff Try.prog 36 0 = some 0 := by kernel_rfl
theorem fo45_2 : fieldOff Try.prog 45 2 = some 2 := by kernel_rfl
theorem fo45_3 : fieldOff Try.prog 45 3 = some 3 := by kernel_rfl

def rkAt (ms : List RMsg) (n i : Nat) : Int := if n < i then (ms[i - 1]?).elim 0 (·.rule.rank) else 0
theorem greatS_false {l : List Rule} (h : greatS l = false) : l.length ≤ 150 ∧ ∀ x ∈ l, wt x ≤ 100 := by
  simp only [greatS, Bool.or_eq_false_iff, decide_eq_false_iff_not, List.any_eq_false] at h
  exact ⟨by omega, fun x hx => by have := h.2 x hx; simp at this; omega⟩
theorem len_le_sum {α : Type} : ∀ {l : List (List α)} {c : List α}, c ∈ l → c.length ≤ (l.map List.length).sum
  | x :: l, c, h => by
    rcases List.mem_cons.1 h with rfl | h
    · simp
    · have := len_le_sum h; simp; omega
theorem wt_ok {r : Rule} (h : wt r ≤ 100) : Dk.wtOk r := by
  unfold wt at h
  exact ⟨by omega, fun c hc => by have := len_le_sum hc; omega⟩

theorem diffFalls_does {was now : List Rule} {va vb : Value} (w : World) (hx : rulesR (Bel w) w va was) (hy : rulesR (Bel w) w vb now) : Does Try.prog 5 [va, vb] w fun v w' => v = .bool true ∧ Fr0 w w' := by
  obtain ⟨pa, ca, hva, hla⟩ := hx.shape
  subst hva
  obtain ⟨pb, cb, hvb, hlb⟩ := hy.shape
  subst hvb
  refine Does.enter Try.func5 rfl rfl ?_
  show CW _ _ _ _ 63 [] [(0, .slice pa was.length ca), (1, .slice pb now.length cb)] w
  refine CW.seq ?_
  refine CW.region ?_
  refine OW.assign rfl rfl ?_
  refine OW.nil ?_
  refine NX.seq ?_
  refine CW.seq ?_
  refine CW.seq ?_
  refine CW.region ?_
  refine OW.move rfl rfl ?_
  refine OW.call rfl rfl cl13 (great_does _ was w hx) ?_
  rintro _ w1 ⟨rfl, rfl⟩
  refine OW.move rfl rfl ?_
  refine OW.waysB (s := 11) rfl (fun hg1 => ?_) (fun hg1 => ?_)
  · refine OW.gnoD rfl rfl rfl rfl ?_
    refine OW.gnoD rfl rfl rfl rfl ?_
    refine OW.pickT rfl rfl rfl ?_
    refine OW.nil ?_
    refine NX.seq ?_
    refine CW.condT rfl ?_
    refine CW.seq ?_
    refine CW.region ?_
    refine OW.call rfl rfl cl14 (Dm.wakes_does _) ?_
    rintro _ w9 ⟨rfl, f9⟩
    refine OW.assign rfl rfl ?_
    refine OW.nil ?_
    refine NX.seq ?_
    refine CW.ret ?_
    refine NX.thenRet ?_
    exact NX.ret1 rfl rfl (⟨rfl, f9⟩)
  · refine OW.gyes rfl rfl ?_
    refine OW.move rfl rfl ?_
    refine OW.gyes rfl rfl ?_
    refine OW.call rfl rfl cl13 (great_does _ now w1 hy) ?_
    rintro _ w2 ⟨rfl, rfl⟩
    refine OW.pickF rfl rfl rfl ?_
    refine OW.nil ?_
    refine NX.seq ?_
    refine CW.condB rfl (fun hg2 => ?_) (fun hg2 => ?_)
    · refine CW.seq ?_
      refine CW.region ?_
      refine OW.call rfl rfl cl14 (Dm.wakes_does _) ?_
      rintro _ w9 ⟨rfl, f9⟩
      refine OW.assign rfl rfl ?_
      refine OW.nil ?_
      refine NX.seq ?_
      refine CW.ret ?_
      refine NX.thenRet ?_
      exact NX.ret1 rfl rfl (⟨rfl, f9⟩)
    · obtain ⟨h1, h2⟩ := greatS_false hg1
      obtain ⟨h3, h4⟩ := greatS_false hg2
      refine CW.skip ?_
      refine NX.seq ?_
      refine CW.seq ?_
      refine CW.region ?_
      refine OW.move rfl rfl ?_
      refine OW.move rfl rfl ?_
      refine OW.call rfl rfl cl16 (Dk.between_does w2 hx hy (by omega) (by omega) (fun r hr => wt_ok (h4 r hr))) ?_
      rintro _ w3 ⟨hm, f3⟩
      obtain ⟨ms, hms⟩ : ∃ ms, ms = betweenS was now := ⟨_, rfl⟩
      have hlen := between_len was now
      rw [← hms] at hm hlen
      obtain ⟨pm, cm, hvm, hnm⟩ := hm.shape
      subst hvm
      obtain ⟨n, hn⟩ : ∃ n, n = nGone was now := ⟨_, rfl⟩
      refine OW.assign rfl rfl ?_
      refine OW.nil ?_
      refine NX.seq ?_
      refine CW.seq ?_
      refine CW.region ?_
      refine OW.assign rfl rfl ?_
      refine OW.nil ?_
      refine NX.seq ?_
      refine CW.seq ?_
      refine CW.region ?_
      refine OW.assign rfl rfl ?_
      refine OW.nil ?_
      refine NX.seq ?_
      refine CW.seq ?_
      refine CW.seq ?_
      refine CW.region ?_
      refine OW.assign rfl rfl ?_
      refine OW.nil ?_
      refine NX.seq ?_
      refine CW.block ?_
      refine CW.loop (α := Nat) (fun i => [(0, .slice pa was.length ca), (1, .slice pb now.length cb), (5, .slice pm ms.length cm), (6, .bool (decide (n < i))), (7, .int .i64 (rkAt ms n i)), (8, .int .i64 ((i : Nat) : Int))]) (fun i u => i ≤ ms.length ∧ u = w3) (fun i => ms.length - i) 0 (Sub.cons rfl (Sub.cons rfl (Sub.cons rfl (Sub.cons (congrArg (fun b => some (Value.bool b)) (decide_eq_false (Nat.not_lt_zero n)).symm) (Sub.cons rfl (Sub.cons rfl (Sub.nil _))))))) ⟨by omega, rfl⟩ ?_
      rintro i u ⟨hi, rfl⟩
      refine CW.seq ?_
      refine CW.seq ?_
      refine CW.region ?_
      refine OW.move rfl rfl ?_
      refine OW.move rfl rfl ?_
      refine OW.len rfl el26 rfl ?_
      refine OW.lss rfl rfl rfl ?_
      refine OW.nil ?_
      refine NX.seq ?_
      refine CW.cond rfl (fun hlt => ?_) (fun hlt => ?_)
      · have hil : i < ms.length := by omega
        obtain ⟨b, o, hp, hrow⟩ := SlR.at' hm hil
        obtain ⟨m, hmi⟩ : ∃ m, ms[i]? = some m := ⟨_, List.getElem?_eq_getElem hil⟩
        obtain ⟨c, sg, rc, ec, cvx, erc, _, _⟩ := hrow i m hmi
        subst erc
        subst ec
        have hmb := hmi
        rw [hms] at hmb
        refine CW.skip ?_
        refine NX.seq ?_
        refine CW.seq ?_
        refine CW.block ?_
        refine CW.seq ?_
        refine CW.region ?_
        refine OW.move rfl rfl ?_
        refine OW.move rfl rfl ?_
        refine OW.indexAddr (b := b) (o := o) rfl el26 (by rw [← hp]; rfl) rfl (⟨by omega, by omega⟩) ?_
        refine OW.fieldAddr rfl fo45_2 rfl ?_
        refine OW.load1 rfl ct38 rfl (sg.one 2 rfl) ?_
        refine OW.nil ?_
        refine NX.seq ?_
        refine CW.block ?_
        refine CW.seq ?_
        refine CW.region ?_
        refine OW.eql rfl rfl rfl ?_
        refine OW.assign rfl rfl ?_
        refine OW.nil ?_
        refine NX.seq ?_
        refine CW.cond rfl (fun h5 => ?_) (fun h5 => ?_)
        · have hlt3 : i < n := by
            rcases Nat.lt_or_ge i n with g | g
            · exact g
            · have := between_add hmb (hn ▸ g); omega
          refine CW.seq ?_
          refine CW.region ?_
          refine OW.move rfl rfl ?_
          refine OW.nil ?_
          refine NX.seq ?_
          refine CW.cond rfl (fun ha => ?_) (fun ha => ?_)
          · omega
          · refine CW.skip ?_
            refine NX.blockN ?_
            refine NX.blockN ?_
            refine NX.seq ?_
            refine CW.region ?_
            refine OW.move rfl rfl ?_
            refine OW.add rfl rfl rfl (by omega) ?_
            refine OW.assign rfl rfl ?_
            refine OW.nil ?_
            refine NX.slot (s := 6) rfl (congrArg Value.bool (show decide (n < i) = decide (n < i + 1) from decide_eq_decide.2 (by omega))) ?_
            refine NX.slot (s := 7) rfl (congrArg (Value.int .i64) (show rkAt ms n i = rkAt ms n (i + 1) from by unfold rkAt; rw [if_neg (by omega), if_neg (by omega)])) ?_
            exact NX.loop (i + 1) ((Sub.cons rfl (Sub.cons rfl (Sub.cons rfl (Sub.cons rfl (Sub.cons rfl (Sub.cons rfl (Sub.nil _)))))))) (⟨by omega, rfl⟩) (by omega)
        · have hge3 : n ≤ i := by
            rcases Nat.lt_or_ge i n with g | g
            · exact absurd (between_gone hmb (hn ▸ g)) h5
            · exact g
          have hact := between_add hmb (hn ▸ hge3)
          refine CW.seq ?_
          refine CW.region ?_
          refine OW.eql rfl rfl rfl ?_
          refine OW.assign rfl rfl ?_
          refine OW.nil ?_
          refine NX.seq ?_
          refine CW.cond rfl (fun h0 => ?_) (fun h0 => ?_)
          · refine CW.seq ?_
            refine CW.seq ?_
            refine CW.region ?_
            refine OW.move rfl rfl ?_
            refine OW.move rfl rfl ?_
            refine OW.ways (s := 36) rfl (fun ha => ?_) (fun ha => ?_)
            · refine OW.gyes rfl rfl ?_
              refine OW.move rfl rfl ?_
              refine OW.gyes rfl rfl ?_
              refine OW.move rfl rfl ?_
              refine OW.gyes rfl rfl ?_
              refine OW.indexAddr (b := b) (o := o) rfl el26 (by rw [← hp]; rfl) rfl (⟨by omega, by omega⟩) ?_
              refine OW.gyes rfl rfl ?_
              refine OW.fieldAddr rfl fo45_3 rfl ?_
              refine OW.gyes rfl rfl ?_
              refine OW.fieldAddr rfl fo36_0 rfl ?_
              refine OW.gyes rfl rfl ?_
              refine OW.load1 rfl ct3 rfl (sg.one 3 rfl) ?_
              refine OW.gyes rfl rfl ?_
              refine OW.move rfl rfl ?_
              refine OW.gyes rfl rfl ?_
              refine OW.gtr rfl rfl rfl ?_
              refine OW.pickT rfl rfl rfl ?_
              refine OW.nil ?_
              refine NX.seq ?_
              refine CW.cond rfl (fun hgt => ?_) (fun hgt => ?_)
              · exfalso
                obtain ⟨m0, hm0⟩ : ∃ m0, ms[i - 1]? = some m0 := ⟨_, List.getElem?_eq_getElem (by omega)⟩
                have hm0b := hm0
                rw [hms] at hm0b
                have := between_falls hm0b (m' := m) (by rw [show i - 1 + 1 = i by omega]; exact hmb) (by omega)
                unfold rkAt at hgt
                rw [if_pos ha, hm0] at hgt
                simp only [Option.elim_some] at hgt
                omega
              · refine CW.skip ?_
                refine NX.seq ?_
                refine CW.seq ?_
                refine CW.region ?_
                refine OW.assign rfl rfl ?_
                refine OW.nil ?_
                refine NX.seq ?_
                refine CW.region ?_
                refine OW.move rfl rfl ?_
                refine OW.move rfl rfl ?_
                refine OW.indexAddr (b := b) (o := o) rfl el26 (by rw [← hp]; rfl) rfl (⟨by omega, by omega⟩) ?_
                refine OW.fieldAddr rfl fo45_3 rfl ?_
                refine OW.fieldAddr rfl fo36_0 rfl ?_
                refine OW.load1 rfl ct3 rfl (sg.one 3 rfl) ?_
                refine OW.assign rfl rfl ?_
                refine OW.nil ?_
                refine NX.blockN ?_
                refine NX.blockN ?_
                refine NX.seq ?_
                refine CW.region ?_
                refine OW.move rfl rfl ?_
                refine OW.add rfl rfl rfl (by omega) ?_
                refine OW.assign rfl rfl ?_
                refine OW.nil ?_
                refine NX.slot (s := 6) rfl (congrArg Value.bool (show true = decide (n < i + 1) from (decide_eq_true (by omega)).symm)) ?_
                refine NX.slot (s := 7) rfl (congrArg (Value.int .i64) (show m.rule.rank = rkAt ms n (i + 1) from by unfold rkAt; rw [if_pos (by omega), Nat.add_sub_cancel, hmi]; rfl)) ?_
                exact NX.loop (i + 1) ((Sub.cons rfl (Sub.cons rfl (Sub.cons rfl (Sub.cons rfl (Sub.cons rfl (Sub.cons rfl (Sub.nil _)))))))) (⟨by omega, rfl⟩) (by omega)
            · refine OW.gnoD rfl rfl rfl rfl ?_
              refine OW.gnoD rfl rfl rfl rfl ?_
              refine OW.gnoD rfl rfl rfl rfl ?_
              refine OW.gnoD rfl rfl rfl rfl ?_
              refine OW.gnoD rfl rfl rfl rfl ?_
              refine OW.gnoD rfl rfl rfl rfl ?_
              refine OW.gnoD rfl rfl rfl rfl ?_
              refine OW.gnoD rfl rfl rfl rfl ?_
              refine OW.pickF rfl rfl rfl ?_
              refine OW.nil ?_
              refine NX.seq ?_
              refine CW.condF rfl ?_
              refine CW.skip ?_
              refine NX.seq ?_
              refine CW.seq ?_
              refine CW.region ?_
              refine OW.assign rfl rfl ?_
              refine OW.nil ?_
              refine NX.seq ?_
              refine CW.region ?_
              refine OW.move rfl rfl ?_
              refine OW.move rfl rfl ?_
              refine OW.indexAddr (b := b) (o := o) rfl el26 (by rw [← hp]; rfl) rfl (⟨by omega, by omega⟩) ?_
              refine OW.fieldAddr rfl fo45_3 rfl ?_
              refine OW.fieldAddr rfl fo36_0 rfl ?_
              refine OW.load1 rfl ct3 rfl (sg.one 3 rfl) ?_
              refine OW.assign rfl rfl ?_
              refine OW.nil ?_
              refine NX.blockN ?_
              refine NX.blockN ?_
              refine NX.seq ?_
              refine CW.region ?_
              refine OW.move rfl rfl ?_
              refine OW.add rfl rfl rfl (by omega) ?_
              refine OW.assign rfl rfl ?_
              refine OW.nil ?_
              refine NX.slot (s := 6) rfl (congrArg Value.bool (show true = decide (n < i + 1) from (decide_eq_true (by omega)).symm)) ?_
              refine NX.slot (s := 7) rfl (congrArg (Value.int .i64) (show m.rule.rank = rkAt ms n (i + 1) from by unfold rkAt; rw [if_pos (by omega), Nat.add_sub_cancel, hmi]; rfl)) ?_
              exact NX.loop (i + 1) ((Sub.cons rfl (Sub.cons rfl (Sub.cons rfl (Sub.cons rfl (Sub.cons rfl (Sub.cons rfl (Sub.nil _)))))))) (⟨by omega, rfl⟩) (by omega)
          · exact absurd hact h0
      · refine CW.exit ?_
        refine NX.thenExit ?_
        refine NX.thenExit ?_
        refine NX.blockEq ?_
        refine NX.seq ?_
        refine CW.seq ?_
        refine CW.region ?_
        refine OW.move rfl rfl ?_
        refine OW.len rfl el26 rfl ?_
        refine OW.move rfl rfl ?_
        refine OW.len rfl el22 rfl ?_
        refine OW.move rfl rfl ?_
        refine OW.len rfl el22 rfl ?_
        refine OW.add rfl rfl rfl (by omega) ?_
        refine OW.leq rfl rfl rfl ?_
        refine OW.move rfl rfl ?_
        refine OW.ways (s := 60) rfl (fun hl => ?_) (fun hl => ?_)
        · refine OW.gyes rfl rfl ?_
          refine OW.call rfl rfl cl14 (Dm.wakes_does _) ?_
          rintro _ w9 ⟨rfl, f9⟩
          refine OW.pickT rfl rfl rfl ?_
          refine OW.assign rfl rfl ?_
          refine OW.nil ?_
          refine NX.seq ?_
          refine CW.ret ?_
          exact NX.ret1 rfl rfl (⟨rfl, f3.trans f9⟩)
        · omega

end Go.Eng.Dn
