/-
  Messages, whole: what they hold, and how they lie in memory.
  No condition.
-/
import Derived.Test.YtmdhbgkmkmmmpaaDat6
import Derived.Test.YtmdhbgkmkmmmpaaEngU
namespace Go.Eng
open Go

abbrev portR : Rep Nat := numR .u16 65536
theorem portR_ok : portR.Ok 1 := numR_ok _ _

structure Held where
  rule : Rule
  packets : Nat
  bytes : Nat
  deriving DecidableEq

def heldCells (rc : List Value) (p b : Nat) : List Value := rc ++ [.int .u64 p, .int .u64 b]
def heldR : Rep Held := fun X w cs h => ∃ rc, cs = heldCells rc h.packets h.bytes ∧ ruleR X w rc h.rule ∧ h.packets < 18446744073709551616 ∧ h.bytes < 18446744073709551616
theorem heldR_ok : heldR.Ok 27 where
  frame := fun ⟨rc, e, h, b⟩ f hx => ⟨rc, e, ruleR_ok.frame h f hx, b⟩
  mono := fun ⟨rc, e, h, b⟩ hx => ⟨rc, e, ruleR_ok.mono h hx, b⟩
  one := fun ⟨rc, e, h, _⟩ c hc => by
    subst e
    simp only [heldCells, List.mem_append, List.mem_cons, List.not_mem_nil, or_false] at hc
    rcases hc with h1 | rfl | rfl
    · exact ruleR_ok.one h c h1
    all_goals rfl
  len := fun ⟨rc, e, h, _⟩ => by subst e; simp [heldCells, ruleR_ok.len h]

structure Msg where
  typ : Int
  id : Nat
  act : Int
  rule : Rule
  port : Nat
  up : Bool
  sw : Nat
  ports : List Nat
  edge : List Nat
  frame : List Nat
  helds : List Held
  code : Nat
  deriving DecidableEq

def msgXCells (m : Msg) (rc : List Value) (vp ve vf vh : Value) : List Value :=
  .int .i8 m.typ :: .int .u32 m.id :: .int .i8 m.act :: (rc ++ [.int .u16 m.port, .bool m.up, .int .u16 m.sw, vp, ve, vf, vh, .int .u16 m.code])

def Msg.wf (m : Msg) : Prop := -128 ≤ m.typ ∧ m.typ < 128 ∧ m.id < 4294967296 ∧ -128 ≤ m.act ∧ m.act < 128 ∧ m.port < 65536 ∧ m.sw < 65536 ∧ m.code < 65536

def msgXR : Rep Msg := fun X w cs m => ∃ rc vp ve vf vh, cs = msgXCells m rc vp ve vf vh ∧ ruleR X w rc m.rule ∧ SlR 1 portR X w vp m.ports ∧ SlR 1 portR X w ve m.edge ∧ SlR 1 byteR X w vf m.frame ∧ SlR 27 heldR X w vh m.helds ∧ m.wf

theorem msgXR_ok : msgXR.Ok 36 where
  frame := fun ⟨rc, vp, ve, vf, vh, e, h1, h2, h3, h4, h5, hw⟩ f hx => ⟨rc, vp, ve, vf, vh, e, ruleR_ok.frame h1 f hx, h2.frame portR_ok f hx, h3.frame portR_ok f hx, h4.frame byteR_ok f hx, h5.frame heldR_ok f hx, hw⟩
  mono := fun ⟨rc, vp, ve, vf, vh, e, h1, h2, h3, h4, h5, hw⟩ hx => ⟨rc, vp, ve, vf, vh, e, ruleR_ok.mono h1 hx, h2.mono portR_ok hx, h3.mono portR_ok hx, h4.mono byteR_ok hx, h5.mono heldR_ok hx, hw⟩
  one := fun ⟨rc, vp, ve, vf, vh, e, h1, h2, h3, h4, h5, hw⟩ c hc => by
    subst e
    simp only [msgXCells, List.mem_cons, List.mem_append, List.not_mem_nil, or_false] at hc
    rcases hc with rfl | rfl | rfl | h | rfl | rfl | rfl | rfl | rfl | rfl | rfl | rfl
    · rfl
    · rfl
    · rfl
    · exact ruleR_ok.one h1 c h
    · rfl
    · rfl
    · rfl
    · exact h2.one
    · exact h3.one
    · exact h4.one
    · exact h5.one
    · rfl
  len := fun ⟨rc, vp, ve, vf, vh, e, h1, _⟩ => by subst e; simp [msgXCells, ruleR_ok.len h1]

/-- a message that bears a rule, as a message -/
def RMsg.msg (m : RMsg) : Msg := ⟨5, 0, m.act, m.rule, 0, false, 0, [], [], [], [], 0⟩

theorem RMsg.msg_inj {a b : RMsg} (h : a.msg = b.msg) : a = b := by
  cases a; cases b
  simp only [RMsg.msg, Msg.mk.injEq] at h
  simp [h.2.2.1, h.2.2.2.1]

theorem msgR_x {X : Nat → Prop} {w : World} {cs : List Value} {m : RMsg} (h : msgR X w cs m) (ha : -128 ≤ m.act ∧ m.act < 128) : msgXR X w cs m.msg := by
  obtain ⟨rc, rfl, h1⟩ := h
  exact ⟨rc, .slice none 0 0, .slice none 0 0, .slice none 0 0, .slice none 0 0, rfl, h1, .inl ⟨none, 0, rfl, rfl⟩, .inl ⟨none, 0, rfl, rfl⟩, .inl ⟨none, 0, rfl, rfl⟩, .inl ⟨none, 0, rfl, rfl⟩,
    by simp only [RMsg.msg]; omega, by simp only [RMsg.msg]; omega, by simp only [RMsg.msg]; omega, ha.1, ha.2, by simp only [RMsg.msg]; omega, by simp only [RMsg.msg]; omega, by simp only [RMsg.msg]; omega⟩

theorem msgsR_x {X : Nat → Prop} {w : World} {v : Value} {l : List RMsg} (h : SlR 36 msgR X w v l) (ha : ∀ m ∈ l, -128 ≤ m.act ∧ m.act < 128) : SlR 36 msgXR X w v (l.map RMsg.msg) := by
  rcases h with ⟨p, cap, rfl, rfl⟩ | ⟨b, o, cap, h1, h2, h3, h4, h5, h6⟩
  · exact .inl ⟨p, cap, rfl, rfl⟩
  · refine .inr ⟨b, o, cap, by simpa using h1, h2, h3, by simpa using h4, by simpa using h5, fun i x hx => ?_⟩
    rw [List.getElem?_map] at hx
    simp only [Option.map_eq_some_iff] at hx
    obtain ⟨m, hm, rfl⟩ := hx
    obtain ⟨c, g1, g2⟩ := h6 i m hm
    exact ⟨c, g1, msgR_x g2 (ha m (List.mem_of_getElem? hm))⟩

end Go.Eng
