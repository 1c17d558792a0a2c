/-
  Two files, one against the other.
-/
import Derived.Test.YtehooifcgfkngaaDoorTreeA
import Derived.Laws.StructEq
import Derived.Lib.Strings
namespace Go.Proofs.YtehooifcgfkngaaDoor
open Go.RowKit Go.Maps Tre

def nodeB (a b : Nd) : Bool := (((a.kind : Int) == b.kind) && (a.mode == b.mode) && (a.uid == b.uid) && (a.gid == b.gid) && ((a.sec == b.sec) && (a.nano == b.nano)) && (a.data == b.data) && (a.link == b.link) && (a.major == b.major) && (a.minor == b.minor))
theorem nodeB_iff (a b : Nd) : nodeB a b = true ↔ a = b := by
  obtain ⟨a0, a1, a2, a3, a4, a5, a6, a7, a8, a9⟩ := a
  obtain ⟨b0, b1, b2, b3, b4, b5, b6, b7, b8, b9⟩ := b
  unfold nodeB
  simp only [Bool.and_eq_true, beq_iff_eq, Nd.mk.injEq]
  constructor
  · rintro ⟨⟨⟨⟨⟨⟨⟨⟨h0, h1⟩, h2⟩, h3⟩, h4, h5⟩, h6⟩, h7⟩, h8⟩, h9⟩
    exact ⟨by omega, h1, h2, h3, h4, h5, h6, h7, h8, h9⟩
  · rintro ⟨h0, h1, h2, h3, h4, h5, h6, h7, h8, h9⟩
    exact ⟨⟨⟨⟨⟨⟨⟨⟨by omega, h1⟩, h2⟩, h3⟩, h4, h5⟩, h6⟩, h7⟩, h8⟩, h9⟩
theorem node_eql (w : World) (a b : Nd) : (binOp .eql 35 (ndv a) (ndv b)).run Tryd.prog w = .ok (.bool (nodeB a b)) w := by
  obtain ⟨a0, a1, a2, a3, a4, a5, a6, a7, a8, a9⟩ := a
  obtain ⟨b0, b1, b2, b3, b4, b5, b6, b7, b8, b9⟩ := b
  have h1 := Tryd.underlying3
  have h2 := Tryd.underlying9
  have h3 := Tryd.underlying5
  have h4 : Tryd.prog.underlying 33 = some (.struct (Tryd.prog.fieldsOf 33)) := by kernel_rfl
  have h5 : Tryd.prog.stoodInHeld 33 = false := by kernel_rfl
  unfold ndv ndc nodeB
  rw [run_eql_struct, run_equalIn_agg w 9999 35 _ _ (by kernel_rfl) (by kernel_rfl)]
  simp [go_sem, h1, h2, h3, h5]
  have s : ∀ l : List UInt8, (bs l).toList = l := fun l => Lib.toList_data _
  rw [s, s, s, s]
  clear h1 h2 h3 h4 h5 s
  by_cases e0 : (a0 : Int) = (b0 : Int)
  case neg => rw [if_neg e0]; simp [e0]
  rw [if_pos e0]
  by_cases e1 : a1 = b1
  case neg => rw [if_neg e1]; simp [e1]
  rw [if_pos e1]
  by_cases e2 : a2 = b2
  case neg => rw [if_neg e2]; simp [e2]
  rw [if_pos e2]
  by_cases e3 : a3 = b3
  case neg => rw [if_neg e3]; simp [e3]
  rw [if_pos e3]
  by_cases e4 : a4 = b4
  case neg => rw [if_neg e4]; simp [e4]
  rw [if_pos e4]
  by_cases e5 : a5 = b5
  case neg => rw [if_neg e5]; simp [e5]
  rw [if_pos e5]
  by_cases e6 : a6 = b6
  case neg => rw [if_neg e6]; simp [e6]
  rw [if_pos e6]
  by_cases e7 : a7 = b7
  case neg => rw [if_neg e7]; simp [e7]
  rw [if_pos e7]
  by_cases e8 : a8 = b8
  case neg => rw [if_neg e8]; simp [e8]
  rw [if_pos e8]
  by_cases e9 : a9 = b9
  case neg => rw [if_neg e9]; simp [e9]
  rw [if_pos e9]
  rw [e0, e1, e2, e3, e4, e5, e6, e7, e8, e9]; simp

end Go.Proofs.YtehooifcgfkngaaDoor
