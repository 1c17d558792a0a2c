/-
  volume: headers and volumes; plain facts.
-/
import Derived.Test.YtdhnjbiigpiecaaDoorHeadLaws
namespace Go.Proofs.YtdhnjbiigpiecaaDoor

def vname : List UInt8 := [86, 79, 76, 85, 77, 69]
/-- A volume's header: number i of n, z bytes. -/
def vraw (i n z : Nat) : HRaw := ⟨vname, [], [], [], [], 77, i, n, 0, z, 0, 0, 0⟩
def vnums (i n z : Nat) : List (List UInt8) := [Num.octal i 8, Num.octal n 8, Num.octal 0 8, Num.octal z 12, Num.octal 0 12, Num.octal 0 8, Num.octal 0 8]
def vhdr (i n z : Nat) : List UInt8 := Bk.sld (body (vraw i n z) 3 (vnums i n z))
theorem numW_oct (b : Bool) (W n : Nat) (h : n ≤ Num.most W) : numW b W n = some (Num.octal n W) := by
  unfold numW
  rw [if_pos ⟨by omega, by omega⟩]
  rfl
theorem vnums_ok {i n z : Nat} (hi : i ≤ 1000000) (hn : n ≤ 1000000) (hz : z ≤ 1000000) : NumsOk 3 (vraw i n z) (vnums i n z) := by
  have m8 : Num.most 8 = 2097151 := by decide
  have m12 : Num.most 12 = 8589934591 := by decide
  refine ⟨rfl, fun j hj => ?_⟩
  rcases (by simp [vnums] at hj; omega : j = 0 ∨ j = 1 ∨ j = 2 ∨ j = 3 ∨ j = 4 ∨ j = 5 ∨ j = 6) with rfl | rfl | rfl | rfl | rfl | rfl | rfl
  · exact numW_oct _ 8 i (by omega)
  · exact numW_oct _ 8 n (by omega)
  · exact numW_oct _ 8 0 (by omega)
  · exact numW_oct _ 12 z (by omega)
  · exact numW_oct _ 12 0 (by omega)
  · exact numW_oct _ 8 0 (by omega)
  · exact numW_oct _ 8 0 (by omega)
theorem vhdr_ok {i n z : Nat} (hi : i ≤ 1000000) (hn : n ≤ 1000000) (hz : z ≤ 1000000) : HWrite 3 (vraw i n z) (vhdr i n z) :=
  ⟨by simp [vraw], ⟨fun h => absurd h (by decide), fun _ => rfl⟩, ⟨⟨by simp [vraw, vname], by simp [vraw, vname]⟩, ⟨by simp [vraw], by simp [vraw]⟩, ⟨by simp [vraw], by simp [vraw]⟩, ⟨by simp [vraw], by simp [vraw]⟩, ⟨by simp [vraw], by simp [vraw]⟩⟩, vnums i n z, vnums_ok hi hn hz, rfl⟩
theorem vraw_wf {i n z : Nat} (hi : i ≤ 1000000) (hn : n ≤ 1000000) (hz : z ≤ 1000000) : (vraw i n z).wf := by
  refine ⟨⟨?_, ?_⟩, ⟨?_, ?_⟩, ⟨?_, ?_⟩, ⟨?_, ?_⟩, ⟨?_, ?_⟩, ⟨?_, ?_⟩, ⟨?_, ?_⟩⟩ <;> simp [vraw] <;> omega
theorem vhdr_len {i n z : Nat} (hi : i ≤ 1000000) (hn : n ≤ 1000000) (hz : z ≤ 1000000) : (vhdr i n z).length = 512 := write_len (vhdr_ok hi hn hz)

/-- A volume. -/
def vol (i n : Nat) (p : List UInt8) : List UInt8 := vhdr i n p.length ++ Bk.fill p

/-- What Split cuts: part i. -/
def vpart (s : List UInt8) (room i : Nat) : List UInt8 := (s.drop (i * room)).take room
theorem vpart_len (s : List UInt8) (room i : Nat) : (vpart s room i).length = min room (s.length - i * room) := by simp [vpart]
/-- How many volumes. -/
def vmany (len room : Nat) : Nat := max 1 ((len + room - 1) / room)
theorem vpart_all (s : List UInt8) (room : Nat) : ∀ n, ((List.range n).map (vpart s room)).flatten = s.take (n * room)
  | 0 => by simp
  | n + 1 => by
    rw [List.range_succ, List.map_append, List.flatten_append, vpart_all s room n, Nat.succ_mul]
    simp only [List.map_cons, List.map_nil, List.flatten_cons, List.flatten_nil, List.append_nil, vpart]
    rw [← List.take_add]
theorem vmany_all (s : List UInt8) (room : Nat) (h : 0 < room) : s.take (vmany s.length room * room) = s := by
  refine List.take_of_length_le ?_
  unfold vmany
  have h1 := Nat.div_add_mod (s.length + room - 1) room
  have h2 := Nat.mod_lt (s.length + room - 1) h
  have h3 : ((s.length + room - 1) / room) * room ≤ max 1 ((s.length + room - 1) / room) * room := Nat.mul_le_mul_right _ (Nat.le_max_right _ _)
  rw [Nat.mul_comm] at h1
  omega
theorem vmany_lt (len room i : Nat) (h : 0 < room) (hi : i < vmany len room) : i * room ≤ len := by
  unfold vmany at hi
  rcases Nat.lt_or_ge i 1 with h0 | h0
  · obtain rfl : i = 0 := by omega
    omega
  · have h1 : i < (len + room - 1) / room := by omega
    have h2 : (i + 1) * room ≤ len + room - 1 := (Nat.le_div_iff_mul_le h).1 h1
    rw [Nat.succ_mul] at h2
    omega
theorem vmany_le (len room : Nat) (h : 512 ≤ room) (hl : len ≤ 8000) : vmany len room ≤ 16 := by
  unfold vmany
  have : (len + room - 1) / room ≤ 16 := by
    apply Nat.le_of_lt_succ
    rw [Nat.div_lt_iff_lt_mul (by omega)]
    omega
  omega

end Go.Proofs.YtdhnjbiigpiecaaDoor
