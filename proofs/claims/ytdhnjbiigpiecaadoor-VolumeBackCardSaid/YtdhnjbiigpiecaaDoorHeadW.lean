/-
  head: Write and Read as functions of headers.
-/
import Derived.Test.YtdhnjbiigpiecaaDoorHeadD
import Derived.Test.YtdhnjbiigpiecaaDoorPick
namespace Go.Proofs.YtdhnjbiigpiecaaDoor
open Go.RowKit

/-- A header's value. -/
abbrev rv (r : HRaw) : Value := .agg #[.string (bs r.name), .string (bs r.link), .string (bs r.user), .string (bs r.group), .string (bs r.front), .int .u8 r.kind.toNat, .int .i64 r.mode, .int .i64 r.uid, .int .i64 r.gid, .int .i64 r.size, .int .i64 r.time, .int .i64 r.major, .int .i64 r.minor]
theorem hwrite_any (d : Nat) (r : HRaw) (hd1 : 1 ≤ d) (hd4 : d ≤ 4) (hw : r.wf) (w : World) : Calls Tryd.prog 13 #[.int .i64 d, rv r] w (WriteP d r w.heap.size w) := by
  obtain ⟨n, l, u, g, f, k, m1, m2, m3, m4, m5, m6, m7⟩ := r
  exact write_walk d (bs n) (bs l) (bs u) (bs g) (bs f) k m1 m2 m3 m4 m5 m6 m7 hd1 hd4 hw w
/-- Write, where there is room. -/
theorem hwrite_ok (d : Nat) (r : HRaw) (l : List UInt8) (hd1 : 1 ≤ d) (hd4 : d ≤ 4) (hw : r.wf) (h : HWrite d r l) (w : World) :
    Calls Tryd.prog 13 #[.int .i64 d, rv r] w fun e w' => e = .returned (.tuple #[.string (bs l), .nilIface]) ∧ Below w.heap.size w w' := by
  refine (hwrite_any d r hd1 hd4 hw w).mono ?_
  rintro e w' ⟨hb, ⟨s, rfl, hs⟩ | ⟨s, x, rfl, hn⟩⟩
  · rw [write_one h hs, bs_of]; exact ⟨rfl, hb⟩
  · exact absurd h (hn l)
theorem hread_any (l : List UInt8) (hl : l.length = 512) (hR : rightL l = true) (r : HRaw) (D : Nat) (hH : HRead l r D) (hk0 : (fld l 156 1).headD 0 ≠ 0) (w : World) :
    Calls Tryd.prog 33 #[.string (bs l)] w fun e w' => e = .returned (.tuple #[rv r, .int .i64 D, .nilIface]) ∧ Below w.heap.size w w' := by
  obtain ⟨n, lk, u, g, f, k, m1, m2, m3, m4, m5, m6, m7⟩ := r
  exact read_walk (bs l) (by rw [bs_size]; omega) (by rw [bs_size]; omega) hR (bs n) (bs lk) (bs u) (bs g) (bs f) k m1 m2 m3 m4 m5 m6 m7 D hH hk0 w
/-- Read, of what Write wrote. -/
theorem hread_ok (d : Nat) (r : HRaw) (l : List UInt8) (hd1 : 1 ≤ d) (hd4 : d ≤ 4) (hw : r.wf) (h : HWrite d r l) (w : World) :
    Calls Tryd.prog 33 #[.string (bs l)] w fun e w' => e = .returned (.tuple #[rv r, .int .i64 (wantD d), .nilIface]) ∧ Below w.heap.size w w' := by
  refine hread_any l (write_len h) (write_right h) r _ (write_read hd1 hd4 hw h) ?_ w
  obtain ⟨hk, _, ht, ls, hn, rfl⟩ := h
  rw [fld_sld _ (body_len hn ht) 156 1 (by omega)]
  have := body_fld hn ht ⟨156, 1, [r.kind]⟩ (List.mem_append_right _ (List.mem_append_right _ (by simp [kFds])))
  simp only at this
  rw [this]
  exact hk

end Go.Proofs.YtdhnjbiigpiecaaDoor
