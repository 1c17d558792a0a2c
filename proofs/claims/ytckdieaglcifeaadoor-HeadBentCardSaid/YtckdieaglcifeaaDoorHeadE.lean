/-
  head: Write and Read as functions of headers; headed.
-/
import Derived.Test.YtckdieaglcifeaaDoorHeadD
import Derived.Test.YtckdieaglcifeaaDoorPick
namespace Go.Proofs.YtckdieaglcifeaaDoor
open Go.RowKit

/-- A header's value. -/
abbrev rv (r : HRaw) : Value := .agg #[.string (bs r.name), .string (bs r.link), .string (bs r.user), .string (bs r.group), .string (bs r.front), .int .u8 r.kind.toNat, .int .i64 r.mode, .int .i64 r.uid, .int .i64 r.gid, .int .i64 r.size, .int .i64 r.time, .int .i64 r.major, .int .i64 r.minor]
theorem hwrite_any (d : Nat) (r : HRaw) (hd1 : 1 ≤ d) (hd4 : d ≤ 4) (hw : r.wf) (w : World) : Calls Tryd.prog 9 #[.int .i64 d, rv r] w (WriteP d r w.heap.size w) := by
  obtain ⟨n, l, u, g, f, k, m1, m2, m3, m4, m5, m6, m7⟩ := r
  exact write_walk d (bs n) (bs l) (bs u) (bs g) (bs f) k m1 m2 m3 m4 m5 m6 m7 hd1 hd4 hw w
/-- Write, where there is room. -/
theorem hwrite_ok (d : Nat) (r : HRaw) (l : List UInt8) (hd1 : 1 ≤ d) (hd4 : d ≤ 4) (hw : r.wf) (h : HWrite d r l) (w : World) :
    Calls Tryd.prog 9 #[.int .i64 d, rv r] w fun e w' => e = .returned (.tuple #[.string (bs l), .nilIface]) ∧ Below w.heap.size w w' := by
  refine (hwrite_any d r hd1 hd4 hw w).mono ?_
  rintro e w' ⟨hb, ⟨s, rfl, hs⟩ | ⟨s, x, rfl, hn⟩⟩
  · rw [write_one h hs, bs_of]; exact ⟨rfl, hb⟩
  · exact absurd h (hn l)
theorem hread_any (l : List UInt8) (hl : l.length = 512) (hR : rightL l = true) (r : HRaw) (D : Nat) (hH : HRead l r D) (hk0 : (fld l 156 1).headD 0 ≠ 0) (w : World) :
    Calls Tryd.prog 10 #[.string (bs l)] w fun e w' => e = .returned (.tuple #[rv r, .int .i64 D, .nilIface]) ∧ Below w.heap.size w w' := by
  obtain ⟨n, lk, u, g, f, k, m1, m2, m3, m4, m5, m6, m7⟩ := r
  exact read_walk (bs l) (by rw [bs_size]; omega) (by rw [bs_size]; omega) hR (bs n) (bs lk) (bs u) (bs g) (bs f) k m1 m2 m3 m4 m5 m6 m7 D hH hk0 w
/-- Read, of what Write wrote. -/
theorem hread_ok (d : Nat) (r : HRaw) (l : List UInt8) (hd1 : 1 ≤ d) (hd4 : d ≤ 4) (hw : r.wf) (h : HWrite d r l) (w : World) :
    Calls Tryd.prog 10 #[.string (bs l)] w fun e w' => e = .returned (.tuple #[rv r, .int .i64 (wantD d), .nilIface]) ∧ Below w.heap.size w w' := by
  refine hread_any l (write_len h) (write_right h) r _ (write_read hd1 hd4 hw h) ?_ w
  obtain ⟨hk, _, ht, ls, hn, rfl⟩ := h
  rw [fld_sld _ (body_len hn ht) 156 1 (by omega)]
  have := body_fld hn ht ⟨156, 1, [r.kind]⟩ (List.mem_append_right _ (List.mem_append_right _ (by simp [kFds])))
  simp only at this
  rw [this]
  exact hk

/-- the header that headed writes -/
def hr0 : HRaw := ⟨[97], [], [], [], [], 48, 420, 0, 0, 3, 0, 0, 0⟩
def ls0 : List (List UInt8) := [Num.octal 420 8, Num.octal 0 8, Num.octal 0 8, Num.octal 3 12, Num.octal 0 12, Num.octal 0 8, Num.octal 0 8]
theorem nums0 : NumsOk 2 hr0 ls0 := by
  refine ⟨rfl, fun i hi => ?_⟩
  match i, (show i < 7 from hi) with
  | 0, _ => rfl
  | 1, _ => rfl
  | 2, _ => rfl
  | 3, _ => rfl
  | 4, _ => rfl
  | 5, _ => rfl
  | 6, _ => rfl
def blk0 : List UInt8 := Bk.sld (body hr0 2 ls0)
theorem write0 : HWrite 2 hr0 blk0 := ⟨by decide, ⟨fun h => absurd h (by decide), fun h => absurd h (by decide)⟩, ⟨⟨by decide, by decide⟩, ⟨by decide, by decide⟩, ⟨by decide, by decide⟩, ⟨by decide, by decide⟩, ⟨by decide, by decide⟩⟩, ls0, nums0, rfl⟩
theorem wf0 : hr0.wf := ⟨⟨by decide, by decide⟩, ⟨by decide, by decide⟩, ⟨by decide, by decide⟩, ⟨by decide, by decide⟩, ⟨by decide, by decide⟩, ⟨by decide, by decide⟩, ⟨by decide, by decide⟩⟩
theorem size0 : fld blk0 124 12 = [48, 48, 48, 48, 48, 48, 48, 48, 48, 48, 51, 0] := by
  unfold blk0
  rw [fld_sld _ (body_len nums0 write0.2.2.1) 124 12 (by omega)]
  have := body_fld nums0 write0.2.2.1 ⟨124, 12, Num.octal 3 12⟩ (by simp [allFds, nFds, ls0, nSpots])
  simp only at this
  rw [this]
  decide

set_option maxRecDepth 100000 in
set_option maxHeartbeats 1000000 in
theorem headed_any (w : World) : Calls Tryd.prog 7 #[] w fun e w' => e = .returned (.bool true) ∧ Below w.heap.size w w' := by
  have h1 := fun w => hwrite_ok 2 hr0 blk0 (by decide) (by decide) wf0 write0 w
  have h2 := fun w => hread_ok 2 hr0 blk0 (by decide) (by decide) wf0 write0 w
  obtain ⟨S, hS⟩ : ∃ S, S = bs blk0 := ⟨_, rfl⟩
  rw [← hS] at h1 h2
  have h1' : ∀ w : World, Calls Tryd.prog 9 #[.int .i64 2, .agg #[.string ⟨#[97]⟩, .string ⟨#[]⟩, .string ⟨#[]⟩, .string ⟨#[]⟩, .string ⟨#[]⟩, .int .u8 48, .int .i64 420, .int .i64 0, .int .i64 0, .int .i64 3, .int .i64 0, .int .i64 0, .int .i64 0]] w fun e w' => e = .returned (.tuple #[.string S, .nilIface]) ∧ Below w.heap.size w w' := h1
  have h2' : ∀ w : World, Calls Tryd.prog 10 #[.string S] w fun e w' => e = .returned (.tuple #[.agg #[.string ⟨#[97]⟩, .string ⟨#[]⟩, .string ⟨#[]⟩, .string ⟨#[]⟩, .string ⟨#[]⟩, .int .u8 48, .int .i64 420, .int .i64 0, .int .i64 0, .int .i64 3, .int .i64 0, .int .i64 0, .int .i64 0], .int .i64 2, .nilIface]) ∧ Below w.heap.size w w' := h2
  have hsz : (S.size : Int) = 512 := by rw [hS, bs_size, write_len write0]; rfl
  have e1 : (124 : Int) ≤ S.size := by omega
  have e2 : (136 : Int) ≤ S.size := by omega
  have hx : ((S.extract 124 136).toList == [48, 48, 48, 48, 48, 48, 48, 48, 48, 48, 51, 0]) = true := by
    rw [Lib.toList_data, hS]
    have := ext_mid (bs blk0) 124 12
    rw [show (124 + 12) = 136 from rfl] at this
    rw [this]
    have e : ((bs blk0).data.toList.drop 124).take 12 = fld blk0 124 12 := rfl
    rw [e, size0]; decide
  have H1 := Lib.hid h1'
  have H2 := Lib.hid h2'
  clear h1 h2 h1' h2' hS
  go_enter Tryd.func7, Tryd.ntmps7
  go_wp2_with fail
  refine (H1.out _).mono ?_
  rintro e w1 ⟨rfl, hb1⟩
  have B1 := Lib.hid hb1
  clear hb1
  go_wp2_with fail
  refine (H2.out _).mono ?_
  rintro e w2 ⟨rfl, hb2⟩
  have B2 := Lib.hid (thenB B1.out hb2)
  clear hb2 B1
  go_wp2_with fail
  go_ret
  exact ⟨rfl, B2.out.alloc B2.out.size _⟩

end Go.Proofs.YtckdieaglcifeaaDoor
