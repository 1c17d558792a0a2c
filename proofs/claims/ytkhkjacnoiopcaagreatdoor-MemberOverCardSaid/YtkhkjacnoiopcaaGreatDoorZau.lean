/-
  head.Write: the walk.
-/
import Derived.Test.YtkhkjacnoiopcaaGreatDoorZat
import Derived.Deep.RegionHeld3
import Derived.Deep.LoopGhost
import Derived.Deep.DeepCutAuto
set_option linter.unusedVariables false
set_option linter.unusedSimpArgs false

set_option linter.unusedVariables false
set_option linter.unusedSimpArgs false
namespace Go.Proofs.YtkhkjacnoiopcaaGreatDoor
open Go.RowKit

theorem keep_cell {w w' : World} {p : Addr} {v : Value} (T : Below w.heap.size w w') (h : w.cell? p = some v) : w'.cell? p = some v := (T.cell (World.block_lt_of_cell? w p h)).trans h
theorem sizeU8 (w : World) : (Go.sizeOf 5).run Tryz.prog w = .ok 1 w := by kernel_rfl
/-- What the fields tell. -/
def hraw (n l u g f : ByteArray) (k : UInt8) (m1 m2 m3 m4 m5 m6 m7 : Int) : HRaw := ⟨n.data.toList, l.data.toList, u.data.toList, g.data.toList, f.data.toList, k, m1, m2, m3, m4, m5, m6, m7⟩
/-- What Write leaves. -/
def WriteP (d : Nat) (H : HRaw) (B : Nat) (w : World) (e : Ending) (w' : World) : Prop :=
  Below B w w' ∧ ((∃ s : ByteArray, e = .returned (.tuple #[.string s, .nilIface]) ∧ HWrite d H s.data.toList) ∨ ∃ (s : ByteArray) (x : Int), e = .returned (.tuple #[.string s, .iface 63 (.int .i64 x)]) ∧ ∀ l, ¬ HWrite d H l)

set_option maxRecDepth 100000 in
theorem zero512 (w : World) : (zeroValue 182).run Tryz.prog w = .ok (.agg (Array.replicate 512 (.int .u8 0))) w := by kernel_rfl

theorem Blk.farCells {w : World} {g : Nat} {t : TypeId} {cs : Array Value} (h : Blk w g t cs) {k : Nat} (hk : g ≠ k) (vs : List Value) : ∀ o, Blk (w.setCells k o vs) g t cs := by
  induction vs generalizing w with
  | nil => intro o; exact h
  | cons v vs ih => intro o; exact ih (h.far hk _) (o + 1)
theorem Bytes.of_zeros {w : World} {g : Nat} {t : TypeId} {n : Nat} (h : Blk w g t (Array.replicate n (.int .u8 0))) : Bytes w g (List.replicate n 0) := fun j hj => by
  refine ⟨?_, h.frozen j⟩
  rw [h.cell j]
  rw [List.length_replicate] at hj
  rw [Array.getElem?_replicate, if_pos hj, List.getElem_replicate]
  rfl

/-- What holds while Write goes on: the header lies as it was, block b holds L. -/
def WSt (w wr : World) (b : Nat) (cs : Array Value) (L : List UInt8) : Prop :=
  Below w.heap.size w wr ∧ w.heap.size < b ∧ b < wr.heap.size ∧ Blk wr w.heap.size 72 cs ∧ Bytes wr b L ∧ L.length = 512
section
variable {w wr wr' : World} {b : Nat} {cs : Array Value} {L : List UInt8}
theorem WSt.bel (h : WSt w wr b cs L) : Below w.heap.size w wr := h.1
theorem WSt.lt (h : WSt w wr b cs L) : b < wr.heap.size := h.2.2.1
theorem WSt.raw (h : WSt w wr b cs L) (i : Nat) : wr.cell? ⟨w.heap.size, i, none⟩ = cs[i]? := h.2.2.2.1.cell i
theorem WSt.byt (h : WSt w wr b cs L) : Bytes wr b L := h.2.2.2.2.1
theorem WSt.len (h : WSt w wr b cs L) : L.length = 512 := h.2.2.2.2.2
theorem WSt.drewN (h : WSt w wr b cs L) (n : Nat) : WSt w (wr.drewN n) b cs L := ⟨below_drewN h.1 n, h.2.1, h.2.2.1, h.2.2.2.1.drewN n, h.2.2.2.2.1.drewN n, h.2.2.2.2.2⟩
theorem WSt.drew (h : WSt w wr b cs L) : WSt w wr.drew b cs L := h.drewN 1
theorem WSt.alloc (h : WSt w wr b cs L) (o : Obj) : WSt w (wr.alloc o) b cs L :=
  ⟨h.1.alloc h.1.size o, h.2.1, by have := h.2.2.1; simp; omega, h.2.2.2.1.alloc o, h.2.2.2.2.1.alloc h.2.2.1 o, h.2.2.2.2.2⟩
theorem WSt.below (h : WSt w wr b cs L) (hb : Below wr.heap.size wr wr') : WSt w wr' b cs L :=
  ⟨thenB h.1 hb, h.2.1, Nat.lt_of_lt_of_le h.2.2.1 hb.size, h.2.2.2.1.below hb h.2.2.2.1.lt, h.2.2.2.2.1.below hb h.2.2.1, h.2.2.2.2.2⟩
theorem WSt.copied (h : WSt w wr b cs L) (a : Nat) (t : ByteArray) (hat : a + t.size ≤ 512) : WSt w (wr.setCells b a (textCells t)) b cs (over L a t.data.toList) := by
  have hl := h.len
  refine ⟨below_setCells h.1 b (by have := h.2.1; omega) _ _, h.2.1, by rw [size_setCells]; exact h.2.2.1, h.2.2.2.1.farCells (by have := h.2.1; omega) _ _, h.byt.copied a t (by omega), ?_⟩
  rw [over_len _ _ _ (by rw [list_size]; omega), hl]
end

theorem t_way (n l u g f : ByteArray) (k : UInt8) (m1 m2 m3 m4 m5 m6 m7 : Int) (i : Nat) (hi : i < 5) : ∃ (a N : Nat) (s : ByteArray),
    (∀ (R : Nat) (w : World), (Instr.index 184 (.agg #[.pointer (some ⟨R, 0, none⟩), .pointer (some ⟨R, 1, none⟩), .pointer (some ⟨R, 2, none⟩), .pointer (some ⟨R, 3, none⟩), .pointer (some ⟨R, 4, none⟩)]) (.int .i64 i)).run Tryz.prog w = .ok (.pointer (some ⟨R, i, none⟩)) w) ∧
    (∀ w : World, (Instr.index 188 tSpots (.int .i64 i)).run Tryz.prog w = .ok (sp a N) w) ∧
    (#[.string n, .string l, .string u, .string g, .string f, .int .u8 k.toNat, .int .i64 m1, .int .i64 m2, .int .i64 m3, .int .i64 m4, .int .i64 m5, .int .i64 m6, .int .i64 m7] : Array Value)[i]? = some (.string s) ∧ (tFds (hraw n l u g f k m1 m2 m3 m4 m5 m6 m7))[i]? = some ⟨a, N, s.data.toList⟩ ∧ a + N ≤ 512 ∧ 1 ≤ N := by
  match i, hi with
  | 0, _ => exact ⟨0, 100, n, fun R w => by kernel_rfl, fun w => by kernel_rfl, rfl, rfl, by decide, by decide⟩
  | 1, _ => exact ⟨157, 100, l, fun R w => by kernel_rfl, fun w => by kernel_rfl, rfl, rfl, by decide, by decide⟩
  | 2, _ => exact ⟨265, 32, u, fun R w => by kernel_rfl, fun w => by kernel_rfl, rfl, rfl, by decide, by decide⟩
  | 3, _ => exact ⟨297, 32, g, fun R w => by kernel_rfl, fun w => by kernel_rfl, rfl, rfl, by decide, by decide⟩
  | 4, _ => exact ⟨345, 155, f, fun R w => by kernel_rfl, fun w => by kernel_rfl, rfl, rfl, by decide, by decide⟩

abbrev ptr7 (R : Nat) : Array Value := #[.pointer (some ⟨R, 6, none⟩), .pointer (some ⟨R, 7, none⟩), .pointer (some ⟨R, 8, none⟩), .pointer (some ⟨R, 9, none⟩), .pointer (some ⟨R, 10, none⟩), .pointer (some ⟨R, 11, none⟩), .pointer (some ⟨R, 12, none⟩)]
theorem n_way (n l u g f : ByteArray) (k : UInt8) (m1 m2 m3 m4 m5 m6 m7 : Int) (hw : (hraw n l u g f k m1 m2 m3 m4 m5 m6 m7).wf) (i : Nat) (hi : i < 7) : ∃ (a N : Nat) (z : Int),
    (∀ w : World, (Instr.index 194 nSpotsV (.int .i64 i)).run Tryz.prog w = .ok (sp a N) w) ∧ (∀ R, (ptr7 R)[i]? = some (.pointer (some ⟨R, 6 + i, none⟩))) ∧
    (#[.string n, .string l, .string u, .string g, .string f, .int .u8 k.toNat, .int .i64 m1, .int .i64 m2, .int .i64 m3, .int .i64 m4, .int .i64 m5, .int .i64 m6, .int .i64 m7] : Array Value)[6 + i]? = some (.int .i64 z) ∧ nSpots[i]? = some (a, N) ∧ (hraw n l u g f k m1 m2 m3 m4 m5 m6 m7).nums[i]? = some z ∧ a + N ≤ 512 ∧ 2 ≤ N ∧ N ≤ 20 ∧ i64 z := by
  obtain ⟨w1, w2, w3, w4, w5, w6, w7⟩ := hw
  match i, hi with
  | 0, _ => exact ⟨100, 8, m1, fun w => by kernel_rfl, fun R => rfl, rfl, rfl, rfl, by decide, by decide, by decide, w1⟩
  | 1, _ => exact ⟨108, 8, m2, fun w => by kernel_rfl, fun R => rfl, rfl, rfl, rfl, by decide, by decide, by decide, w2⟩
  | 2, _ => exact ⟨116, 8, m3, fun w => by kernel_rfl, fun R => rfl, rfl, rfl, rfl, by decide, by decide, by decide, w3⟩
  | 3, _ => exact ⟨124, 12, m4, fun w => by kernel_rfl, fun R => rfl, rfl, rfl, rfl, by decide, by decide, by decide, w4⟩
  | 4, _ => exact ⟨136, 12, m5, fun w => by kernel_rfl, fun R => rfl, rfl, rfl, rfl, by decide, by decide, by decide, w5⟩
  | 5, _ => exact ⟨329, 8, m6, fun w => by kernel_rfl, fun R => rfl, rfl, rfl, rfl, by decide, by decide, by decide, w6⟩
  | 6, _ => exact ⟨337, 8, m7, fun w => by kernel_rfl, fun R => rfl, rfl, rfl, rfl, by decide, by decide, by decide, w7⟩
/-- number.Write, in the words of headers. -/
theorem wnum (z : Int) (N : Nat) (bin : Bool) (h1 : 2 ≤ N) (h2 : N ≤ 20) (hz : i64 z) : ∃ (T : ByteArray) (E : Value), (∀ w : World, Calls Tryz.prog 131 #[.int .i64 z, .int .i64 N, .bool bin] w fun e w' => e = .returned (.tuple #[.string T, E]) ∧ Below w.heap.size w w') ∧
    ((E = .nilIface ∧ numW bin N z = some T.data.toList) ∨ (E = .iface 63 (.int .i64 2) ∧ numW bin N z = none)) := by
  obtain ⟨s, E, h, hs⟩ := write_named z N bin h1 h2 hz.1 hz.2
  refine ⟨s, E, h, ?_⟩
  rcases hs with ⟨rfl, ⟨m, rfl, hm, rfl⟩ | ⟨hb, hbb, rfl⟩⟩ | ⟨rfl, hr, hw⟩
  · left
    refine ⟨rfl, ?_⟩
    unfold numW
    rw [if_pos (by omega)]
    rfl
  · left
    refine ⟨rfl, ?_⟩
    unfold numW
    have := hb.2.1
    rw [if_neg (by omega), if_pos ⟨hbb, hb.1, hb.2.2⟩]
  · right
    refine ⟨rfl, ?_⟩
    unfold numW
    rw [if_neg (by omega), if_neg]
    rintro ⟨g1, g2, g3⟩
    rcases hw with hw | hw | ⟨hw, hw'⟩
    · rw [hw] at g1; cases g1
    · omega
    · have := g3 hw; omega

/-- the numbers' texts, as far as they are written -/
def NumsTo (bin : Bool) (r : HRaw) (ls : List (List UInt8)) : Prop := ∀ i, (h : i < ls.length) → numW bin (nSpots[i]?.getD (0, 0)).2 (r.nums[i]?.getD 0) = some ls[i]
theorem NumsTo.snoc {bin : Bool} {r : HRaw} {ls : List (List UInt8)} (h : NumsTo bin r ls) {a N : Nat} {z : Int} {t : List UInt8} (h1 : nSpots[ls.length]? = some (a, N)) (h2 : r.nums[ls.length]? = some z) (h3 : numW bin N z = some t) : NumsTo bin r (ls ++ [t]) := fun i hi => by
  by_cases hl : i < ls.length
  · rw [List.getElem_append_left hl]; exact h i hl
  · have e : i = ls.length := by simp at hi; omega
    subst e
    rw [h1, h2, List.getElem_append_right (Nat.le_refl _)]
    simpa using h3
theorem nFds_snoc (ls : List (List UInt8)) (t : List UInt8) (a N : Nat) (h1 : nSpots[ls.length]? = some (a, N)) (b : List UInt8) : lay b (nFds (ls ++ [t])) = over (lay b (nFds ls)) a t := by
  have hlt : ls.length < nSpots.length := by
    obtain ⟨h, _⟩ := List.getElem?_eq_some_iff.1 h1; exact h
  have e : nFds (ls ++ [t]) = nFds ls ++ [⟨a, N, t⟩] := by
    unfold nFds
    have hz : nSpots.zip (ls ++ [t]) = nSpots.zip ls ++ [((a, N), t)] := by
      have hsp : nSpots = nSpots.take ls.length ++ (a, N) :: nSpots.drop (ls.length + 1) := by
        obtain ⟨h, e⟩ := List.getElem?_eq_some_iff.1 h1
        rw [← e, ← List.drop_eq_getElem_cons h, List.take_append_drop]
      have hlt2 : (nSpots.take ls.length).length = ls.length := by rw [List.length_take]; omega
      rw [hsp, List.zip_append hlt2]
      have : ∀ (xs : List (Nat × Nat)) (x : Nat × Nat) (ys : List (Nat × Nat)) (ls : List (List UInt8)), xs.length = ls.length → (xs ++ x :: ys).zip ls = xs.zip ls := by
        intro xs x ys ls hl
        have := List.zip_append (l₁ := xs) (r₁ := x :: ys) (l₂ := ls) (r₂ := []) hl
        simpa using this
      rw [this _ _ _ _ hlt2]
      simp
    rw [hz, List.map_append]
    rfl
  rw [e, lay_append]
  rfl

theorem set_over (L : List UInt8) (i : Nat) (c : UInt8) (h : i < L.length) : L.set i c = over L i [c] := by
  unfold over
  rw [List.set_eq_take_append_cons_drop, if_pos h]
  simp
theorem over_nil (L : List UInt8) (i : Nat) : over L i [] = L := by unfold over; simp
theorem WSt.set_ {w wr : World} {b : Nat} {cs : Array Value} {L : List UInt8} (h : WSt w wr b cs L) (i : Nat) (hi : i < 512) (c : UInt8) : WSt w (wr.setCell ⟨b, i, none⟩ (.int .u8 (c.toNat : Int))) b cs (over L i [c]) := by
  have hl := h.len
  rw [← set_over L i c (by omega)]
  exact ⟨h.1.setCell (by have := h.2.1; show _ ≤ b; omega) _, h.2.1, by rw [World.size_setCell]; exact h.2.2.1, h.2.2.2.1.far (by show _ ≠ b; have := h.2.1; omega) _, h.byt.set_ i c, by rw [List.length_set]; exact hl⟩
theorem bs_conv {w : World} {b : Nat} {L : List UInt8} (h : Bytes w b L) (hl : L.length = 512) : (convert 62 9 (.slice (some ⟨b, 0, none⟩) 512 512)).run Tryz.prog w = .ok (.string (bs L)) w :=
  h.text (P := Tryz.prog) Tryz.underlying62 Tryz.underlying5 Tryz.underlying9 512 512 hl

theorem magic_copy {w z : World} {b : Nat} {cs : Array Value} {L : List UInt8} (h : WSt w z b cs L) (M : ByteArray) (hM : M.size = 8) :
    ∃ z2, (Builtin.copy_ #[62, 9] 3 #[.slice (some ⟨b, 257, none⟩) 255 255, .string M]).run Tryz.prog z = .ok (goInt M.size) z2 ∧ WSt w z2 b cs (over L 257 M.data.toList) := by
  have hl := h.len
  have hy := h.byt
  exact ⟨_, run_copy_string (P := Tryz.prog) z 62 9 3 5 b 257 255 255 M Tryz.underlying62 sizeU8 (by omega)
    (fun j hj => by rw [hy.cell (j := 257 + j) (by omega)]; rfl) (fun j hj => hy.frozen (j := 257 + j) (by omega)), h.copied 257 M (by omega)⟩

theorem take_snoc (fs : List Fd) (b : List UInt8) (i : Nat) (x : Fd) (h : fs[i]? = some x) : lay b (fs.take (i + 1)) = over (lay b (fs.take i)) x.at_ x.txt := by
  rw [List.take_add_one, h, lay_append]
  rfl
theorem zero_in (s : ByteArray) (h : 0 ≤ Lib.indexByte s.data.toList 0) : ¬ ∀ x ∈ s.data.toList, x ≠ 0 := by
  generalize s.data.toList = l at h
  intro hx
  induction l with
  | nil => simp [Lib.indexByte] at h
  | cons c l ih =>
    have hc : (c == 0) = false := by simpa using hx c (List.mem_cons_self ..)
    unfold Lib.indexByte at h
    rw [hc] at h
    by_cases h0 : 0 ≤ Lib.indexByte l 0
    · exact ih h0 fun x hm => hx x (List.mem_cons_of_mem _ hm)
    · have hge := Lib.indexByte_ge l 0
      have : Lib.indexByte l 0 = -1 := by omega
      simp [this] at h
theorem tfit_of {r : HRaw} (h : r.tOk) {i : Nat} {a N : Nat} {t : List UInt8} (hi : (tFds r)[i]? = some ⟨a, N, t⟩) : tFit N t := by
  obtain ⟨h1, h2, h3, h4, h5⟩ := h
  have hm := List.mem_of_getElem? hi
  simp only [tFds, List.mem_cons, Fd.mk.injEq, List.not_mem_nil, or_false] at hm
  rcases hm with ⟨_, rfl, rfl⟩ | ⟨_, rfl, rfl⟩ | ⟨_, rfl, rfl⟩ | ⟨_, rfl, rfl⟩ | ⟨_, rfl, rfl⟩ <;> assumption
theorem nozero (s : ByteArray) (h : Lib.indexByte s.data.toList 0 < 0) : ∀ x ∈ s.data.toList, x ≠ 0 := by
  generalize s.data.toList = l at h
  induction l with
  | nil => intro x h; cases h
  | cons c l ih =>
    unfold Lib.indexByte at h
    have hge := Lib.indexByte_ge l 0
    split at h
    · omega
    · rename_i h1
      intro x hx
      rcases List.mem_cons.1 hx with rfl | hx
      · simpa using h1
      · refine ih ?_ x hx
        split at h
        · rename_i h2; have : Lib.indexByte l 0 = -1 := by simpa using h2
          omega
        · omega

set_option maxRecDepth 100000 in
set_option maxHeartbeats 2000000 in
theorem write_walk (d : Nat) (n l u g f : ByteArray) (k : UInt8) (m1 m2 m3 m4 m5 m6 m7 : Int) (hd1 : 1 ≤ d) (hd4 : d ≤ 4) (hw : (hraw n l u g f k m1 m2 m3 m4 m5 m6 m7).wf) (w : World) :
    Calls Tryz.prog 81 #[.int .i64 d, .agg #[.string n, .string l, .string u, .string g, .string f, .int .u8 k.toNat, .int .i64 m1, .int .i64 m2, .int .i64 m3, .int .i64 m4, .int .i64 m5, .int .i64 m6, .int .i64 m7]] w (WriteP d (hraw n l u g f k m1 m2 m3 m4 m5 m6 m7) w.heap.size w) := by
  have WF := Lib.hid hw
  clear hw
  have c1 : ¬ (d : Int) < 1 := by omega
  have c2 : ¬ (4 : Int) < d := by omega
  by_cases hk : k = 0
  · subst hk
    go_enter Tryz.func81, Tryz.ntmps81
    go_wp2_with fail
    go_ret2
    exact ⟨(Below.refl _ _).alloc (Nat.le_refl _) _, .inr ⟨_, _, rfl, fun l h => h.1 rfl⟩⟩
  · have hk' : ((k.toNat : Int) == 0) = false := by
      have : k.toNat ≠ 0 := fun h => hk (UInt8.toNat_inj.1 h)
      simp; omega
    obtain ⟨B, hB⟩ : ∃ B : Bool, B = true ↔ (((d : Int) = 1 → u.toList = [] ∧ g.toList = [] ∧ f.toList = [] ∧ m6 = 0 ∧ m7 = 0) ∧ ((d : Int) = 3 → f.toList = [])) := by
      by_cases h : (((d : Int) = 1 → u.toList = [] ∧ g.toList = [] ∧ f.toList = [] ∧ m6 = 0 ∧ m7 = 0) ∧ ((d : Int) = 3 → f.toList = []))
      · exact ⟨true, by simp only [true_iff]; exact h⟩
      · exact ⟨false, by simp only [Bool.false_eq_true, false_iff]; exact h⟩
    have FI := Lib.hid (fun w => fits_any n l u g f k.toNat m1 m2 m3 m4 m5 m6 m7 d B hB w)
    have HB := Lib.hid hB
    have HK := Lib.hid hk
    clear hB hk
    have hz := zero512
    cases B
    · have hno : ∀ x, ¬ HWrite d (hraw n l u g f k m1 m2 m3 m4 m5 m6 m7) x := fun x h => by
        have hb := HB.out.2 ⟨fun h1 => by
          have := h.2.1.1 (by omega)
          rw [Lib.toList_data, Lib.toList_data, Lib.toList_data]; exact this, fun h3 => by
          have := h.2.1.2 (by omega)
          rw [Lib.toList_data]; exact this⟩
        cases hb
      have HNO := Lib.hid hno
      clear hno
      go_enter Tryz.func81, Tryz.ntmps81
      go_wp2_with fail
      refine (FI.out _).mono ?_
      rintro e w1 ⟨rfl, h1⟩
      have B1 := Lib.hid h1
      clear h1
      go_wp2_with fail
      go_ret2
      exact ⟨thenB ((Below.refl _ _).alloc (Nat.le_refl _) _) B1.out, .inr ⟨_, _, rfl, HNO.out⟩⟩
    · go_enter Tryz.func81, Tryz.ntmps81
      go_wp2_with fail
      refine (FI.out _).mono ?_
      rintro e w1 ⟨rfl, h1⟩
      have B1 := Lib.hid h1
      clear h1
      go_wp2_with fail
      refine (texts_any _ _).mono ?_
      rintro e w2 ⟨rfl, h2⟩
      have hS : WSt w w2 w1.heap.size #[.string n, .string l, .string u, .string g, .string f, .int .u8 k.toNat, .int .i64 m1, .int .i64 m2, .int .i64 m3, .int .i64 m4, .int .i64 m5, .int .i64 m6, .int .i64 m7] blank := by
        have hb := thenB ((Below.refl _ _).alloc (Nat.le_refl _) _) B1.out
        have hs1 := B1.out.size
        have hy1 : WSt w (w1.alloc (Obj.cells (Array.replicate 512 (Value.int IntKind.u8 0)) 182)) w1.heap.size #[.string n, .string l, .string u, .string g, .string f, .int .u8 k.toNat, .int .i64 m1, .int .i64 m2, .int .i64 m3, .int .i64 m4, .int .i64 m5, .int .i64 m6, .int .i64 m7] blank :=
          ⟨hb.alloc hb.size _, by simp at hs1; omega, by simp, ((Blk.new w _ _).below B1.out (by simp)).alloc _, Bytes.of_zeros (Blk.new _ _ _), blank_len⟩
        exact hy1.below h2
      have HS := Lib.hid hS
      obtain ⟨b, hb⟩ : ∃ b, b = w1.heap.size := ⟨_, rfl⟩
      rw [← hb] at HS ⊢
      clear hb h2 hS B1 hz FI
      go_wp2_with fail
      go_loopg [34] 5 (fun gh iv wr => ∃ i : Nat, iv = .int .i64 i ∧ i ≤ 5 ∧ gh + i = 5 ∧ WSt w wr b #[.string n, .string l, .string u, .string g, .string f, .int .u8 k.toNat, .int .i64 m1, .int .i64 m2, .int .i64 m3, .int .i64 m4, .int .i64 m5, .int .i64 m6, .int .i64 m7] (lay blank ((tFds (hraw n l u g f k m1 m2 m3 m4 m5 m6 m7)).take i)) ∧ ∀ x ∈ (tFds (hraw n l u g f k m1 m2 m3 m4 m5 m6 m7)).take i, tFit x.long x.txt)
      case atStart => exact ⟨0, rfl, by omega, by omega, HS.out, fun x h => by cases h⟩
      case round =>
        obtain ⟨i, rfl, hi1, hg, hs, hf⟩ := hrel
        have Hg := Lib.hid hg
        have HW := Lib.hid hs
        have HF := Lib.hid hf
        clear hg hs hf HS
        by_cases hi : i < 5
        · have hi3 : (i : Int) < 5 := by omega
          obtain ⟨a, N, s, hx1, hx2, hcs, hfd, haN, hN1⟩ := t_way n l u g f k m1 m2 m3 m4 m5 m6 m7 i hi
          have HCS := Lib.hid hcs
          have HFD := Lib.hid hfd
          clear hcs hfd
          go_wp2_with fail
          refine (textSpots_any _).mono ?_
          rintro e w3 ⟨rfl, h3⟩
          have H3 := Lib.hid (HW.out.below h3)
          clear h3
          go_wp2_with fail
          obtain ⟨y, hy⟩ : ∃ y, y = w3.alloc (Obj.cells #[.int .i64 (a : Int), .int .i64 (N : Int)] 187) := ⟨_, rfl⟩
          obtain ⟨F, hF⟩ : ∃ F, F = w3.heap.size := ⟨_, rfl⟩
          have hF0 : y.cell? ⟨F, 0, none⟩ = some (.int .i64 (a : Int)) := by rw [hy, hF]; exact (Blk.new _ _ _).cell 0
          have hF1 : y.cell? ⟨F, 1, none⟩ = some (.int .i64 (N : Int)) := by rw [hy, hF]; exact (Blk.new _ _ _).cell 1
          have hFb : b < F := by rw [hF]; exact H3.out.lt
          have hS := H3.out.alloc (Obj.cells #[.int .i64 (a : Int), .int .i64 (N : Int)] 187)
          rw [← hy] at hS
          have hcs : y.cell? ⟨w.heap.size, i, none⟩ = some (.string s) := (hS.raw i).trans HCS.out
          rw [← hy, ← hF]
          have HS := Lib.hid hS
          have FB := Lib.hid hFb
          clear hy hF hS hFb H3 HCS
          have ixb := fun w => Tryz.strings_IndexByte s 0 w
          obtain ⟨v, hv⟩ : ∃ v, v = Lib.indexByte s.data.toList 0 := ⟨_, rfl⟩
          have ixb' : ∀ w : World, Calls Tryz.prog 95 #[.string s, .int .u8 0] w fun e w' => e = .returned (.int .i64 v) ∧ w' = w := by rw [hv]; exact ixb
          have IX := Lib.hid ixb'
          have HV := Lib.hid hv
          clear ixb ixb' hv
          have hfit : ∀ x, HWrite d (hraw n l u g f k m1 m2 m3 m4 m5 m6 m7) x → tFit N s.data.toList := fun x h => tfit_of h.2.2.1 HFD.out
          have HFIT := Lib.hid hfit
          clear hfit
          by_cases hN : (N : Int) < s.size
          · go_quiet ((go_at_call 95; exact Calls.quiet_of_same (IX.out _)))
            go_wp2_with fail
            go_ret2
            exact ⟨(HS.out.drewN _).bel, .inr ⟨_, _, rfl, fun x h => by have := (HFIT.out x h).1; rw [list_size] at this; omega⟩⟩
          · by_cases hv0 : 0 ≤ v
            · go_quiet ((go_at_call 95; exact Calls.quiet_of_same (IX.out _)))
              go_wp2_with fail
              go_ret2
              exact ⟨(HS.out.drewN _).bel, .inr ⟨_, _, rfl, fun x h => zero_in s (by rw [← HV.out]; exact hv0) (HFIT.out x h).2⟩⟩
            · go_quiet ((go_at_call 95; exact Calls.quiet_of_same (IX.out _)))
              go_wp2_with fail
              generalize hx : y.drewN nq = z
              have hF0 : z.cell? ⟨F, 0, none⟩ = some (.int .i64 (a : Int)) := by rw [← hx]; exact hF0
              have hcs : z.cell? ⟨w.heap.size, i, none⟩ = some (.string s) := by rw [← hx]; exact hcs
              have hS : WSt w z b #[.string n, .string l, .string u, .string g, .string f, .int .u8 k.toNat, .int .i64 m1, .int .i64 m2, .int .i64 m3, .int .i64 m4, .int .i64 m5, .int .i64 m6, .int .i64 m7] (lay blank ((tFds (hraw n l u g f k m1 m2 m3 m4 m5 m6 m7)).take i)) := by rw [← hx]; exact HS.out.drewN nq
              clear hx HS hF1
              have hsz : s.size ≤ N := by omega
              have hy2 := hS.drew.byt
              have hl2 := hS.len
              have hcp := run_copy_string (P := Tryz.prog) z.drew 62 9 3 5 b a (512 - a) (512 - a) s Tryz.underlying62 sizeU8 (by omega)
                (fun j hj => by rw [hy2.cell (j := a + j) (by omega)]; rfl) (fun j hj => hy2.frozen (j := a + j) (by omega))
              have hS2 := hS.drew.copied a s (by omega)
              obtain ⟨z2, hz2⟩ : ∃ z2, z2 = z.drew.setCells b a (textCells s) := ⟨_, rfl⟩
              have hcp2 : (Builtin.copy_ #[62, 9] 3 #[.slice (some ⟨b, a, none⟩) (512 - a) (512 - a), .string s]).run Tryz.prog z.drew = .ok (goInt s.size) z2 := by rw [hz2]; exact hcp
              have ha1 : (a : Int) ≤ 512 := by omega
              have ha2 : a ≤ 512 := by omega
              have ha3 : ¬ 512 = a := by omega
              rw [← hz2, ← take_snoc _ _ _ _ HFD.out] at hS2
              have hfit : ∀ x ∈ (tFds (hraw n l u g f k m1 m2 m3 m4 m5 m6 m7)).take (i + 1), tFit x.long x.txt := by
                intro x hx
                rw [List.take_add_one, HFD.out] at hx
                rcases List.mem_append.1 hx with hx | hx
                · exact HF.out x hx
                · rw [Option.toList_some, List.mem_singleton] at hx
                  subst hx
                  exact ⟨by rw [list_size]; omega, nozero s (by rw [← HV.out]; omega)⟩
              have HS2 := Lib.hid hS2
              have HFT := Lib.hid hfit
              clear hz2 hcp hy2 hl2 hS hS2 hfit HF IX HV HW
              go_region
              all_goals
                go_wp2_with fail
                go_roundg (5 - (i + 1))
                case measure => have := Hg.out; omega
                case rel => exact ⟨i + 1, by go_num, by omega, by omega, HS2.out, HFT.out⟩
        · obtain rfl : i = 5 := by omega
          have HF5 := Lib.hid HF.out
          obtain ⟨m, hm, hmd⟩ : ∃ m : Nat, (((d : Int) = 1 ∧ m = 5) ∨ ((d : Int) ≠ 1 ∧ m = 7)) ∧ m = manyD d := by
            refine ⟨manyD d, ?_, rfl⟩
            unfold manyD
            by_cases h : d = 1
            · left; rw [if_pos h]; omega
            · right; rw [if_neg h]; omega
          have hm7 : m ≤ 7 := by omega
          have hm7' : (m : Int) ≤ 7 := by omega
          have hm0' : (0 : Int) ≤ (m : Int) := by omega
          have MA := Lib.hid (fun w => many_any d m hm w)
          have HMD := Lib.hid hmd
          clear hm hmd hi hi1 Hg HF
          go_wp2_with fail
          refine (numbers_any _ _).mono ?_
          rintro e w4 ⟨rfl, h4⟩
          have H4 := Lib.hid (HW.out.below h4)
          clear h4 HW
          go_wp2_with fail
          refine (MA.out _).mono ?_
          rintro e w5 ⟨rfl, rfl⟩
          obtain ⟨L, hL⟩ : ∃ L, L = w4.heap.size := ⟨_, rfl⟩
          have hS := H4.out.alloc (Obj.cells (ptr7 w.heap.size) 191)
          have hP : Blk (w4.alloc (Obj.cells (ptr7 w.heap.size) 191)) L 191 (ptr7 w.heap.size) := by rw [hL]; exact Blk.new _ _ _
          have hbL : b < L := by rw [hL]; exact H4.out.lt
          rw [← hL]
          obtain ⟨y, hy⟩ : ∃ y, y = w4.alloc (Obj.cells (ptr7 w.heap.size) 191) := ⟨_, rfl⟩
          rw [← hy] at hS hP ⊢
          have HS := Lib.hid hS
          have HP := Lib.hid hP
          have HBL := Lib.hid hbL
          clear hL hy hS hP hbL H4
          go_wp2_with fail
          go_loopg [69] m (fun gh iv wr => ∃ (i : Nat) (ls : List (List UInt8)), iv = .int .i64 i ∧ i ≤ m ∧ gh + i = m ∧ ls.length = i ∧ NumsTo (d == 3) (hraw n l u g f k m1 m2 m3 m4 m5 m6 m7) ls ∧
            WSt w wr b #[.string n, .string l, .string u, .string g, .string f, .int .u8 k.toNat, .int .i64 m1, .int .i64 m2, .int .i64 m3, .int .i64 m4, .int .i64 m5, .int .i64 m6, .int .i64 m7] (lay (lay blank (tFds (hraw n l u g f k m1 m2 m3 m4 m5 m6 m7))) (nFds ls)) ∧ Blk wr L 191 (ptr7 w.heap.size))
          case atStart => exact ⟨0, [], rfl, by omega, by omega, rfl, fun i h => absurd h (Nat.not_lt_zero i), HS.out, HP.out⟩
          case round =>
            obtain ⟨i, ls, rfl, hi1, hg, hls, hnt, hs, hp⟩ := hrel
            have Hg := Lib.hid hg
            have HW := Lib.hid hs
            have HPP := Lib.hid hp
            have HLS := Lib.hid hls
            have HNT := Lib.hid hnt
            clear hg hs hp HS HP hls hnt
            by_cases hi : i < m
            · have hi3 : (i : Int) < m := by omega
              obtain ⟨a, N, z, hx1, hx2, hcz, hsp, hnm, haN, hN2, hN20, hz64⟩ := n_way n l u g f k m1 m2 m3 m4 m5 m6 m7 WF.out i (by omega)
              obtain ⟨bb, hbb⟩ : ∃ bb, ((d : Int) == 3) = bb := ⟨_, rfl⟩
              have hbd : (d == 3) = bb := by
                rw [← hbb]
                by_cases h : d = 3
                · subst h; rfl
                · have h2 : (d : Int) ≠ 3 := by omega
                  rw [beq_eq_false_iff_ne.2 h, beq_eq_false_iff_ne.2 h2]
              have HBD := Lib.hid hbd
              clear hbd
              obtain ⟨T, E, hT, hTE⟩ := wnum z N bb hN2 hN20 hz64
              have hl : wr.cell? ⟨L, i, none⟩ = some (.pointer (some ⟨w.heap.size, 6 + i, none⟩)) := (HPP.out.cell i).trans (hx2 _)
              have HT := Lib.hid hT
              have HTE := Lib.hid hTE
              have HCZ := Lib.hid hcz
              have HSP := Lib.hid hsp
              have HNM := Lib.hid hnm
              clear hT hTE hcz hsp hnm hx2 hz64
              go_wp2_with fail
              refine (numberSpots_any _).mono ?_
              rintro e w6 ⟨rfl, h6⟩
              have H6 := Lib.hid (HW.out.below h6)
              have P6 := Lib.hid (HPP.out.below h6 HPP.out.lt)
              clear h6 hl
              go_wp2_with fail
              obtain ⟨y, hy⟩ : ∃ y, y = w6.alloc (Obj.cells #[.int .i64 (a : Int), .int .i64 (N : Int)] 187) := ⟨_, rfl⟩
              obtain ⟨F, hF⟩ : ∃ F, F = w6.heap.size := ⟨_, rfl⟩
              have hB0 : Blk y F 187 #[.int .i64 (a : Int), .int .i64 (N : Int)] := by rw [hy, hF]; exact Blk.new _ _ _
              have hF1 : y.cell? ⟨F, 1, none⟩ = some (.int .i64 (N : Int)) := hB0.cell 1
              have hS := H6.out.alloc (Obj.cells #[.int .i64 (a : Int), .int .i64 (N : Int)] 187)
              have hP := P6.out.alloc (Obj.cells #[.int .i64 (a : Int), .int .i64 (N : Int)] 187)
              rw [← hy] at hS hP
              have hcz : y.cell? ⟨w.heap.size, 6 + i, none⟩ = some (.int .i64 z) := (hS.raw _).trans HCZ.out
              rw [← hy, ← hF]
              have HS := Lib.hid hS
              have HP := Lib.hid hP
              have HB0 := Lib.hid hB0
              clear hy hF hS hP hB0 H6 P6 HCZ HW HPP
              go_cut [14, 15] (fun s14 s15 wx => s14 = .string T ∧ s15 = E ∧ Below y.heap.size y wx)
              case first =>
                have hbr := Below.refl y.heap.size y
                go_region_held3 (fun w' => w'.cell? ⟨w.heap.size, 6 + i, none⟩ = some (.int .i64 z) ∧ w'.cell? ⟨F, 1, none⟩ = some (.int .i64 (N : Int)) ∧ Below y.heap.size y w')
                  (first
                    | (go_split_ands; exact ⟨keep_cell TT (by assumption), keep_cell TT (by assumption), thenB (by assumption) TT⟩)
                    | (go_split_ands; refine ⟨?_, ?_, ?_⟩ <;> first | assumption | exact Below.drew (by assumption))
                    | go_keep)
                  (first
                  | (go_at_call 131; (with_reducible refine (HT.out _).mono ?_); rintro e wt ⟨rfl, TT⟩))
                all_goals go_split_ands
                all_goals go_wp2_with fail
                all_goals go_meet
                all_goals exact ⟨rfl, rfl, by assumption⟩
              case rest =>
                obtain ⟨rfl, rfl, hb⟩ := hcut
                have hS := HS.out.below hb
                have hP := HP.out.below hb HP.out.lt
                have hB := HB0.out.below hb HB0.out.lt
                have hF0 := hB.cell 0
                have HS2 := Lib.hid hS
                have HP2 := Lib.hid hP
                clear hb hS hP hB HS HP HB0
                have hte := HTE.out
                clear HTE
                rcases hte with ⟨rfl, hnw⟩ | ⟨rfl, hnw⟩
                · have hTl : T.size = N := by rw [← list_size]; exact numW_len hnw
                  have hy2 := HS2.out.byt
                  have hl2 := HS2.out.len
                  have hcp := run_copy_string (P := Tryz.prog) wc 62 9 3 5 b a (512 - a) (512 - a) T Tryz.underlying62 sizeU8 (by omega)
                    (fun j hj => by rw [hy2.cell (j := a + j) (by omega)]; rfl) (fun j hj => hy2.frozen (j := a + j) (by omega))
                  have hS3 := HS2.out.copied a T (by omega)
                  have hP3 := HP2.out.farCells (k := b) (by have := HBL.out; omega) (textCells T) a
                  obtain ⟨z2, hz2⟩ : ∃ z2, z2 = wc.setCells b a (textCells T) := ⟨_, rfl⟩
                  have hcp2 : (Builtin.copy_ #[62, 9] 3 #[.slice (some ⟨b, a, none⟩) (512 - a) (512 - a), .string T]).run Tryz.prog wc = .ok (goInt T.size) z2 := by rw [hz2]; exact hcp
                  have ha1 : (a : Int) ≤ 512 := by omega
                  have ha2 : a ≤ 512 := by omega
                  have ha3 : ¬ 512 = a := by omega
                  have hsp2 : nSpots[ls.length]? = some (a, N) := by rw [HLS.out]; exact HSP.out
                  have hnm2 : (hraw n l u g f k m1 m2 m3 m4 m5 m6 m7).nums[ls.length]? = some z := by rw [HLS.out]; exact HNM.out
                  rw [← hz2, ← nFds_snoc ls T.data.toList a N hsp2] at hS3
                  rw [← hz2] at hP3
                  have HS3 := Lib.hid hS3
                  have HP3 := Lib.hid hP3
                  have HN3 := Lib.hid (HNT.out.snoc hsp2 hnm2 (by rw [HBD.out]; exact hnw))
                  clear hz2 hcp hy2 hl2 hS3 hP3 hsp2 hnm2 hnw HS2 HP2 hTl
                  go_wp2_with fail
                  go_roundg (m - (i + 1))
                  case measure => have := Hg.out; omega
                  case rel => exact ⟨i + 1, ls ++ [T.data.toList], by go_num, by omega, by omega, by rw [List.length_append, HLS.out]; rfl, HN3.out, HS3.out, HP3.out⟩
                · have hno : ∀ x, ¬ HWrite d (hraw n l u g f k m1 m2 m3 m4 m5 m6 m7) x := by
                    rintro x ⟨_, _, _, ls', hn', _⟩
                    have hlt : i < ls'.length := by rw [hn'.1, ← HMD.out]; exact hi
                    have := hn'.2 i hlt
                    rw [HBD.out, HSP.out, HNM.out] at this
                    have h2 : numW bb N z = some ls'[i] := this
                    rw [hnw] at h2
                    cases h2
                  have HNO := Lib.hid hno
                  clear hno
                  go_wp2_with fail
                  go_ret2
                  exact ⟨HS2.out.bel, .inr ⟨_, _, rfl, HNO.out⟩⟩
            · obtain rfl : i = m := by omega
              obtain ⟨L0, hL0⟩ : ∃ L0, L0 = lay (lay blank (tFds (hraw n l u g f k m1 m2 m3 m4 m5 m6 m7))) (nFds ls) := ⟨_, rfl⟩
              have hS := HW.out
              rw [← hL0] at hS
              have hl0 := hS.len
              have c5 : wr.cell? ⟨w.heap.size, 5, none⟩ = some (.int .u8 k.toNat) := hS.raw 5
              obtain ⟨v156, c156⟩ : ∃ v, wr.cell? ⟨b, 156, none⟩ = some v := ⟨_, hS.byt.cell (j := 156) (by omega)⟩
              have f156 := hS.byt.frozen (j := 156) (by omega)
              have hS1 := hS.set_ 156 (by omega) k
              have hfin : ∀ M : List UInt8, M = magicD d → HWrite d (hraw n l u g f k m1 m2 m3 m4 m5 m6 m7) (Bk.sld (over (over L0 156 [k]) 257 M)) := by
                intro M hM
                have hb := (HB.out).1 trivial
                have hall : ∀ x ∈ tFds (hraw n l u g f k m1 m2 m3 m4 m5 m6 m7), tFit x.long x.txt := HF5.out
                refine ⟨HK.out, ⟨fun h => ?_, fun h => ?_⟩, ⟨hall ⟨0, 100, _⟩ (by simp [tFds]), hall ⟨157, 100, _⟩ (by simp [tFds]), hall ⟨265, 32, _⟩ (by simp [tFds]), hall ⟨297, 32, _⟩ (by simp [tFds]), hall ⟨345, 155, _⟩ (by simp [tFds])⟩, ls, ⟨by rw [HLS.out]; exact HMD.out, HNT.out⟩, ?_⟩
                · have := hb.1 (by omega)
                  rw [Lib.toList_data, Lib.toList_data, Lib.toList_data] at this
                  exact this
                · have := hb.2 (by omega)
                  rw [Lib.toList_data] at this
                  exact this
                · rw [hM, hL0]; rfl
              have HS1 := Lib.hid hS1
              have HFIN := Lib.hid hfin
              clear hL0 hS hS1 hfin hl0 HW HNT HLS HMD HF5 HB
              obtain rfl | hd : d = 1 ∨ d = 2 ∨ d = 3 ∨ d = 4 := by omega
              · have hcv := bs_conv HS1.out.byt HS1.out.len
                have hsz : (bs (over L0 156 [k])).size = 512 := HS1.out.len
                have hff := HFIN.out [] rfl
                rw [over_nil] at hff
                have hse := fun w => seal_any (bs (over L0 156 [k])) w (by omega) (by omega)
                obtain ⟨S, hSS⟩ : ∃ S, S = bs (over L0 156 [k]) := ⟨_, rfl⟩
                rw [← hSS] at hcv hse
                have hff2 : HWrite 1 (hraw n l u g f k m1 m2 m3 m4 m5 m6 m7) (sealB S).data.toList := by rw [sealB_list, hSS]; exact hff
                have SE := Lib.hid hse
                have FF := Lib.hid hff2
                clear hse hff hff2 hSS hsz
                go_wp2_with fail
                refine (SE.out _).mono ?_
                rintro e w8 ⟨rfl, h8⟩
                have H8 := Lib.hid (thenB HS1.out.bel h8)
                clear h8
                go_wp2_with fail
                go_ret2
                exact ⟨H8.out, .inl ⟨_, rfl, FF.out⟩⟩
              · rcases hd with rfl | rfl | rfl
                · obtain ⟨z2, hcp, hS2⟩ := magic_copy HS1.out ⟨#[117, 115, 116, 97, 114, 0, 48, 48]⟩ rfl
                  have hcv := bs_conv hS2.byt hS2.len
                  have hsz : (bs (over (over L0 156 [k]) 257 [117, 115, 116, 97, 114, 0, 48, 48])).size = 512 := hS2.len
                  have hff := HFIN.out [117, 115, 116, 97, 114, 0, 48, 48] rfl
                  have hse := fun w => seal_any (bs (over (over L0 156 [k]) 257 [117, 115, 116, 97, 114, 0, 48, 48])) w (by omega) (by omega)
                  obtain ⟨S, hSS⟩ : ∃ S, S = bs (over (over L0 156 [k]) 257 [117, 115, 116, 97, 114, 0, 48, 48]) := ⟨_, rfl⟩
                  have hcv2 : (convert 62 9 (.slice (some ⟨b, 0, none⟩) 512 512)).run Tryz.prog z2 = .ok (.string S) z2 := by rw [hSS]; exact hcv
                  rw [← hSS] at hse
                  have hff2 : HWrite 2 (hraw n l u g f k m1 m2 m3 m4 m5 m6 m7) (sealB S).data.toList := by rw [sealB_list, hSS]; exact hff
                  have SE := Lib.hid hse
                  have FF := Lib.hid hff2
                  have HS1 := Lib.hid hS2
                  clear hse hff hff2 hSS hsz hS2 hcv
                  go_wp2_with fail
                  refine (SE.out _).mono ?_
                  rintro e w8 ⟨rfl, h8⟩
                  have H8 := Lib.hid (thenB HS1.out.bel h8)
                  clear h8
                  go_wp2_with fail
                  go_ret2
                  exact ⟨H8.out, .inl ⟨_, rfl, FF.out⟩⟩
                · obtain ⟨z2, hcp, hS2⟩ := magic_copy HS1.out ⟨#[117, 115, 116, 97, 114, 32, 32, 0]⟩ rfl
                  have hcv := bs_conv hS2.byt hS2.len
                  have hsz : (bs (over (over L0 156 [k]) 257 [117, 115, 116, 97, 114, 32, 32, 0])).size = 512 := hS2.len
                  have hff := HFIN.out [117, 115, 116, 97, 114, 32, 32, 0] rfl
                  have hse := fun w => seal_any (bs (over (over L0 156 [k]) 257 [117, 115, 116, 97, 114, 32, 32, 0])) w (by omega) (by omega)
                  obtain ⟨S, hSS⟩ : ∃ S, S = bs (over (over L0 156 [k]) 257 [117, 115, 116, 97, 114, 32, 32, 0]) := ⟨_, rfl⟩
                  have hcv2 : (convert 62 9 (.slice (some ⟨b, 0, none⟩) 512 512)).run Tryz.prog z2 = .ok (.string S) z2 := by rw [hSS]; exact hcv
                  rw [← hSS] at hse
                  have hff2 : HWrite 3 (hraw n l u g f k m1 m2 m3 m4 m5 m6 m7) (sealB S).data.toList := by rw [sealB_list, hSS]; exact hff
                  have SE := Lib.hid hse
                  have FF := Lib.hid hff2
                  have HS1 := Lib.hid hS2
                  clear hse hff hff2 hSS hsz hS2 hcv
                  go_wp2_with fail
                  refine (SE.out _).mono ?_
                  rintro e w8 ⟨rfl, h8⟩
                  have H8 := Lib.hid (thenB HS1.out.bel h8)
                  clear h8
                  go_wp2_with fail
                  go_ret2
                  exact ⟨H8.out, .inl ⟨_, rfl, FF.out⟩⟩
                · obtain ⟨z2, hcp, hS2⟩ := magic_copy HS1.out ⟨#[117, 115, 116, 97, 114, 0, 48, 48]⟩ rfl
                  have hcv := bs_conv hS2.byt hS2.len
                  have hsz : (bs (over (over L0 156 [k]) 257 [117, 115, 116, 97, 114, 0, 48, 48])).size = 512 := hS2.len
                  have hff := HFIN.out [117, 115, 116, 97, 114, 0, 48, 48] rfl
                  have hse := fun w => seal_any (bs (over (over L0 156 [k]) 257 [117, 115, 116, 97, 114, 0, 48, 48])) w (by omega) (by omega)
                  obtain ⟨S, hSS⟩ : ∃ S, S = bs (over (over L0 156 [k]) 257 [117, 115, 116, 97, 114, 0, 48, 48]) := ⟨_, rfl⟩
                  have hcv2 : (convert 62 9 (.slice (some ⟨b, 0, none⟩) 512 512)).run Tryz.prog z2 = .ok (.string S) z2 := by rw [hSS]; exact hcv
                  rw [← hSS] at hse
                  have hff2 : HWrite 4 (hraw n l u g f k m1 m2 m3 m4 m5 m6 m7) (sealB S).data.toList := by rw [sealB_list, hSS]; exact hff
                  have SE := Lib.hid hse
                  have FF := Lib.hid hff2
                  have HS1 := Lib.hid hS2
                  clear hse hff hff2 hSS hsz hS2 hcv
                  go_wp2_with fail
                  refine (SE.out _).mono ?_
                  rintro e w8 ⟨rfl, h8⟩
                  have H8 := Lib.hid (thenB HS1.out.bel h8)
                  clear h8
                  go_wp2_with fail
                  go_ret2
                  exact ⟨H8.out, .inl ⟨_, rfl, FF.out⟩⟩

end Go.Proofs.YtkhkjacnoiopcaaGreatDoor
