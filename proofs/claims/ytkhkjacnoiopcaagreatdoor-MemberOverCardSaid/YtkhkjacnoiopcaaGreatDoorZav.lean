/-
  head.Read: the walk.
-/
import Derived.Test.YtkhkjacnoiopcaaGreatDoorZau
set_option linter.unusedVariables false
set_option linter.unusedSimpArgs false

set_option linter.unusedVariables false
set_option linter.unusedSimpArgs false
namespace Go.Proofs.YtkhkjacnoiopcaaGreatDoor
open Go.RowKit

abbrev rz : Array Value := #[.string ⟨#[]⟩, .string ⟨#[]⟩, .string ⟨#[]⟩, .string ⟨#[]⟩, .string ⟨#[]⟩, .int .u8 0, .int .i64 0, .int .i64 0, .int .i64 0, .int .i64 0, .int .i64 0, .int .i64 0, .int .i64 0]
/-- What holds while Read goes on. -/
def RSt (w wr : World) (Q : Nat) (cs : Array Value) : Prop :=
  Below w.heap.size w wr ∧ w.heap.size < Q ∧ Blk wr w.heap.size 72 rz ∧ Blk wr Q 72 cs
section
variable {w wr wr' : World} {Q : Nat} {cs : Array Value}
theorem RSt.bel (h : RSt w wr Q cs) : Below w.heap.size w wr := h.1
theorem RSt.cell (h : RSt w wr Q cs) (i : Nat) : wr.cell? ⟨Q, i, none⟩ = cs[i]? := h.2.2.2.cell i
theorem RSt.frozen (h : RSt w wr Q cs) (i : Nat) : wr.frozen? ⟨Q, i, none⟩ = false := h.2.2.2.frozen i
theorem RSt.drewN (h : RSt w wr Q cs) (n : Nat) : RSt w (wr.drewN n) Q cs := ⟨below_drewN h.1 n, h.2.1, h.2.2.1.drewN n, h.2.2.2.drewN n⟩
theorem RSt.alloc (h : RSt w wr Q cs) (o : Obj) : RSt w (wr.alloc o) Q cs := ⟨h.1.alloc h.1.size o, h.2.1, h.2.2.1.alloc o, h.2.2.2.alloc o⟩
theorem RSt.below (h : RSt w wr Q cs) (hb : Below wr.heap.size wr wr') : RSt w wr' Q cs := ⟨thenB h.1 hb, h.2.1, h.2.2.1.below hb h.2.2.1.lt, h.2.2.2.below hb h.2.2.2.lt⟩
theorem RSt.set_ (h : RSt w wr Q cs) (i : Nat) (v : Value) : RSt w (wr.setCell ⟨Q, i, none⟩ v) Q (cs.setIfInBounds i v) :=
  ⟨h.1.setCell (by show _ ≤ Q; have := h.2.1; omega) _, h.2.1, h.2.2.1.far (by show _ ≠ Q; have := h.2.1; omega) _, h.2.2.2.set_ i v⟩
end

def CsN (k : Int) (zs : List Int) (i : Nat) (cs : Array Value) : Prop :=
  cs.size = 13 ∧ (∀ j, j < 5 → cs[j]? = some (.string ⟨#[]⟩)) ∧ cs[5]? = some (.int .u8 k) ∧ ∀ j, j < 7 → cs[6 + j]? = some (.int .i64 (if j < i then zs[j]?.getD 0 else 0))
theorem CsN.set_ {k : Int} {zs : List Int} {i : Nat} {cs : Array Value} (h : CsN k zs i cs) (hi : i < 7) (z : Int) (hz : zs[i]? = some z) : CsN k zs (i + 1) (cs.setIfInBounds (6 + i) (.int .i64 z)) := by
  obtain ⟨h1, h2, h3, h4⟩ := h
  refine ⟨by simpa using h1, fun j hj => ?_, ?_, fun j hj => ?_⟩
  · rw [Array.getElem?_setIfInBounds, if_neg (by omega)]; exact h2 j hj
  · rw [Array.getElem?_setIfInBounds, if_neg (by omega)]; exact h3
  · rw [Array.getElem?_setIfInBounds]
    by_cases e : i = j
    · subst e; rw [if_pos rfl, if_pos (by omega), if_pos (by omega), hz]; rfl
    · rw [if_neg (by omega), h4 j hj]
      by_cases hji : j < i
      · rw [if_pos hji, if_pos (by omega)]
      · rw [if_neg hji, if_neg (by omega)]
def CsT (k : Int) (zs : List Int) (tx : Nat → ByteArray) (i : Nat) (cs : Array Value) : Prop :=
  cs.size = 13 ∧ (∀ j, j < 5 → cs[j]? = some (.string (if j < i then tx j else ⟨#[]⟩))) ∧ cs[5]? = some (.int .u8 k) ∧ ∀ j, j < 7 → cs[6 + j]? = some (.int .i64 (zs[j]?.getD 0))
theorem CsT.set_ {k : Int} {zs : List Int} {tx : Nat → ByteArray} {i : Nat} {cs : Array Value} (h : CsT k zs tx i cs) (hi : i < 5) : CsT k zs tx (i + 1) (cs.setIfInBounds i (.string (tx i))) := by
  obtain ⟨h1, h2, h3, h4⟩ := h
  refine ⟨by simpa using h1, fun j hj => ?_, ?_, fun j hj => ?_⟩
  · rw [Array.getElem?_setIfInBounds]
    by_cases e : i = j
    · subst e; rw [if_pos rfl, if_pos (by omega), if_pos (by omega)]
    · rw [if_neg (by omega), h2 j hj]
      by_cases hji : j < i
      · rw [if_pos hji, if_pos (by omega)]
      · rw [if_neg hji, if_neg (by omega)]
  · rw [Array.getElem?_setIfInBounds, if_neg (by omega)]; exact h3
  · rw [Array.getElem?_setIfInBounds, if_neg (by omega)]; exact h4 j hj
theorem CsT.of_n {k : Int} {zs : List Int} {tx : Nat → ByteArray} {i : Nat} {cs : Array Value} (h : CsN k zs i cs) (hz : ∀ j, j < 7 → i ≤ j → zs[j]?.getD 0 = 0) : CsT k zs tx 0 cs := by
  obtain ⟨h1, h2, h3, h4⟩ := h
  refine ⟨h1, fun j hj => by rw [if_neg (by omega)]; exact h2 j hj, h3, fun j hj => ?_⟩
  rw [h4 j hj]
  by_cases hji : j < i
  · rw [if_pos hji]
  · rw [if_neg hji, hz j hj (by omega)]
theorem CsT.lit {k : Int} {z1 z2 z3 z4 z5 z6 z7 : Int} {tx : Nat → ByteArray} {cs : Array Value} (h : CsT k [z1, z2, z3, z4, z5, z6, z7] tx 5 cs) :
    cs = #[.string (tx 0), .string (tx 1), .string (tx 2), .string (tx 3), .string (tx 4), .int .u8 k, .int .i64 z1, .int .i64 z2, .int .i64 z3, .int .i64 z4, .int .i64 z5, .int .i64 z6, .int .i64 z7] := by
  obtain ⟨h1, h2, h3, h4⟩ := h
  apply Array.ext_getElem?
  intro j
  by_cases hj : j < 5
  · rw [h2 j hj, if_pos hj]
    match j, hj with
    | 0, _ => rfl
    | 1, _ => rfl
    | 2, _ => rfl
    | 3, _ => rfl
    | 4, _ => rfl
  · by_cases h5 : j = 5
    · subst h5; rw [h3]; rfl
    · by_cases h13 : j < 13
      · obtain ⟨q, rfl⟩ : ∃ q, j = 6 + q := ⟨j - 6, by omega⟩
        rw [h4 q (by omega)]
        match q, (show q < 7 by omega) with
        | 0, _ => rfl
        | 1, _ => rfl
        | 2, _ => rfl
        | 3, _ => rfl
        | 4, _ => rfl
        | 5, _ => rfl
        | 6, _ => rfl
      · rw [Array.getElem?_eq_none (by omega), Array.getElem?_eq_none (by simp; omega)]

set_option maxRecDepth 100000 in
theorem idx7 (i : Nat) (hi : i < 7) : ∀ (R : Nat) (w : World), (Instr.index 191 (.agg #[.pointer (some ⟨R, 6, none⟩), .pointer (some ⟨R, 7, none⟩), .pointer (some ⟨R, 8, none⟩), .pointer (some ⟨R, 9, none⟩), .pointer (some ⟨R, 10, none⟩), .pointer (some ⟨R, 11, none⟩), .pointer (some ⟨R, 12, none⟩)]) (.int .i64 i)).run Tryz.prog w = .ok (.pointer (some ⟨R, 6 + i, none⟩)) w := by
  match i, hi with
  | 0, _ => exact fun R w => by kernel_rfl
  | 1, _ => exact fun R w => by kernel_rfl
  | 2, _ => exact fun R w => by kernel_rfl
  | 3, _ => exact fun R w => by kernel_rfl
  | 4, _ => exact fun R w => by kernel_rfl
  | 5, _ => exact fun R w => by kernel_rfl
  | 6, _ => exact fun R w => by kernel_rfl
theorem nidx (i : Nat) (hi : i < 7) : ∃ (a N : Nat), (∀ w : World, (Instr.index 194 nSpotsV (.int .i64 i)).run Tryz.prog w = .ok (sp a N) w) ∧ nSpots[i]? = some (a, N) ∧ a + N ≤ 512 ∧ 2 ≤ N ∧ N ≤ 20 := by
  match i, hi with
  | 0, _ => exact ⟨100, 8, fun w => by kernel_rfl, rfl, by decide, by decide, by decide⟩
  | 1, _ => exact ⟨108, 8, fun w => by kernel_rfl, rfl, by decide, by decide, by decide⟩
  | 2, _ => exact ⟨116, 8, fun w => by kernel_rfl, rfl, by decide, by decide, by decide⟩
  | 3, _ => exact ⟨124, 12, fun w => by kernel_rfl, rfl, by decide, by decide, by decide⟩
  | 4, _ => exact ⟨136, 12, fun w => by kernel_rfl, rfl, by decide, by decide, by decide⟩
  | 5, _ => exact ⟨329, 8, fun w => by kernel_rfl, rfl, by decide, by decide, by decide⟩
  | 6, _ => exact ⟨337, 8, fun w => by kernel_rfl, rfl, by decide, by decide, by decide⟩
def tsp : List (Nat × Nat) := [(0, 100), (157, 100), (265, 32), (297, 32), (345, 155)]
theorem idx5 (i : Nat) (hi : i < 5) : ∃ (a N : Nat),
    (∀ (R : Nat) (w : World), (Instr.index 184 (.agg #[.pointer (some ⟨R, 0, none⟩), .pointer (some ⟨R, 1, none⟩), .pointer (some ⟨R, 2, none⟩), .pointer (some ⟨R, 3, none⟩), .pointer (some ⟨R, 4, none⟩)]) (.int .i64 i)).run Tryz.prog w = .ok (.pointer (some ⟨R, i, none⟩)) w) ∧
    (∀ w : World, (Instr.index 188 tSpots (.int .i64 i)).run Tryz.prog w = .ok (sp a N) w) ∧ tsp[i]? = some (a, N) ∧ a + N ≤ 512 := by
  match i, hi with
  | 0, _ => exact ⟨0, 100, fun R w => by kernel_rfl, fun w => by kernel_rfl, rfl, by decide⟩
  | 1, _ => exact ⟨157, 100, fun R w => by kernel_rfl, fun w => by kernel_rfl, rfl, by decide⟩
  | 2, _ => exact ⟨265, 32, fun R w => by kernel_rfl, fun w => by kernel_rfl, rfl, by decide⟩
  | 3, _ => exact ⟨297, 32, fun R w => by kernel_rfl, fun w => by kernel_rfl, rfl, by decide⟩
  | 4, _ => exact ⟨345, 155, fun R w => by kernel_rfl, fun w => by kernel_rfl, rfl, by decide⟩
/-- the text in a field -/
def txf (s : ByteArray) (i : Nat) : ByteArray := bs (upTo0 (fld s.data.toList (tsp[i]?.getD (0, 0)).1 (tsp[i]?.getD (0, 0)).2))

theorem set13 {w : World} {g : Nat} {t : TypeId} {o0 o1 o2 o3 o4 o5 o6 o7 o8 o9 o10 o11 o12 : Value} (h : Blk w g t #[o0, o1, o2, o3, o4, o5, o6, o7, o8, o9, o10, o11, o12]) (v0 v1 v2 v3 v4 v5 v6 v7 v8 v9 v10 v11 v12 : Value) : Blk (((((((((((((w.setCell ⟨g, 0, none⟩ v0).setCell ⟨g, 1, none⟩ v1).setCell ⟨g, 2, none⟩ v2).setCell ⟨g, 3, none⟩ v3).setCell ⟨g, 4, none⟩ v4).setCell ⟨g, 5, none⟩ v5).setCell ⟨g, 6, none⟩ v6).setCell ⟨g, 7, none⟩ v7).setCell ⟨g, 8, none⟩ v8).setCell ⟨g, 9, none⟩ v9).setCell ⟨g, 10, none⟩ v10).setCell ⟨g, 11, none⟩ v11).setCell ⟨g, 12, none⟩ v12) g t #[v0, v1, v2, v3, v4, v5, v6, v7, v8, v9, v10, v11, v12] := by
  have := (((((((((((((h.set_ 0 v0).set_ 1 v1).set_ 2 v2).set_ 3 v3).set_ 4 v4).set_ 5 v5).set_ 6 v6).set_ 7 v7).set_ 8 v8).set_ 9 v9).set_ 10 v10).set_ 11 v11).set_ 12 v12)
  simpa using this
theorem below13 {B : Nat} {a w : World} {g : Nat} (h : Below B a w) (hg : B ≤ g) (v0 v1 v2 v3 v4 v5 v6 v7 v8 v9 v10 v11 v12 : Value) : Below B a (((((((((((((w.setCell ⟨g, 0, none⟩ v0).setCell ⟨g, 1, none⟩ v1).setCell ⟨g, 2, none⟩ v2).setCell ⟨g, 3, none⟩ v3).setCell ⟨g, 4, none⟩ v4).setCell ⟨g, 5, none⟩ v5).setCell ⟨g, 6, none⟩ v6).setCell ⟨g, 7, none⟩ v7).setCell ⟨g, 8, none⟩ v8).setCell ⟨g, 9, none⟩ v9).setCell ⟨g, 10, none⟩ v10).setCell ⟨g, 11, none⟩ v11).setCell ⟨g, 12, none⟩ v12) := (((((((((((((h.setCell (p := ⟨g, 0, none⟩) hg v0).setCell (p := ⟨g, 1, none⟩) hg v1).setCell (p := ⟨g, 2, none⟩) hg v2).setCell (p := ⟨g, 3, none⟩) hg v3).setCell (p := ⟨g, 4, none⟩) hg v4).setCell (p := ⟨g, 5, none⟩) hg v5).setCell (p := ⟨g, 6, none⟩) hg v6).setCell (p := ⟨g, 7, none⟩) hg v7).setCell (p := ⟨g, 8, none⟩) hg v8).setCell (p := ⟨g, 9, none⟩) hg v9).setCell (p := ⟨g, 10, none⟩) hg v10).setCell (p := ⟨g, 11, none⟩) hg v11).setCell (p := ⟨g, 12, none⟩) hg v12)

set_option maxRecDepth 100000 in
set_option maxHeartbeats 4000000 in
theorem read_walk (s : ByteArray) (h1 : s.size ≤ 512) (h2 : 512 ≤ s.size) (hR : rightL s.data.toList = true) (n l u g f : ByteArray) (k : UInt8) (m1 m2 m3 m4 m5 m6 m7 : Int) (D : Nat)
    (hH : HRead s.data.toList (hraw n l u g f k m1 m2 m3 m4 m5 m6 m7) D) (hk0 : (fld s.data.toList 156 1).headD 0 ≠ 0) (w : World) :
    Calls Tryz.prog 83 #[.string s] w fun e w' => e = .returned (.tuple #[.agg #[.string n, .string l, .string u, .string g, .string f, .int .u8 k.toNat, .int .i64 m1, .int .i64 m2, .int .i64 m3, .int .i64 m4, .int .i64 m5, .int .i64 m6, .int .i64 m7], .int .i64 D, .nilIface]) ∧ Below w.heap.size w w' := by
  have k1 : ((s.size : Int) != 512) = false := by simp; omega
  have hr := fun w => right_any s w h1 h2
  rw [hR] at hr
  have HR := Lib.hid hr
  have DI := Lib.hid (fun w => dialect_any s h1 h2 w)
  rw [← hH.1] at DI
  have HH := Lib.hid hH
  have hs156 : 156 < s.size := by omega
  obtain ⟨kk, hkk⟩ : ∃ kk, kk = s[156] := ⟨_, rfl⟩
  have hfk : (fld s.data.toList 156 1).headD 0 = kk := by
    unfold fld
    rw [hkk, List.drop_eq_getElem_cons (by rw [list_size]; exact hs156)]
    rfl
  have hk := hH.2.1
  rw [hfk] at hk
  rw [hfk] at hk0
  rw [if_neg hk0] at hk
  have hk' : k = kk := hk
  subst hk'
  have hk00 : ((k.toNat : Int) == 0) = false := by
    have : k.toNat ≠ 0 := fun h => hk0 (UInt8.toNat_inj.1 h)
    simp; omega
  have k156 : (156 : Int) < s.size := by omega
  have hkk' := hkk.symm
  clear hr hR hk hfk hH hkk hk0
  go_enter Tryz.func83, Tryz.ntmps83
  go_wp2_with fail
  refine (HR.out _).mono ?_
  rintro e w1 ⟨rfl, hb⟩
  have hZ : Blk w1 w.heap.size 72 #[.string ⟨#[]⟩, .string ⟨#[]⟩, .string ⟨#[]⟩, .string ⟨#[]⟩, .string ⟨#[]⟩, .int .u8 0, .int .i64 0, .int .i64 0, .int .i64 0, .int .i64 0, .int .i64 0, .int .i64 0, .int .i64 0] := (Blk.new w _ _).below hb (by simp)
  have HB := Lib.hid (thenB ((Below.refl _ _).alloc (Nat.le_refl _) _) hb)
  have hlt := hb.size
  rw [World.size_alloc] at hlt
  have HZ := Lib.hid hZ
  have HLT := Lib.hid hlt
  clear hb hZ hlt HR
  go_wp2_with fail
  refine (DI.out _).mono ?_
  rintro e w2 ⟨rfl, rfl⟩
  go_wp2_with fail
  refine (numbers_any _ _).mono ?_
  rintro e w3 ⟨rfl, h3⟩
  obtain ⟨Q, hQ⟩ : ∃ Q, Q = w2.heap.size := ⟨_, rfl⟩
  have hS0 : RSt w (w2.alloc (Obj.cells #[.string ⟨#[]⟩, .string ⟨#[]⟩, .string ⟨#[]⟩, .string ⟨#[]⟩, .string ⟨#[]⟩, .int .u8 k.toNat, .int .i64 0, .int .i64 0, .int .i64 0, .int .i64 0, .int .i64 0, .int .i64 0, .int .i64 0] 72)) Q #[.string ⟨#[]⟩, .string ⟨#[]⟩, .string ⟨#[]⟩, .string ⟨#[]⟩, .string ⟨#[]⟩, .int .u8 k.toNat, .int .i64 0, .int .i64 0, .int .i64 0, .int .i64 0, .int .i64 0, .int .i64 0, .int .i64 0] := ⟨HB.out.alloc HB.out.size _, by rw [hQ]; have := HLT.out; omega, HZ.out.alloc _, by rw [hQ]; exact Blk.new _ _ _⟩
  have HS := Lib.hid (hS0.below h3)
  rw [← hQ]
  clear hS0 h3 hQ HB HZ HLT
  obtain ⟨m, hm, hmd⟩ : ∃ m : Nat, (((D : Int) = 1 ∧ m = 5) ∨ ((D : Int) ≠ 1 ∧ m = 7)) ∧ m = manyD D := by
    refine ⟨manyD D, ?_, rfl⟩
    unfold manyD
    by_cases h : D = 1
    · left; rw [if_pos h]; omega
    · right; rw [if_neg h]; omega
  have hm7 : m ≤ 7 := by omega
  have MA := Lib.hid (fun w => many_any D m hm w)
  have HMD := Lib.hid hmd
  have HMM := Lib.hid hm
  clear hm hmd
  go_wp2_with fail
  go_loopg [35] 7 (fun gh iv wr => ∃ (i : Nat) (cs : Array Value), iv = .int .i64 i ∧ i ≤ m ∧ gh + i = 7 ∧ RSt w wr Q cs ∧ CsN k.toNat [m1, m2, m3, m4, m5, m6, m7] i cs)
  case atStart => exact ⟨0, _, rfl, by omega, by omega, HS.out, rfl, fun j hj => by match j, hj with
    | 0, _ => rfl
    | 1, _ => rfl
    | 2, _ => rfl
    | 3, _ => rfl
    | 4, _ => rfl, rfl, fun j hj => by match j, hj with
    | 0, _ => rfl
    | 1, _ => rfl
    | 2, _ => rfl
    | 3, _ => rfl
    | 4, _ => rfl
    | 5, _ => rfl
    | 6, _ => rfl⟩
  case round =>
    obtain ⟨i, cs, rfl, hi1, hg, hs, hc⟩ := hrel
    have Hg := Lib.hid hg
    have HW := Lib.hid hs
    have HC := Lib.hid hc
    clear hg hs hc HS
    by_cases hi : i < m
    · have hi7 : (i : Int) < 7 := by omega
      have him : ¬ (m : Int) ≤ i := by omega
      have hx0 := idx7 i (by omega) Q
      have hrd := HH.out.2.2.1 i (by rw [← HMD.out]; exact hi)
      obtain ⟨a, N, hx1, hsp, haN, hN2, hN20⟩ := nidx i (by omega)
      rw [hsp] at hrd
      simp only [Option.getD_some] at hrd
      obtain ⟨z, hz⟩ : ∃ z, [m1, m2, m3, m4, m5, m6, m7][i]? = some z := ⟨_, List.getElem?_eq_getElem (by show i < 7; omega)⟩
      have hrd2 : rd (s.extract a (a + N)).data.toList = some z := by
        rw [ext_mid]
        have e : (hraw n l u g f k m1 m2 m3 m4 m5 m6 m7).nums[i]?.getD 0 = z := by
          show [m1, m2, m3, m4, m5, m6, m7][i]?.getD 0 = z
          rw [hz]; rfl
        rw [e] at hrd; exact hrd
      have hxs := ext_size s a (a + N) (by omega)
      obtain ⟨z', E, hT, hTE⟩ := read_named (s.extract a (a + N)) (by omega) (by omega)
      obtain ⟨rfl, rfl⟩ : E = .nilIface ∧ z' = z := by
        rcases hTE with ⟨rfl, h⟩ | ⟨_, h⟩
        · rw [hrd2] at h; exact ⟨rfl, (Option.some.inj h).symm⟩
        · rw [hrd2] at h; cases h
      have HT := Lib.hid hT
      have HZ := Lib.hid hz
      have j1 : IntKind.i64.wrap ((a : Int) + N) = (a : Int) + N := IntWalk.i64_in _ (by omega)
      have j2 : ((a : Int) + N).toNat = a + N := by omega
      have j3 : (0 : Int) ≤ (a : Int) + N := by omega
      have j4 : (a : Int) + N ≤ s.size := by omega
      have j5 : (a : Int) ≤ (a : Int) + N := by omega
      have j6 : ((a : Int)).toNat = a := by omega
      have j7 : a + N ≤ s.size := by omega
      have j8 : a ≤ a + N := by omega
      clear hrd hrd2 hxs hT hTE hz hsp
      go_wp2_with fail
      refine (MA.out _).mono ?_
      rintro e w4 ⟨rfl, rfl⟩
      go_wp2_with fail
      refine (numberSpots_any _).mono ?_
      rintro e w6 ⟨rfl, h6⟩
      have H6 := Lib.hid (HW.out.below h6)
      clear h6 HW
      go_wp2_with fail
      refine (HT.out _).mono ?_
      rintro e w7 ⟨rfl, h7⟩
      have hS := (H6.out.alloc (Obj.cells #[.int .i64 (a : Int), .int .i64 (N : Int)] 187)).below h7
      have q1 : w7.cell? ⟨Q, 6 + i, none⟩ = some (.int .i64 0) := by
        rw [hS.cell (6 + i), HC.out.2.2.2 i (by omega), if_neg (by omega)]
      have q2 := hS.frozen (6 + i)
      have H7 := Lib.hid hS
      clear h7 hS H6
      go_wp2_with fail
      go_roundg (7 - (i + 1))
      case measure => have := Hg.out; omega
      case rel => exact ⟨i + 1, _, by go_num, by omega, by omega, H7.out.set_ (6 + i) _, HC.out.set_ (by omega) _ HZ.out⟩
    · obtain rfl : i = m := by omega
      have hct : CsT k.toNat [m1, m2, m3, m4, m5, m6, m7] (txf s) 0 cs := CsT.of_n HC.out (fun j hj hmj => by
        rcases HMM.out with ⟨hd, hm⟩ | ⟨hd, hm⟩
        · have h67 := HH.out.2.2.2.1 (by omega)
          match j, hj with
          | 5, _ => exact h67.1
          | 6, _ => exact h67.2
          | 0, _ => omega
          | 1, _ => omega
          | 2, _ => omega
          | 3, _ => omega
          | 4, _ => omega
        · omega)
      have HCT := Lib.hid hct
      have hways := HMM.out
      clear hct HC hi hi1 hm7 Hg HMM HMD
      rcases hways with ⟨hD, rfl⟩ | ⟨hD, rfl⟩
      case' inl =>
        have HD := Lib.hid (show D = 1 by omega)
        clear hD
        have hx5 : ∀ w : World, (Instr.index 191 (.agg #[.pointer (some ⟨Q, 6, none⟩), .pointer (some ⟨Q, 7, none⟩), .pointer (some ⟨Q, 8, none⟩), .pointer (some ⟨Q, 9, none⟩), .pointer (some ⟨Q, 10, none⟩), .pointer (some ⟨Q, 11, none⟩), .pointer (some ⟨Q, 12, none⟩)]) (.int .i64 5)).run Tryz.prog w = .ok (.pointer (some ⟨Q, 11, none⟩)) w := fun w => idx7 5 (by decide) Q w
        go_wp2_with fail
        refine (MA.out _).mono ?_
        rintro e w4 ⟨rfl, rfl⟩
        go_wp2_with fail
      case' inr =>
        have HD := Lib.hid (show D ≠ 1 by omega)
        clear hD
        go_wp2_with fail
      all_goals
        refine (texts_any _ _).mono ?_
        rintro e w5 ⟨rfl, h5⟩
        have HS := Lib.hid (HW.out.below h5)
        clear h5 HW MA
        go_wp2_with fail
        go_loopg [68] 5 (fun gh iv wr => ∃ (i : Nat) (cs : Array Value), iv = .int .i64 i ∧ i ≤ 5 ∧ gh + i = 5 ∧ RSt w wr Q cs ∧ CsT k.toNat [m1, m2, m3, m4, m5, m6, m7] (txf s) i cs)
        case atStart => exact ⟨0, _, rfl, by omega, by omega, HS.out, HCT.out⟩
        case round =>
          obtain ⟨i, cs, rfl, hi1, hg, hs, hc⟩ := hrel
          have Hg := Lib.hid hg
          have HW := Lib.hid hs
          have HC := Lib.hid hc
          clear hg hs hc HS HCT
          by_cases hi : i < 5
          · have hi5 : (i : Int) < 5 := by omega
            obtain ⟨a, N, hx1, hx2, hsp, haN⟩ := idx5 i hi
            have hx1 := hx1 Q
            have hxs := ext_size s a (a + N) (by omega)
            obtain ⟨v, b, hT⟩ := zcut_any (s.extract a (a + N)) (by omega)
            have htx : bs (upTo0 (s.extract a (a + N)).data.toList) = txf s i := by
              unfold txf
              rw [ext_mid, hsp]; rfl
            rw [htx] at hT
            have HT := Lib.hid hT
            have j1 : IntKind.i64.wrap ((a : Int) + N) = (a : Int) + N := IntWalk.i64_in _ (by omega)
            have j2 : ((a : Int) + N).toNat = a + N := by omega
            have j3 : (0 : Int) ≤ (a : Int) + N := by omega
            have j4 : (a : Int) + N ≤ s.size := by omega
            have j5 : (a : Int) ≤ (a : Int) + N := by omega
            have j6 : ((a : Int)).toNat = a := by omega
            have j7 : a + N ≤ s.size := by omega
            have j8 : a ≤ a + N := by omega
            clear hxs hT htx hsp
            go_wp2_with fail
            refine (textSpots_any _).mono ?_
            rintro e w6 ⟨rfl, h6⟩
            have H6 := Lib.hid (HW.out.below h6)
            clear h6 HW
            go_wp2_with fail
            refine (HT.out _).mono ?_
            rintro e w7 ⟨rfl, nn, rfl⟩
            have hS := (H6.out.alloc (Obj.cells #[.int .i64 (a : Int), .int .i64 (N : Int)] 187)).drewN nn
            obtain ⟨y, hy⟩ : ∃ y, y = (w6.alloc (Obj.cells #[.int .i64 (a : Int), .int .i64 (N : Int)] 187)).drewN nn := ⟨_, rfl⟩
            rw [← hy] at hS ⊢
            have q1 : y.cell? ⟨Q, i, none⟩ = some (.string ⟨#[]⟩) := by
              rw [hS.cell i, HC.out.2.1 i hi, if_neg (by omega)]
            have q2 := hS.frozen i
            have H7 := Lib.hid hS
            clear hS H6 hy
            go_wp2_with fail
            go_roundg (5 - (i + 1))
            case measure => have := Hg.out; omega
            case rel => exact ⟨i + 1, _, by go_num, by omega, by omega, H7.out.set_ i _, HC.out.set_ hi⟩
          · obtain rfl : i = 5 := by omega
            have hcs := HC.out.lit
            have hh := HH.out
            obtain ⟨q0, q1, q2, q3, g1, g2, g3, g4, g5⟩ := hh
            clear q0 q1 q2 q3
            have e0 : txf s 0 = n := ba_ext g1.symm
            have e1 : txf s 1 = l := ba_ext g2.symm
            rw [e0, e1] at hcs
            subst hcs
            have hZ := HW.out.2.2.1
            have hQ := HW.out.2.2.2
            have HLT := Lib.hid HW.out.2.1
            have hne1 : ¬ w.heap.size = Q := Nat.ne_of_lt HLT.out
            have hne2 : ¬ Q = w.heap.size := fun e => hne1 e.symm
            have z0 := hZ.cell 0
            have y0 := hZ.frozen 0
            have z1 := hZ.cell 1
            have y1 := hZ.frozen 1
            have z2 := hZ.cell 2
            have y2 := hZ.frozen 2
            have z3 := hZ.cell 3
            have y3 := hZ.frozen 3
            have z4 := hZ.cell 4
            have y4 := hZ.frozen 4
            have z5 := hZ.cell 5
            have y5 := hZ.frozen 5
            have z6 := hZ.cell 6
            have y6 := hZ.frozen 6
            have z7 := hZ.cell 7
            have y7 := hZ.frozen 7
            have z8 := hZ.cell 8
            have y8 := hZ.frozen 8
            have z9 := hZ.cell 9
            have y9 := hZ.frozen 9
            have z10 := hZ.cell 10
            have y10 := hZ.frozen 10
            have z11 := hZ.cell 11
            have y11 := hZ.frozen 11
            have z12 := hZ.cell 12
            have y12 := hZ.frozen 12
            have c0 := hQ.cell 0
            have c1 := hQ.cell 1
            have c2 := hQ.cell 2
            have c3 := hQ.cell 3
            have c4 := hQ.cell 4
            have c5 := hQ.cell 5
            have c6 := hQ.cell 6
            have c7 := hQ.cell 7
            have c8 := hQ.cell 8
            have c9 := hQ.cell 9
            have c10 := hQ.cell 10
            have c11 := hQ.cell 11
            have c12 := hQ.cell 12
            have r2 := hQ.frozen 2
            have r3 := hQ.frozen 3
            have r4 := hQ.frozen 4
            have HZ := Lib.hid hZ
            have HB := Lib.hid HW.out.1
            have HU := Lib.hid g3
            have HG := Lib.hid g4
            have HF := Lib.hid g5
            have hdl := HH.out.1
            have hd3 : D = 1 ∨ D = 2 ∨ D = 3 := by
              rw [hdl]; unfold dialectL; split
              · exact .inr (.inl rfl)
              · split
                · exact .inr (.inr rfl)
                · exact .inl rfl
            clear hZ hQ HW e0 e1 g1 g2 g3 g4 g5 HC hi hi1 HH hdl DI
            obtain rfl | rfl | rfl := hd3
            · try exact absurd HD.out (by decide)
              all_goals
                  have eu : u = ⟨#[]⟩ := ba_ext HU.out
                  have eg : g = ⟨#[]⟩ := ba_ext HG.out
                  have ef : f = ⟨#[]⟩ := ba_ext HF.out
                  subst eu eg ef
                  generalize txf s 2 = U2 at c2 ⊢
                  generalize txf s 3 = U3 at c3 ⊢
                  generalize txf s 4 = U4 at c4 ⊢
                  have hZ1 := ((HZ.out.far (p := ⟨Q, 2, none⟩) (Nat.ne_of_lt HLT.out) (.string ⟨#[]⟩)).far (p := ⟨Q, 3, none⟩) (Nat.ne_of_lt HLT.out) (.string ⟨#[]⟩)).far (p := ⟨Q, 4, none⟩) (Nat.ne_of_lt HLT.out) (.string ⟨#[]⟩)
                  have hB1 := ((HB.out.setCell (p := ⟨Q, 2, none⟩) (Nat.le_of_lt HLT.out) (.string ⟨#[]⟩)).setCell (p := ⟨Q, 3, none⟩) (Nat.le_of_lt HLT.out) (.string ⟨#[]⟩)).setCell (p := ⟨Q, 4, none⟩) (Nat.le_of_lt HLT.out) (.string ⟨#[]⟩)
                  have HZ1 := Lib.hid hZ1
                  have HB1 := Lib.hid hB1
                  clear hZ1 hB1
                  go_wp2_with fail
                  have hX := set13 HZ1.out (.string n) (.string l) (.string ⟨#[]⟩) (.string ⟨#[]⟩) (.string ⟨#[]⟩) (.int .u8 k.toNat) (.int .i64 m1) (.int .i64 m2) (.int .i64 m3) (.int .i64 m4) (.int .i64 m5) (.int .i64 m6) (.int .i64 m7)
                  have hXb := below13 HB1.out (Nat.le_refl w.heap.size) (.string n) (.string l) (.string ⟨#[]⟩) (.string ⟨#[]⟩) (.string ⟨#[]⟩) (.int .u8 k.toNat) (.int .i64 m1) (.int .i64 m2) (.int .i64 m3) (.int .i64 m4) (.int .i64 m5) (.int .i64 m6) (.int .i64 m7)
                  generalize hX0 : World.setCell _ ⟨w.heap.size, 12, none⟩ (.int .i64 m7) = X at hX hXb ⊢
                  have e0 := hX.cell 0
                  have e1 := hX.cell 1
                  have e2 := hX.cell 2
                  have e3 := hX.cell 3
                  have e4 := hX.cell 4
                  have e5 := hX.cell 5
                  have e6 := hX.cell 6
                  have e7 := hX.cell 7
                  have e8 := hX.cell 8
                  have e9 := hX.cell 9
                  have e10 := hX.cell 10
                  have e11 := hX.cell 11
                  have e12 := hX.cell 12
                  try simp only [Exit.inBlock, Exit.then]
                  refine bodyPost_ret (v := .tuple #[.agg #[.string n, .string l, .string ⟨#[]⟩, .string ⟨#[]⟩, .string ⟨#[]⟩, .int .u8 k.toNat, .int .i64 m1, .int .i64 m2, .int .i64 m3, .int .i64 m4, .int .i64 m5, .int .i64 m6, .int .i64 m7], .int .i64 1, .nilIface]) ?_ rfl ?_
                  · simp [results, Tryz.results83, go_sem, e0, e1, e2, e3, e4, e5, e6, e7, e8, e9, e10, e11, e12]
                  · exact ⟨rfl, hXb⟩
            · try exact absurd HD.out (by decide)
              all_goals
                  have eu : txf s 2 = u := ba_ext HU.out.symm
                  have eg : txf s 3 = g := ba_ext HG.out.symm
                  have ef : txf s 4 = f := ba_ext HF.out.symm
                  rw [eu] at c2
                  rw [eg] at c3
                  rw [ef] at c4
                  have hZ1 := HZ.out
                  have hB1 := HB.out
                  have HZ1 := Lib.hid hZ1
                  have HB1 := Lib.hid hB1
                  clear hZ1 hB1
                  go_wp2_with fail
                  have hX := set13 HZ1.out (.string n) (.string l) (.string u) (.string g) (.string f) (.int .u8 k.toNat) (.int .i64 m1) (.int .i64 m2) (.int .i64 m3) (.int .i64 m4) (.int .i64 m5) (.int .i64 m6) (.int .i64 m7)
                  have hXb := below13 HB1.out (Nat.le_refl w.heap.size) (.string n) (.string l) (.string u) (.string g) (.string f) (.int .u8 k.toNat) (.int .i64 m1) (.int .i64 m2) (.int .i64 m3) (.int .i64 m4) (.int .i64 m5) (.int .i64 m6) (.int .i64 m7)
                  generalize hX0 : World.setCell _ ⟨w.heap.size, 12, none⟩ (.int .i64 m7) = X at hX hXb ⊢
                  have e0 := hX.cell 0
                  have e1 := hX.cell 1
                  have e2 := hX.cell 2
                  have e3 := hX.cell 3
                  have e4 := hX.cell 4
                  have e5 := hX.cell 5
                  have e6 := hX.cell 6
                  have e7 := hX.cell 7
                  have e8 := hX.cell 8
                  have e9 := hX.cell 9
                  have e10 := hX.cell 10
                  have e11 := hX.cell 11
                  have e12 := hX.cell 12
                  try simp only [Exit.inBlock, Exit.then]
                  refine bodyPost_ret (v := .tuple #[.agg #[.string n, .string l, .string u, .string g, .string f, .int .u8 k.toNat, .int .i64 m1, .int .i64 m2, .int .i64 m3, .int .i64 m4, .int .i64 m5, .int .i64 m6, .int .i64 m7], .int .i64 2, .nilIface]) ?_ rfl ?_
                  · simp [results, Tryz.results83, go_sem, e0, e1, e2, e3, e4, e5, e6, e7, e8, e9, e10, e11, e12]
                  · exact ⟨rfl, hXb⟩
            · try exact absurd HD.out (by decide)
              all_goals
                  have eu : txf s 2 = u := ba_ext HU.out.symm
                  have eg : txf s 3 = g := ba_ext HG.out.symm
                  have ef : f = ⟨#[]⟩ := ba_ext HF.out
                  subst ef
                  rw [eu] at c2
                  rw [eg] at c3
                  generalize txf s 4 = U4 at c4 ⊢
                  have hZ1 := HZ.out.far (p := ⟨Q, 4, none⟩) (Nat.ne_of_lt HLT.out) (.string ⟨#[]⟩)
                  have hB1 := HB.out.setCell (p := ⟨Q, 4, none⟩) (Nat.le_of_lt HLT.out) (.string ⟨#[]⟩)
                  have HZ1 := Lib.hid hZ1
                  have HB1 := Lib.hid hB1
                  clear hZ1 hB1
                  go_wp2_with fail
                  have hX := set13 HZ1.out (.string n) (.string l) (.string u) (.string g) (.string ⟨#[]⟩) (.int .u8 k.toNat) (.int .i64 m1) (.int .i64 m2) (.int .i64 m3) (.int .i64 m4) (.int .i64 m5) (.int .i64 m6) (.int .i64 m7)
                  have hXb := below13 HB1.out (Nat.le_refl w.heap.size) (.string n) (.string l) (.string u) (.string g) (.string ⟨#[]⟩) (.int .u8 k.toNat) (.int .i64 m1) (.int .i64 m2) (.int .i64 m3) (.int .i64 m4) (.int .i64 m5) (.int .i64 m6) (.int .i64 m7)
                  generalize hX0 : World.setCell _ ⟨w.heap.size, 12, none⟩ (.int .i64 m7) = X at hX hXb ⊢
                  have e0 := hX.cell 0
                  have e1 := hX.cell 1
                  have e2 := hX.cell 2
                  have e3 := hX.cell 3
                  have e4 := hX.cell 4
                  have e5 := hX.cell 5
                  have e6 := hX.cell 6
                  have e7 := hX.cell 7
                  have e8 := hX.cell 8
                  have e9 := hX.cell 9
                  have e10 := hX.cell 10
                  have e11 := hX.cell 11
                  have e12 := hX.cell 12
                  try simp only [Exit.inBlock, Exit.then]
                  refine bodyPost_ret (v := .tuple #[.agg #[.string n, .string l, .string u, .string g, .string ⟨#[]⟩, .int .u8 k.toNat, .int .i64 m1, .int .i64 m2, .int .i64 m3, .int .i64 m4, .int .i64 m5, .int .i64 m6, .int .i64 m7], .int .i64 3, .nilIface]) ?_ rfl ?_
                  · simp [results, Tryz.results83, go_sem, e0, e1, e2, e3, e4, e5, e6, e7, e8, e9, e10, e11, e12]
                  · exact ⟨rfl, hXb⟩

end Go.Proofs.YtkhkjacnoiopcaaGreatDoor
