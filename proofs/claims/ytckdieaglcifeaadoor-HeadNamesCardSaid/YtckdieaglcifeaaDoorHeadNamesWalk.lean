/-
  head.Named; the walk of HeadNames.
-/
import Derived.Test.YtckdieaglcifeaaDoorHeadArg
namespace Go.Proofs.YtckdieaglcifeaaDoor
open Go.RowKit

/-- What Named leaves. -/
def NamedP (name : ByteArray) (l u g : ByteArray) (k m1 m2 m3 m4 m5 m6 m7 : Int) (B : Nat) (w : World) (e : Ending) (w' : World) : Prop :=
  Below B w w' ∧ ∃ (a b : ByteArray) (ok : Bool), e = .returned (.tuple #[.agg #[.string a, .string l, .string u, .string g, .string b, .int .u8 k, .int .i64 m1, .int .i64 m2, .int .i64 m3, .int .i64 m4, .int .i64 m5, .int .i64 m6, .int .i64 m7], .bool ok]) ∧ (ok = true → a.size ≤ 1000000 ∧ b.size ≤ 1000000 ∧ ((b.toList = [] ∧ name = a) ∨ (b.toList ≠ [] ∧ b ++ ⟨#[47]⟩ ++ a = name)))

set_option maxRecDepth 100000 in
set_option maxHeartbeats 2000000 in
/-- The end of Named: two texts are put, the header handed back. -/
theorem named_plain (d : Int) (h2 : (d == 2) = false) (h4 : (d == 4) = false) (name : ByteArray) (hn : name.size ≤ 400) (n l u g f : ByteArray) (k m1 m2 m3 m4 m5 m6 m7 : Int) (w : World) :
    Calls Tryd.prog 12 #[.agg #[.string n, .string l, .string u, .string g, .string f, .int .u8 k, .int .i64 m1, .int .i64 m2, .int .i64 m3, .int .i64 m4, .int .i64 m5, .int .i64 m6, .int .i64 m7], .int .i64 d, .string name] w (NamedP name l u g k m1 m2 m3 m4 m5 m6 m7 w.heap.size w) := by
  go_enter Tryd.func12, Tryd.ntmps12
  go_wp2_with fail
  refine bodyPost_ret (v := .tuple #[.agg #[.string name, .string l, .string u, .string g, .string ⟨#[]⟩, .int .u8 k, .int .i64 m1, .int .i64 m2, .int .i64 m3, .int .i64 m4, .int .i64 m5, .int .i64 m6, .int .i64 m7], .bool (decide ((name.size : Int) ≤ 100))]) ?_ rfl ?_
  · simp [results, Tryd.results12, go_sem]
  · exact ⟨((Below.refl _ _).alloc (Nat.le_refl _) _).alloc (by simp) _, name, ⟨#[]⟩, _, rfl, fun _ => ⟨by omega, by decide, .inl ⟨by rw [Lib.toList_data], rfl⟩⟩⟩

set_option maxRecDepth 100000 in
set_option maxHeartbeats 2000000 in
theorem named_split (d : Int) (h2 : (d == 2) = true ∨ ((d == 2) = false ∧ (d == 4) = true)) (name : ByteArray) (hn : name.size ≤ 400) (n l u g f : ByteArray) (k m1 m2 m3 m4 m5 m6 m7 : Int) (w : World) :
    Calls Tryd.prog 12 #[.agg #[.string n, .string l, .string u, .string g, .string f, .int .u8 k, .int .i64 m1, .int .i64 m2, .int .i64 m3, .int .i64 m4, .int .i64 m5, .int .i64 m6, .int .i64 m7], .int .i64 d, .string name] w (NamedP name l u g k m1 m2 m3 m4 m5 m6 m7 w.heap.size w) := by
  have hsp : ∀ w : World, Calls Tryd.prog 28 #[.string name] w fun e w' => Below w.heap.size w w' ∧ ∃ (b a : ByteArray) (ok : Bool), e = .returned (.tuple #[.string b, .string a, .bool ok]) ∧
      (ok = true → a.size ≤ 1000000 ∧ b.size ≤ 1000000 ∧ ((b.toList = [] ∧ name = a) ∨ (b.toList ≠ [] ∧ b ++ ⟨#[47]⟩ ++ a = name))) := by
    intro w
    by_cases hs : name.size ≤ 100
    · refine (split_short name w hs).mono ?_
      rintro e w' ⟨rfl, rfl⟩
      exact ⟨Below.refl _ _, _, _, _, rfl, fun _ => ⟨by omega, by decide, .inl ⟨by rw [Lib.toList_data], rfl⟩⟩⟩
    · refine (split_long name w (by omega) (by omega)).mono ?_
      rintro e w' ⟨hb, rfl | ⟨b, a, rfl, hl, h1, h2, h3, h4⟩⟩
      · exact ⟨hb, _, _, _, rfl, fun h => by cases h⟩
      · refine ⟨hb, _, _, _, rfl, fun _ => ⟨by rw [bs_size]; omega, by rw [bs_size]; omega, .inr ⟨?_, ?_⟩⟩⟩
        · rw [Lib.toList_data, bs_list]; intro e; rw [e] at h1; simp at h1
        · refine ba_ext ?_
          rw [cat_list, cat_list, bs_list, bs_list, hl, List.append_assoc]
          rfl
  have SP := Lib.hid hsp
  clear hsp
  rcases h2 with h2 | ⟨h2, h4⟩
  all_goals
    go_enter Tryd.func12, Tryd.ntmps12
    go_wp2_with fail
    refine (SP.out _).mono ?_
    rintro e w1 ⟨h1, b, a, ok, rfl, hok⟩
    have hb0 : Below w.heap.size w ((w.alloc (.cells #[.string n, .string l, .string u, .string g, .string f, .int .u8 k, .int .i64 m1, .int .i64 m2, .int .i64 m3, .int .i64 m4, .int .i64 m5, .int .i64 m6, .int .i64 m7] 23)).alloc (.cells rz 23)) := ((Below.refl _ _).alloc (Nat.le_refl _) _).alloc (by simp) _
    have hB := thenB hb0 h1
    have hR : Blk w1 w.heap.size 23 #[.string n, .string l, .string u, .string g, .string f, .int .u8 k, .int .i64 m1, .int .i64 m2, .int .i64 m3, .int .i64 m4, .int .i64 m5, .int .i64 m6, .int .i64 m7] := ((Blk.new w _ _).alloc _).below h1 (by simp; omega)
    have hZ0 := Blk.new (w.alloc (.cells #[.string n, .string l, .string u, .string g, .string f, .int .u8 k, .int .i64 m1, .int .i64 m2, .int .i64 m3, .int .i64 m4, .int .i64 m5, .int .i64 m6, .int .i64 m7] 23)) 23 rz
    rw [World.size_alloc] at hZ0
    have hZ : Blk w1 (w.heap.size + 1) 23 rz := hZ0.below h1 (by simp)
    generalize w.heap.size = R at *
    have c0 := hR.cell 0
    have c1 := hR.cell 1
    have c2 := hR.cell 2
    have c3 := hR.cell 3
    have c4 := hR.cell 4
    have c5 := hR.cell 5
    have c6 := hR.cell 6
    have c7 := hR.cell 7
    have c8 := hR.cell 8
    have c9 := hR.cell 9
    have c10 := hR.cell 10
    have c11 := hR.cell 11
    have c12 := hR.cell 12
    have r0 := hR.frozen 0
    have r4 := hR.frozen 4
    have z0 := hZ.cell 0
    have z1 := hZ.cell 1
    have z2 := hZ.cell 2
    have z3 := hZ.cell 3
    have z4 := hZ.cell 4
    have z5 := hZ.cell 5
    have z6 := hZ.cell 6
    have z7 := hZ.cell 7
    have z8 := hZ.cell 8
    have z9 := hZ.cell 9
    have z10 := hZ.cell 10
    have z11 := hZ.cell 11
    have z12 := hZ.cell 12
    have y0 := hZ.frozen 0
    have y1 := hZ.frozen 1
    have y2 := hZ.frozen 2
    have y3 := hZ.frozen 3
    have y4 := hZ.frozen 4
    have y5 := hZ.frozen 5
    have y6 := hZ.frozen 6
    have y7 := hZ.frozen 7
    have y8 := hZ.frozen 8
    have y9 := hZ.frozen 9
    have y10 := hZ.frozen 10
    have y11 := hZ.frozen 11
    have y12 := hZ.frozen 12
    have hZ1 := (hZ.far (p := ⟨R, 4, none⟩) (by show _ ≠ R; omega) (.string b)).far (p := ⟨R, 0, none⟩) (by show _ ≠ R; omega) (.string a)
    have hB1 := (hB.setCell (p := ⟨R, 4, none⟩) (Nat.le_refl _) (.string b)).setCell (p := ⟨R, 0, none⟩) (Nat.le_refl _) (.string a)
    have HZ := Lib.hid hZ1
    have HB := Lib.hid hB1
    have OK := Lib.hid hok
    have hne1 : ¬ R = R + 1 := by omega
    have hne2 : ¬ R + 1 = R := by omega
    clear h1 hb0 hB hR hZ0 hZ hZ1 hB1 hok
    go_wp2_with fail
    have hX := set13 HZ.out (.string a) (.string l) (.string u) (.string g) (.string b) (.int .u8 k) (.int .i64 m1) (.int .i64 m2) (.int .i64 m3) (.int .i64 m4) (.int .i64 m5) (.int .i64 m6) (.int .i64 m7)
    have hXb := below13 HB.out (by omega : R ≤ R + 1) (.string a) (.string l) (.string u) (.string g) (.string b) (.int .u8 k) (.int .i64 m1) (.int .i64 m2) (.int .i64 m3) (.int .i64 m4) (.int .i64 m5) (.int .i64 m6) (.int .i64 m7)
    generalize hX0 : World.setCell _ ⟨R + 1, 12, none⟩ (.int .i64 m7) = X at hX hXb ⊢
    have e0 := hX.cell 0
    have e1 := hX.cell 1
    have e2 := hX.cell 2
    have e3 := hX.cell 3
    have e4 := hX.cell 4
    have e5 := hX.cell 5
    have e6 := hX.cell 6
    have e7 := hX.cell 7
    have e8 := hX.cell 8
    have e9 := hX.cell 9
    have e10 := hX.cell 10
    have e11 := hX.cell 11
    have e12 := hX.cell 12
    try simp only [Exit.inBlock, Exit.then]
    refine bodyPost_ret (v := .tuple #[.agg #[.string a, .string l, .string u, .string g, .string b, .int .u8 k, .int .i64 m1, .int .i64 m2, .int .i64 m3, .int .i64 m4, .int .i64 m5, .int .i64 m6, .int .i64 m7], .bool ok]) ?_ rfl ?_
    · simp [results, Tryd.results12, go_sem, e0, e1, e2, e3, e4, e5, e6, e7, e8, e9, e10, e11, e12]
    · exact ⟨hXb, a, b, ok, rfl, OK.out⟩

theorem named_any (d : Int) (name : ByteArray) (hn : name.size ≤ 400) (n l u g f : ByteArray) (k m1 m2 m3 m4 m5 m6 m7 : Int) (w : World) :
    Calls Tryd.prog 12 #[.agg #[.string n, .string l, .string u, .string g, .string f, .int .u8 k, .int .i64 m1, .int .i64 m2, .int .i64 m3, .int .i64 m4, .int .i64 m5, .int .i64 m6, .int .i64 m7], .int .i64 d, .string name] w (NamedP name l u g k m1 m2 m3 m4 m5 m6 m7 w.heap.size w) := by
  cases h2 : (d == 2)
  · cases h4 : (d == 4)
    · exact named_plain d h2 h4 name hn n l u g f k m1 m2 m3 m4 m5 m6 m7 w
    · exact named_split d (.inr ⟨h2, h4⟩) name hn n l u g f k m1 m2 m3 m4 m5 m6 m7 w
  · exact named_split d (.inl h2) name hn n l u g f k m1 m2 m3 m4 m5 m6 m7 w

theorem blk_ald {W wt : World} {t : TypeId} {cs : Array Value} (T : Below (W.alloc (.cells cs t)).drew.heap.size (W.alloc (.cells cs t)).drew wt) : Blk wt W.heap.size t cs := (Blk.new W t cs).drew.below T (by show _ < (W.alloc _).heap.size; simp)
theorem blk_al {W wt : World} {t : TypeId} {cs : Array Value} (T : Below (W.alloc (.cells cs t)).heap.size (W.alloc (.cells cs t)) wt) : Blk wt W.heap.size t cs := (Blk.new W t cs).below T (by simp)

set_option maxRecDepth 100000 in
set_option maxHeartbeats 4000000 in
theorem headNames_main (dialect : Int) (n l u g f : ByteArray) (k m1 m2 m3 m4 m5 m6 m7 : Int) (name : ByteArray) (w : World) :
    Calls Tryd.prog 5 #[.int .i64 dialect, .agg #[.string n, .string l, .string u, .string g, .string f, .int .u8 k, .int .i64 m1, .int .i64 m2, .int .i64 m3, .int .i64 m4, .int .i64 m5, .int .i64 m6, .int .i64 m7], .string name] w fun e w' => e = .returned (.bool true) ∧ Below w.heap.size w w' := by
  by_cases hbig : (400 : Int) < name.size
  · go_enter Tryd.func5, Tryd.ntmps5
    go_wp2_with fail
    refine (headed_any _).mono ?_
    rintro e w1 ⟨rfl, h1⟩
    have B1 := Lib.hid (thenB ((Below.refl _ _).alloc (Nat.le_refl _) _) h1)
    clear h1
    go_wp2_with fail
    go_ret
    exact ⟨rfl, B1.out⟩
  · have PK := Lib.hid (fun w => pick_any dialect 4 w (by omega) (by omega))
    have p0 := pickN_lo dialect 4 (by omega)
    have p1 := pickN_hi dialect 4 (by omega)
    obtain ⟨p, hp⟩ : ∃ p, p = pickN dialect 4 := ⟨_, rfl⟩
    rw [← hp] at PK p0 p1
    have ew : IntKind.i64.wrap (1 + p) = 1 + p := IntWalk.i64_in _ (by omega)
    have NM := Lib.hid (fun w => named_any (1 + p) name (by omega) n l u g f k m1 m2 m3 m4 m5 m6 m7 w)
    clear hp p0 p1
    go_enter Tryd.func5, Tryd.ntmps5
    go_wp2_with fail
    refine (headed_any _).mono ?_
    rintro e w1 ⟨rfl, h1⟩
    have B1 := Lib.hid (thenB ((Below.refl _ _).alloc (Nat.le_refl _) _) h1)
    have hR : Blk w1 w.heap.size 23 #[.string n, .string l, .string u, .string g, .string f, .int .u8 k, .int .i64 m1, .int .i64 m2, .int .i64 m3, .int .i64 m4, .int .i64 m5, .int .i64 m6, .int .i64 m7] := (Blk.new w _ _).below h1 (by simp)
    have c0 := hR.cell 0
    have c1 := hR.cell 1
    have c2 := hR.cell 2
    have c3 := hR.cell 3
    have c4 := hR.cell 4
    have c5 := hR.cell 5
    have c6 := hR.cell 6
    have c7 := hR.cell 7
    have c8 := hR.cell 8
    have c9 := hR.cell 9
    have c10 := hR.cell 10
    have c11 := hR.cell 11
    have c12 := hR.cell 12
    have hlt0 : w.heap.size < w1.heap.size := hR.lt
    have hne1 : ¬ w.heap.size = w1.heap.size := by omega
    have hne2 : ¬ w1.heap.size = w.heap.size := by omega
    clear h1 hR
    go_wp2_with fail
    go_cut [7, 8] (fun s7 s8 wx => ∃ (F : Nat) (a b : ByteArray) (ok : Bool), s7 = .pointer (some ⟨F, 0, none⟩) ∧ s8 = .bool ok ∧ Blk wx F 23 #[.string a, .string l, .string u, .string g, .string b, .int .u8 k, .int .i64 m1, .int .i64 m2, .int .i64 m3, .int .i64 m4, .int .i64 m5, .int .i64 m6, .int .i64 m7] ∧ Below w.heap.size w wx ∧
      (ok = true → a.size ≤ 1000000 ∧ b.size ≤ 1000000 ∧ ((b.toList = [] ∧ name = a) ∨ (b.toList ≠ [] ∧ b ++ ⟨#[47]⟩ ++ a = name))))
    case first =>
      go_region_with (first
        | (go_at_call 8; (with_reducible refine (PK.out _).mono ?_); rintro e wt ⟨rfl, rfl⟩)
        | (go_at_call 12; (with_reducible refine (NM.out _).mono ?_); rintro e wt ⟨TT, a, b, ok, rfl, hok⟩; have OK := Lib.hid hok; clear hok; (try (have hF : Blk wt w1.heap.size 23 rz := (by first | exact blk_ald TT | exact blk_al TT); have f0 := hF.cell 0; have f1 := hF.cell 1; have f2 := hF.cell 2; have f3 := hF.cell 3; have f4 := hF.cell 4; have f5 := hF.cell 5; have f6 := hF.cell 6; have f7 := hF.cell 7; have f8 := hF.cell 8; have f9 := hF.cell 9; have f10 := hF.cell 10; have f11 := hF.cell 11; have f12 := hF.cell 12; have y0 := hF.frozen 0; have y1 := hF.frozen 1; have y2 := hF.frozen 2; have y3 := hF.frozen 3; have y4 := hF.frozen 4; have y5 := hF.frozen 5; have y6 := hF.frozen 6; have y7 := hF.frozen 7; have y8 := hF.frozen 8; have y9 := hF.frozen 9; have y10 := hF.frozen 10; have y11 := hF.frozen 11; have y12 := hF.frozen 12; have HF := Lib.hid hF; clear hF)); have T0 := Lib.hid TT; clear TT))
      all_goals go_wp2_with fail
      all_goals go_meet
      all_goals first
        | exact ⟨w1.heap.size, a, b, ok, rfl, rfl, set13 HF.out (.string a) (.string l) (.string u) (.string g) (.string b) (.int .u8 k) (.int .i64 m1) (.int .i64 m2) (.int .i64 m3) (.int .i64 m4) (.int .i64 m5) (.int .i64 m6) (.int .i64 m7), below13 (thenB (B1.out.alloc B1.out.size _).drew T0.out) B1.out.size (.string a) (.string l) (.string u) (.string g) (.string b) (.int .u8 k) (.int .i64 m1) (.int .i64 m2) (.int .i64 m3) (.int .i64 m4) (.int .i64 m5) (.int .i64 m6) (.int .i64 m7), OK.out⟩
        | exact ⟨_, a, b, ok, rfl, rfl, Blk.new _ _ _, (thenB B1.out.drew T0.out).alloc (thenB B1.out.drew T0.out).size _, OK.out⟩
    case rest =>
      obtain ⟨F, a, b, ok, rfl, rfl, hF, hb, hok⟩ := hcut
      have HB := Lib.hid hb
      have f0 := hF.cell 0
      have f1 := hF.cell 1
      have f2 := hF.cell 2
      have f3 := hF.cell 3
      have f4 := hF.cell 4
      have f5 := hF.cell 5
      have f6 := hF.cell 6
      have f7 := hF.cell 7
      have f8 := hF.cell 8
      have f9 := hF.cell 9
      have f10 := hF.cell 10
      have f11 := hF.cell 11
      have f12 := hF.cell 12
      clear hb hF
      cases ok
      · go_wp2_with fail
        go_ret
        exact ⟨rfl, HB.out⟩
      · obtain ⟨ha, hb, hL⟩ := hok rfl
        have FU := Lib.hid (fun w => full_any a l u g b k m1 m2 m3 m4 m5 m6 m7 w ha hb name (by
          rcases hL with ⟨h1, h2⟩ | ⟨h1, h2⟩
          · exact .inl ⟨h1, h2⟩
          · exact .inr ⟨h1, h2⟩))
        clear hL ha hb hok
        go_wp2_with fail
        refine (FU.out _).mono ?_
        rintro e w5 ⟨rfl, h5⟩
        have B5 := Lib.hid (thenB HB.out h5)
        clear h5 HB
        go_wp2_with fail
        go_ret
        exact ⟨by first | rfl | simp, B5.out⟩

set_option maxRecDepth 100000 in
theorem headNames_walk (dialect : Int) (_hd : (Lit.int .i64 dialect).wf = true) {H : Type} {enc : TypeId × Value → H} {d : DataW H} {ps : List MemPlace} {base : Nat} (v : Value) {w : World} (hok : Value.okWide Tryd.prog w .any base 23 v)
    (h : DataW.Trod enc Tryd.prog w 0 (fun _ => true) true 23 v d ps) (hz : ∀ n ∈ d.weights Tryd.prog 23, n ≤ reachBytes) (name : ByteArray) (_hs : name.size ≤ 140737488351232) :
    Calls Tryd.prog 5 #[.int .i64 dialect, v, .string name] w fun e w' => e = .returned (.bool true) ∧ Below w.heap.size w w' := by
  obtain ⟨r, rfl, hw, z1, z2, z3, z4, z5⟩ := raw_open hok h hz
  obtain ⟨n, l, u, g, f, k, m1, m2, m3, m4, m5, m6, m7⟩ := r
  exact headNames_main dialect (bs n) (bs l) (bs u) (bs g) (bs f) k.toNat m1 m2 m3 m4 m5 m6 m7 name w

end Go.Proofs.YtckdieaglcifeaaDoor
