/-
  The walk of BlockParts.
-/
import Derived.Test.YtighfpcnmgplcaaDoorBkC
import Derived.Test.YtighfpcnmgplcaaDoorBkMask
import Derived.Test.YtighfpcnmgplcaaDoorBytes
import Derived.Deep.Grids
namespace Go.Proofs.YtighfpcnmgplcaaDoor
open Go.RowKit

/-- A []bool that reads as m. -/
def Bools (W : World) (v : Value) (m : List Bool) : Prop := ∃ (A : Option Addr) (cap : Nat), v = .slice A m.length cap ∧ ∀ (j : Nat) (hj : j < m.length), ∃ b off, A = some ⟨b, off, none⟩ ∧ b < W.heap.size ∧ W.cell? ⟨b, off + j, none⟩ = some (.bool m[j])

theorem bools_ways {W : World} {v : Value} {m : List Bool} (h : Bools W v m) : (∃ A cap, v = .slice A 0 cap ∧ m = []) ∨ ∃ b off cap, v = .slice (some ⟨b, off, none⟩) m.length cap ∧ b < W.heap.size ∧ ∀ (j : Nat) (hj : j < m.length), W.cell? ⟨b, off + j, none⟩ = some (.bool m[j]) := by
  obtain ⟨A, cap, rfl, hc⟩ := h
  by_cases h0 : 0 < m.length
  · right
    obtain ⟨b, off, rfl, hb, _⟩ := hc 0 h0
    refine ⟨b, off, cap, rfl, hb, fun j hj => ?_⟩
    obtain ⟨b', off', e, _, h⟩ := hc j hj
    cases e
    exact h
  · left
    have : m = [] := List.length_eq_zero_iff.1 (by omega)
    subst this
    exact ⟨A, cap, rfl, rfl⟩

def mk (m : List Bool) (i : Nat) : Bool := m[i]?.getD false

set_option maxRecDepth 100000 in
set_option maxHeartbeats 4000000 in
theorem blockParts_small (s : ByteArray) (mv : Value) (m : List Bool) (w : World) (hm : Bools w mv m) (h1 : s.size ≤ 600) (h2 : m.length ≤ 600) :
    Calls Tryd.prog 5 #[.string s, mv] w fun e w' => e = .returned (.bool true) ∧ Below w.heap.size w w' := by
  obtain ⟨A, hA, rA⟩ := rep_named 0 512 (by decide)
  have hAs : A.size = 512 := size_rep hA
  have rA' : ∀ w : World, Calls Tryd.prog 12 #[.string ⟨#[0]⟩, .int .i64 512] w fun e w' => e = .returned (.string A) ∧ Below w.heap.size w w' := rA
  have he : (s ++ A).extract 0 512 = blockOf s := ba_ext (by rw [ext_to, cat_list, hA]; rfl)
  have c1 := fun w => run_string_add_sum (P := Tryd.prog) w s A (by omega)
  have hz : (s ++ A).size = s.size + 512 := by rw [ByteArray.size_append, hAs]
  have hz2 : (512 : Int) ≤ (s ++ A).size := by omega
  have hbs := blockOf_size s
  obtain ⟨S, hS⟩ : ∃ S, S = blockOf s := ⟨_, rfl⟩
  rw [← hS] at he hbs
  have hcv := fun w : World => Lib.run_convert_string_bytes (P := Tryd.prog) w 9 26 5 S Tryd.underlying9 Tryd.underlying26 Tryd.underlying5
  have HS := Lib.hid hbs
  have RA := Lib.hid rA'
  have k1 : ¬ (600 : Int) < s.size := by omega
  have k2 : ¬ (600 : Int) < m.length := by omega
  clear hA rA hAs rA' hz hS hbs
  rcases bools_ways hm with ⟨AA, mcap, rfl, hmz⟩ | ⟨mb, moff, mcap, rfl, hmb, hmc⟩
  · clear hm
    go_enter Tryd.func5, Tryd.ntmps5
    go_wp2_with fail
    refine (blocked_any _).mono ?_
    rintro e w1 ⟨rfl, hb1⟩
    have B1 := Lib.hid hb1
    clear hb1
    go_wp2_with fail
    refine (RA.out _).mono ?_
    rintro e w2 ⟨rfl, hb2⟩
    have B2 := Lib.hid (thenB B1.out hb2)
    clear hb2 B1
    go_wp2_with fail
    have y1 := Bytes.of_conv w2 5 S
    have b1 := Bytes.conv_below w2 5 S
    have z1 := Lib.bytesWorld_size w2 5 S
    obtain ⟨w3, hw3⟩ : ∃ w3, w3 = Lib.bytesWorld w2 5 S := ⟨_, rfl⟩
    rw [← hw3] at y1 b1 z1 ⊢
    have y2 := Bytes.of_conv w3 5 S
    have b2 := Bytes.conv_below w3 5 S
    have z2 := Lib.bytesWorld_size w3 5 S
    obtain ⟨w4, hw4⟩ : ∃ w4, w4 = Lib.bytesWorld w3 5 S := ⟨_, rfl⟩
    rw [← hw4] at y2 b2 z2 ⊢
    have y3 := y1.below b2 (by rw [z1]; omega)
    obtain ⟨q1, hq1⟩ : ∃ q, q = grownCap w2 S.size 0 5 := ⟨_, rfl⟩
    obtain ⟨q2, hq2⟩ : ∃ q, q = grownCap w3 S.size 0 5 := ⟨_, rfl⟩
    rw [← hq1, ← hq2]
    have hB4 : Below w.heap.size w w4 := (B2.out.trans (b1.mono B2.out.size)).trans (b2.mono (by rw [z1]; have := B2.out.size; omega))
    have hgw := B2.out.size
    obtain ⟨g1, hg1⟩ : ∃ g, g = w2.heap.size := ⟨_, rfl⟩
    obtain ⟨g2, hg2⟩ : ∃ g, g = w3.heap.size := ⟨_, rfl⟩
    rw [← hg1] at y3 z1 hgw ⊢
    rw [← hg2] at y2 z1 z2 ⊢
    have hg12 : g1 < g2 := by omega
    have hg4 : g2 < w4.heap.size := by omega
    have Y1 := Lib.hid y3
    have Y2 := Lib.hid y2
    have B4 := Lib.hid hB4
    have HL : Hid (S.data.toList.length = 512) := by show _ = _; rw [list_size]; exact HS.out
    clear y1 y2 y3 b1 b2 z1 z2 hw3 hw4 hq1 hq2 hg1 hg2 hB4 B2 hcv he
    have hs1 : S.size ≤ 512 := by have := HS.out; omega
    have hs2 : 512 ≤ S.size := by have := HS.out; omega
    go_loopg [7] (512) (fun g iv wr => ∃ i : Nat, iv = .int .i64 i ∧ i ≤ 512 ∧ g + i = 512 ∧ Bytes wr g1 (Bk.za (Bk.upto i (mk m)) 0 S.data.toList) ∧ Bytes wr g2 (Bk.za (Bk.upto i fun j => !mk m j) 0 S.data.toList) ∧ Below w.heap.size w wr ∧ g2 < wr.heap.size)
    case atStart =>
      refine ⟨0, rfl, by omega, by omega, ?_, ?_, B4.out, hg4⟩
      · have e : Bk.upto 0 (mk m) = fun _ => false := by funext j; simp [Bk.upto]
        rw [e, Bk.za_none]; exact Y1.out
      · have e : Bk.upto 0 (fun j => !mk m j) = fun _ => false := by funext j; simp [Bk.upto]
        rw [e, Bk.za_none]; exact Y2.out
    case round =>
      obtain ⟨i, rfl, hi1, hg, hy1, hy2, hbw, hgr⟩ := hrel
      have Hg := Lib.hid hg
      clear hg B4 Y1 Y2
      by_cases hi : i < 512
      · have ln1 : i < (Bk.za (Bk.upto i (mk m)) 0 S.data.toList).length := by rw [Bk.za_len, HL.out]; exact hi
        have ln2 : i < (Bk.za (Bk.upto i fun j => !mk m j) 0 S.data.toList).length := by rw [Bk.za_len, HL.out]; exact hi
        obtain ⟨xu, cu⟩ : ∃ v, wr.cell? ⟨g1, i, none⟩ = some v := ⟨_, hy1.cell ln1⟩
        obtain ⟨xv, cv⟩ : ∃ v, wr.cell? ⟨g2, i, none⟩ = some v := ⟨_, hy2.cell ln2⟩
        have fu := hy1.frozen ln1
        have fv := hy2.frozen ln2
        have n1 := hy1.set_ i 0
        have n2 := hy2.set_ i 0
        have f1 := hy1.far (p := ⟨g2, i, none⟩) (by show g1 ≠ g2; omega) (.int .u8 ((0 : UInt8).toNat : Int))
        have f2 := hy2.far (p := ⟨g1, i, none⟩) (by show g2 ≠ g1; omega) (.int .u8 ((0 : UInt8).toNat : Int))
        have HN1 := Lib.hid n1
        have HN2 := Lib.hid n2
        have HF1 := Lib.hid f1
        have HF2 := Lib.hid f2
        have HW := Lib.hid hbw
        have hi3 : (i : Int) < 512 := by omega
        have hi4 : (i : Int) < S.size := by omega
        clear n1 n2 f1 f2 hy1 hy2
        clear ln1 ln2
        · have HK : Hid (mk m i = false) := by show _ = _; rw [hmz]; rfl
          have hld : decide ((i : Int) < 0) = false := by simp
          have hl3 : ¬ (i : Int) < 0 := by omega
          have HM := Lib.hid hmz
          clear hmz
          go_wp2_with fail
          go_roundg (512 - (i + 1))
          case measure => have := Hg.out; omega
          case rel =>
            refine ⟨i + 1, by go_num, by omega, by omega, ?_, ?_, HW.out.setCell (by show _ ≤ g2; omega) _, by simpa using hgr⟩
            · rw [← Bk.za_miss _ _ i HK.out]; exact HF1.out
            · rw [← Bk.za_hit _ _ i (by show (!mk m i) = true; rw [HK.out]; rfl)]; exact HN2.out
      · have h512 : i = 512 := by omega
        have hi3 : (512 : Int) ≤ i := by omega
        subst h512
        obtain ⟨TA, hTA⟩ : ∃ TA : ByteArray, TA = ⟨(Bk.za (Bk.upto 512 (mk m)) 0 S.data.toList).toArray⟩ := ⟨_, rfl⟩
        obtain ⟨TB, hTB⟩ : ∃ TB : ByteArray, TB = ⟨(Bk.za (Bk.upto 512 fun j => !mk m j) 0 S.data.toList).toArray⟩ := ⟨_, rfl⟩
        have t1 := fun o => (hy1.alloc (by omega) o).text (P := Tryd.prog) (src := 26) (dst := 9) Tryd.underlying26 Tryd.underlying5 Tryd.underlying9 S.size q1 (by rw [Bk.za_len, list_size])
        have t2 := fun o => (hy2.alloc (by omega) o).text (P := Tryd.prog) (src := 26) (dst := 9) Tryd.underlying26 Tryd.underlying5 Tryd.underlying9 S.size q2 (by rw [Bk.za_len, list_size])
        rw [← hTA] at t1
        rw [← hTB] at t2
        have eA : TA.data.toList = Bk.za (Bk.upto 512 (mk m)) 0 S.data.toList := by rw [hTA]
        have eB : TB.data.toList = Bk.za (Bk.upto 512 fun j => !mk m j) 0 S.data.toList := by rw [hTB]
        have lA : TA.size = 512 := by rw [← list_size, eA, Bk.za_len, HL.out]
        have lB : TB.size = 512 := by rw [← list_size, eB, Bk.za_len, HL.out]
        have sS := fun sg w => sum_any S sg w hs1 hs2
        have sA := fun sg w => sum_any TA sg w (by omega) (by omega)
        have sB := fun sg w => sum_any TB sg w (by omega) (by omega)
        have law := fun sg => Bk.share_law sg (mk m) S.data.toList HL.out
        have bS := fun sg => Bk.sum_bd sg S.data.toList 0
        have bA := fun sg => Bk.sum_bd sg TA.data.toList 0
        have bB := fun sg => Bk.sum_bd sg TB.data.toList 0
        rw [← eA, ← eB] at law
        rw [HL.out] at bS
        rw [list_size, lA] at bA
        rw [list_size, lB] at bB
        have hx : ∀ sg, ∃ x y z : Int, (∀ w, Calls Tryd.prog 13 #[.string S, .bool sg] w fun e w' => e = .returned (.tuple #[.int .i64 x, .nilIface]) ∧ w' = w) ∧
            (∀ w, Calls Tryd.prog 13 #[.string TA, .bool sg] w fun e w' => e = .returned (.tuple #[.int .i64 y, .nilIface]) ∧ w' = w) ∧
            (∀ w, Calls Tryd.prog 13 #[.string TB, .bool sg] w fun e w' => e = .returned (.tuple #[.int .i64 z, .nilIface]) ∧ w' = w) ∧
            ((x + 256 != y + z) = false) ∧ (-200000 ≤ x ∧ x ≤ 200000) ∧ (-200000 ≤ y ∧ y ≤ 200000) ∧ (-200000 ≤ z ∧ z ≤ 200000) := fun sg => by
          refine ⟨_, _, _, sS sg, sA sg, sB sg, ?_, ?_, ?_, ?_⟩
          · have := law sg; simp; omega
          · have := bS sg; unfold Bk.sum; omega
          · have := bA sg; unfold Bk.sum; omega
          · have := bB sg; unfold Bk.sum; omega
        obtain ⟨x0, y0, z0, X0, Y0, Z0, d0, ⟨x1, x2⟩, ⟨y1, y2⟩, ⟨z1, z2⟩⟩ := hx false
        obtain ⟨xt, yt, zt, Xt, Yt, Zt, dt, ⟨xt1, xt2⟩, ⟨yt1, yt2⟩, ⟨zt1, zt2⟩⟩ := hx true
        have HX0 := Lib.hid X0
        have HY0 := Lib.hid Y0
        have HZ0 := Lib.hid Z0
        have HXt := Lib.hid Xt
        have HYt := Lib.hid Yt
        have HZt := Lib.hid Zt
        have HW := Lib.hid hbw
        clear hx X0 Y0 Z0 Xt Yt Zt law bS bA bB sS sA sB lA lB eA eB hTA hTB hy1 hy2 hbw hi
        go_wp2_with fail
        refine wp_loop_rounds 3 ?_
        rw [rounds_succ]
        go_wp2_with fail
        refine (HX0.out _).mono ?_
        rintro e w5 ⟨rfl, rfl⟩
        go_wp2_with fail
        refine (HY0.out _).mono ?_
        rintro e w5 ⟨rfl, rfl⟩
        go_wp2_with fail
        refine (HZ0.out _).mono ?_
        rintro e w5 ⟨rfl, rfl⟩
        go_wp2_with fail
        rw [rounds_succ]
        go_wp2_with fail
        refine (HXt.out _).mono ?_
        rintro e w5 ⟨rfl, rfl⟩
        go_wp2_with fail
        refine (HYt.out _).mono ?_
        rintro e w5 ⟨rfl, rfl⟩
        go_wp2_with fail
        refine (HZt.out _).mono ?_
        rintro e w5 ⟨rfl, rfl⟩
        go_wp2_with fail
        rw [rounds_succ]
        go_wp2_with fail
        go_ret
        exact ⟨rfl, HW.out.alloc HW.out.size _⟩
  · clear hm
    go_enter Tryd.func5, Tryd.ntmps5
    go_wp2_with fail
    refine (blocked_any _).mono ?_
    rintro e w1 ⟨rfl, hb1⟩
    have B1 := Lib.hid hb1
    clear hb1
    go_wp2_with fail
    refine (RA.out _).mono ?_
    rintro e w2 ⟨rfl, hb2⟩
    have B2 := Lib.hid (thenB B1.out hb2)
    clear hb2 B1
    go_wp2_with fail
    have y1 := Bytes.of_conv w2 5 S
    have b1 := Bytes.conv_below w2 5 S
    have z1 := Lib.bytesWorld_size w2 5 S
    obtain ⟨w3, hw3⟩ : ∃ w3, w3 = Lib.bytesWorld w2 5 S := ⟨_, rfl⟩
    rw [← hw3] at y1 b1 z1 ⊢
    have y2 := Bytes.of_conv w3 5 S
    have b2 := Bytes.conv_below w3 5 S
    have z2 := Lib.bytesWorld_size w3 5 S
    obtain ⟨w4, hw4⟩ : ∃ w4, w4 = Lib.bytesWorld w3 5 S := ⟨_, rfl⟩
    rw [← hw4] at y2 b2 z2 ⊢
    have y3 := y1.below b2 (by rw [z1]; omega)
    obtain ⟨q1, hq1⟩ : ∃ q, q = grownCap w2 S.size 0 5 := ⟨_, rfl⟩
    obtain ⟨q2, hq2⟩ : ∃ q, q = grownCap w3 S.size 0 5 := ⟨_, rfl⟩
    rw [← hq1, ← hq2]
    have hB4 : Below w.heap.size w w4 := (B2.out.trans (b1.mono B2.out.size)).trans (b2.mono (by rw [z1]; have := B2.out.size; omega))
    have hgw := B2.out.size
    obtain ⟨g1, hg1⟩ : ∃ g, g = w2.heap.size := ⟨_, rfl⟩
    obtain ⟨g2, hg2⟩ : ∃ g, g = w3.heap.size := ⟨_, rfl⟩
    rw [← hg1] at y3 z1 hgw ⊢
    rw [← hg2] at y2 z1 z2 ⊢
    have hg12 : g1 < g2 := by omega
    have hg4 : g2 < w4.heap.size := by omega
    have Y1 := Lib.hid y3
    have Y2 := Lib.hid y2
    have B4 := Lib.hid hB4
    have HL : Hid (S.data.toList.length = 512) := by show _ = _; rw [list_size]; exact HS.out
    clear y1 y2 y3 b1 b2 z1 z2 hw3 hw4 hq1 hq2 hg1 hg2 hB4 B2 hcv he
    have hs1 : S.size ≤ 512 := by have := HS.out; omega
    have hs2 : 512 ≤ S.size := by have := HS.out; omega
    go_loopg [7] (512) (fun g iv wr => ∃ i : Nat, iv = .int .i64 i ∧ i ≤ 512 ∧ g + i = 512 ∧ Bytes wr g1 (Bk.za (Bk.upto i (mk m)) 0 S.data.toList) ∧ Bytes wr g2 (Bk.za (Bk.upto i fun j => !mk m j) 0 S.data.toList) ∧ Below w.heap.size w wr ∧ g2 < wr.heap.size)
    case atStart =>
      refine ⟨0, rfl, by omega, by omega, ?_, ?_, B4.out, hg4⟩
      · have e : Bk.upto 0 (mk m) = fun _ => false := by funext j; simp [Bk.upto]
        rw [e, Bk.za_none]; exact Y1.out
      · have e : Bk.upto 0 (fun j => !mk m j) = fun _ => false := by funext j; simp [Bk.upto]
        rw [e, Bk.za_none]; exact Y2.out
    case round =>
      obtain ⟨i, rfl, hi1, hg, hy1, hy2, hbw, hgr⟩ := hrel
      have Hg := Lib.hid hg
      clear hg B4 Y1 Y2
      by_cases hi : i < 512
      · have ln1 : i < (Bk.za (Bk.upto i (mk m)) 0 S.data.toList).length := by rw [Bk.za_len, HL.out]; exact hi
        have ln2 : i < (Bk.za (Bk.upto i fun j => !mk m j) 0 S.data.toList).length := by rw [Bk.za_len, HL.out]; exact hi
        obtain ⟨xu, cu⟩ : ∃ v, wr.cell? ⟨g1, i, none⟩ = some v := ⟨_, hy1.cell ln1⟩
        obtain ⟨xv, cv⟩ : ∃ v, wr.cell? ⟨g2, i, none⟩ = some v := ⟨_, hy2.cell ln2⟩
        have fu := hy1.frozen ln1
        have fv := hy2.frozen ln2
        have n1 := hy1.set_ i 0
        have n2 := hy2.set_ i 0
        have f1 := hy1.far (p := ⟨g2, i, none⟩) (by show g1 ≠ g2; omega) (.int .u8 ((0 : UInt8).toNat : Int))
        have f2 := hy2.far (p := ⟨g1, i, none⟩) (by show g2 ≠ g1; omega) (.int .u8 ((0 : UInt8).toNat : Int))
        have HN1 := Lib.hid n1
        have HN2 := Lib.hid n2
        have HF1 := Lib.hid f1
        have HF2 := Lib.hid f2
        have HW := Lib.hid hbw
        have hi3 : (i : Int) < 512 := by omega
        have hi4 : (i : Int) < S.size := by omega
        clear n1 n2 f1 f2 hy1 hy2
        clear ln1 ln2
        by_cases hl : i < m.length
        · have cm := (HW.out.cell (p := ⟨mb, moff + i, none⟩) hmb).trans (hmc i hl)
          have hl3 : (i : Int) < m.length := by omega
          by_cases hx : m[i] = true
          · have HK : Hid (mk m i = true) := by show _ = _; unfold mk; rw [List.getElem?_eq_getElem hl, hx]; rfl
            rw [hx] at cm
            have Hx := Lib.hid hx
            clear hx hmc
            go_wp2_with fail
            go_roundg (512 - (i + 1))
            case measure => have := Hg.out; omega
            case rel =>
              refine ⟨i + 1, by go_num, by omega, by omega, ?_, ?_, HW.out.setCell (by show _ ≤ g1; omega) _, by simpa using hgr⟩
              · rw [← Bk.za_hit _ _ i HK.out]; exact HN1.out
              · rw [← Bk.za_miss _ _ i (by show (!mk m i) = false; rw [HK.out]; rfl)]; exact HF2.out
          · have hx' : m[i] = false := by simpa using hx
            have HK : Hid (mk m i = false) := by show _ = _; unfold mk; rw [List.getElem?_eq_getElem hl, hx']; rfl
            rw [hx'] at cm
            clear hx hx' hmc
            go_wp2_with fail
            go_roundg (512 - (i + 1))
            case measure => have := Hg.out; omega
            case rel =>
              refine ⟨i + 1, by go_num, by omega, by omega, ?_, ?_, HW.out.setCell (by show _ ≤ g2; omega) _, by simpa using hgr⟩
              · rw [← Bk.za_miss _ _ i HK.out]; exact HF1.out
              · rw [← Bk.za_hit _ _ i (by show (!mk m i) = true; rw [HK.out]; rfl)]; exact HN2.out
        · have hl3 : (m.length : Int) ≤ i := by omega
          have hld : decide ((i : Int) < m.length) = false := by simp; omega
          have HK : Hid (mk m i = false) := by show _ = _; unfold mk; rw [List.getElem?_eq_none (by omega)]; rfl
          clear hmc
          go_wp2_with fail
          go_roundg (512 - (i + 1))
          case measure => have := Hg.out; omega
          case rel =>
            refine ⟨i + 1, by go_num, by omega, by omega, ?_, ?_, HW.out.setCell (by show _ ≤ g2; omega) _, by simpa using hgr⟩
            · rw [← Bk.za_miss _ _ i HK.out]; exact HF1.out
            · rw [← Bk.za_hit _ _ i (by show (!mk m i) = true; rw [HK.out]; rfl)]; exact HN2.out
      · have h512 : i = 512 := by omega
        have hi3 : (512 : Int) ≤ i := by omega
        subst h512
        obtain ⟨TA, hTA⟩ : ∃ TA : ByteArray, TA = ⟨(Bk.za (Bk.upto 512 (mk m)) 0 S.data.toList).toArray⟩ := ⟨_, rfl⟩
        obtain ⟨TB, hTB⟩ : ∃ TB : ByteArray, TB = ⟨(Bk.za (Bk.upto 512 fun j => !mk m j) 0 S.data.toList).toArray⟩ := ⟨_, rfl⟩
        have t1 := fun o => (hy1.alloc (by omega) o).text (P := Tryd.prog) (src := 26) (dst := 9) Tryd.underlying26 Tryd.underlying5 Tryd.underlying9 S.size q1 (by rw [Bk.za_len, list_size])
        have t2 := fun o => (hy2.alloc (by omega) o).text (P := Tryd.prog) (src := 26) (dst := 9) Tryd.underlying26 Tryd.underlying5 Tryd.underlying9 S.size q2 (by rw [Bk.za_len, list_size])
        rw [← hTA] at t1
        rw [← hTB] at t2
        have eA : TA.data.toList = Bk.za (Bk.upto 512 (mk m)) 0 S.data.toList := by rw [hTA]
        have eB : TB.data.toList = Bk.za (Bk.upto 512 fun j => !mk m j) 0 S.data.toList := by rw [hTB]
        have lA : TA.size = 512 := by rw [← list_size, eA, Bk.za_len, HL.out]
        have lB : TB.size = 512 := by rw [← list_size, eB, Bk.za_len, HL.out]
        have sS := fun sg w => sum_any S sg w hs1 hs2
        have sA := fun sg w => sum_any TA sg w (by omega) (by omega)
        have sB := fun sg w => sum_any TB sg w (by omega) (by omega)
        have law := fun sg => Bk.share_law sg (mk m) S.data.toList HL.out
        have bS := fun sg => Bk.sum_bd sg S.data.toList 0
        have bA := fun sg => Bk.sum_bd sg TA.data.toList 0
        have bB := fun sg => Bk.sum_bd sg TB.data.toList 0
        rw [← eA, ← eB] at law
        rw [HL.out] at bS
        rw [list_size, lA] at bA
        rw [list_size, lB] at bB
        have hx : ∀ sg, ∃ x y z : Int, (∀ w, Calls Tryd.prog 13 #[.string S, .bool sg] w fun e w' => e = .returned (.tuple #[.int .i64 x, .nilIface]) ∧ w' = w) ∧
            (∀ w, Calls Tryd.prog 13 #[.string TA, .bool sg] w fun e w' => e = .returned (.tuple #[.int .i64 y, .nilIface]) ∧ w' = w) ∧
            (∀ w, Calls Tryd.prog 13 #[.string TB, .bool sg] w fun e w' => e = .returned (.tuple #[.int .i64 z, .nilIface]) ∧ w' = w) ∧
            ((x + 256 != y + z) = false) ∧ (-200000 ≤ x ∧ x ≤ 200000) ∧ (-200000 ≤ y ∧ y ≤ 200000) ∧ (-200000 ≤ z ∧ z ≤ 200000) := fun sg => by
          refine ⟨_, _, _, sS sg, sA sg, sB sg, ?_, ?_, ?_, ?_⟩
          · have := law sg; simp; omega
          · have := bS sg; unfold Bk.sum; omega
          · have := bA sg; unfold Bk.sum; omega
          · have := bB sg; unfold Bk.sum; omega
        obtain ⟨x0, y0, z0, X0, Y0, Z0, d0, ⟨x1, x2⟩, ⟨y1, y2⟩, ⟨z1, z2⟩⟩ := hx false
        obtain ⟨xt, yt, zt, Xt, Yt, Zt, dt, ⟨xt1, xt2⟩, ⟨yt1, yt2⟩, ⟨zt1, zt2⟩⟩ := hx true
        have HX0 := Lib.hid X0
        have HY0 := Lib.hid Y0
        have HZ0 := Lib.hid Z0
        have HXt := Lib.hid Xt
        have HYt := Lib.hid Yt
        have HZt := Lib.hid Zt
        have HW := Lib.hid hbw
        clear hx X0 Y0 Z0 Xt Yt Zt law bS bA bB sS sA sB lA lB eA eB hTA hTB hy1 hy2 hbw hi
        go_wp2_with fail
        refine wp_loop_rounds 3 ?_
        rw [rounds_succ]
        go_wp2_with fail
        refine (HX0.out _).mono ?_
        rintro e w5 ⟨rfl, rfl⟩
        go_wp2_with fail
        refine (HY0.out _).mono ?_
        rintro e w5 ⟨rfl, rfl⟩
        go_wp2_with fail
        refine (HZ0.out _).mono ?_
        rintro e w5 ⟨rfl, rfl⟩
        go_wp2_with fail
        rw [rounds_succ]
        go_wp2_with fail
        refine (HXt.out _).mono ?_
        rintro e w5 ⟨rfl, rfl⟩
        go_wp2_with fail
        refine (HYt.out _).mono ?_
        rintro e w5 ⟨rfl, rfl⟩
        go_wp2_with fail
        refine (HZt.out _).mono ?_
        rintro e w5 ⟨rfl, rfl⟩
        go_wp2_with fail
        rw [rounds_succ]
        go_wp2_with fail
        go_ret
        exact ⟨rfl, HW.out.alloc HW.out.size _⟩

theorem blockParts_big (s : ByteArray) (A : Option Addr) (L cap : Nat) (w : World) (h : 600 < s.size ∨ 600 < L) :
    Calls Tryd.prog 5 #[.string s, .slice A L cap] w fun e w' => e = .returned (.bool true) ∧ Below w.heap.size w w' := by
  by_cases h1 : 600 < s.size
  · have h1' : (600 : Int) < s.size := by omega
    clear h h1
    go_enter Tryd.func5, Tryd.ntmps5
    go_wp2_with fail
    refine (blocked_any _).mono ?_
    rintro e w1 ⟨rfl, hb1⟩
    have B1 := Lib.hid hb1
    clear hb1
    go_wp2_with fail
    go_ret
    exact ⟨rfl, B1.out⟩
  · have h1' : ¬ (600 : Int) < s.size := by omega
    have h2' : (600 : Int) < L := by omega
    clear h h1
    go_enter Tryd.func5, Tryd.ntmps5
    go_wp2_with fail
    refine (blocked_any _).mono ?_
    rintro e w1 ⟨rfl, hb1⟩
    have B1 := Lib.hid hb1
    clear hb1
    go_wp2_with fail
    go_ret
    exact ⟨rfl, B1.out⟩

theorem bools_of {H : Type} {enc : TypeId × Value → H} {W : World} {v : Value} {d : DataW H} {ps : List MemPlace} {base : Nat} (hok : Value.okWide Tryd.prog W .any base 30 v)
    (h : DataW.Trod enc Tryd.prog W 0 (fun _ => true) true 30 v d ps) : ∃ m, Bools W v m := by
  obtain ⟨a0, len, cap, rfl⟩ := WideShapes.okWide_slice Tryd.underlying30 hok
  obtain ⟨fuel, hf⟩ := h
  rcases Deep.open_bools Tryd.underlying30 Tryd.underlying4 (by kernel_rfl) hf with ⟨hcs, _⟩ | ⟨a, len', cap', B, hcs, _, hl, _, _, hc⟩
  · obtain ⟨rfl, rfl, rfl⟩ : a0 = none ∧ len = 0 ∧ cap = 0 := by simpa [Value.cells] using hcs
    exact ⟨[], none, 0, rfl, fun j hj => absurd hj (by simp)⟩
  · obtain ⟨rfl, rfl, rfl⟩ : a0 = some a ∧ len = len' ∧ cap = cap' := by simpa [Value.cells] using hcs
    refine ⟨(List.range len).map B, some a, cap, by simp, fun j hj => ?_⟩
    have hj' : j < len := by simpa using hj
    obtain ⟨b, off, spot⟩ := a
    have hspot : spot = none := by simpa [Addr.add] using World.cell?_spot (hc 0 (by omega))
    subst hspot
    have hc2 := hc j (by omega)
    rw [WideShapes.add_plain] at hc2
    exact ⟨b, off, rfl, World.block_lt_of_cell? W ⟨b, off + j, none⟩ hc2, by rw [hc2]; simp⟩

theorem blockParts_walk (s : ByteArray) (_hs : s.size ≤ 140737488351232) {H : Type} {enc : TypeId × Value → H} {d : DataW H} {ps : List MemPlace} {base : Nat} (mv : Value) {w : World} (hok : Value.okWide Tryd.prog w .any base 30 mv)
    (h : DataW.Trod enc Tryd.prog w 0 (fun _ => true) true 30 mv d ps) :
    Calls Tryd.prog 5 #[.string s, mv] w fun e w' => e = .returned (.bool true) ∧ Below w.heap.size w w' := by
  obtain ⟨m, hm⟩ := bools_of hok h
  by_cases hb : s.size ≤ 600 ∧ m.length ≤ 600
  · exact blockParts_small s mv m w hm hb.1 hb.2
  · obtain ⟨A, cap, rfl, _⟩ := hm
    exact blockParts_big s A m.length cap w (by omega)

end Go.Proofs.YtighfpcnmgplcaaDoor
