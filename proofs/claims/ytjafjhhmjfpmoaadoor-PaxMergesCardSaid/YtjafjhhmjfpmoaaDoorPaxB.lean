/-
  pax.text.
-/
import Derived.Test.YtjafjhhmjfpmoaaDoorPaxA
import Derived.Deep.RegionHeld3
namespace Go.Proofs.YtjafjhhmjfpmoaaDoor
open Go.RowKit

theorem text_bs (r : Px.Rec) : bs (Px.text r) = bs (Lib.decDigits (Px.tot r)) ++ (⟨#[32]⟩ : ByteArray) ++ bs r.1 ++ (⟨#[61]⟩ : ByteArray) ++ bs r.2 ++ (⟨#[10]⟩ : ByteArray) := by
  apply ba_ext
  simp [Px.text, bs, cat_list]

theorem below_drew {a w : World} (h : Below a.heap.size a w) : Below a.heap.size a w.drew := h.drew
theorem below_alloc {a w : World} (h : Below a.heap.size a w) (o : Obj) : Below a.heap.size a (w.alloc o) := h.alloc h.size o
theorem keep_cell {w w' : World} {p : Addr} {v : Value} (T : Below w.heap.size w w') (h : w.cell? p = some v) : w'.cell? p = some v := (T.cell (World.block_lt_of_cell? w p h)).trans h
theorem keepP {w w' : World} {p0 p1 : Addr} {v0 v1 : Value} (h0 : w.cell? p0 = some v0) (h1 : w.cell? p1 = some v1) (hb : Below w.heap.size w w') :
    w'.cell? p0 = some v0 ∧ w'.cell? p1 = some v1 ∧ Below w.heap.size w w' := ⟨keep_cell hb h0, keep_cell hb h1, hb⟩

set_option maxRecDepth 100000 in
set_option maxHeartbeats 2000000 in
theorem text_any (k v : ByteArray) (hr : Px.right (k.data.toList, v.data.toList) = true) (w : World) (hE : Env w) :
    Calls Tryd.prog 30 #[prv k v] w fun e w' => e = .returned (.string (bs (Px.text (k.data.toList, v.data.toList)))) ∧ Below w.heap.size w w' := by
  obtain ⟨h1, h2, _, _⟩ := Px.right_bounds hr
  rw [list_size, list_size] at h2
  rw [list_size] at h1
  obtain ⟨b, hb⟩ : ∃ b, b = k.size + v.size + 3 := ⟨_, rfl⟩
  have hbI : (k.size : Int) + v.size + 3 = b := by omega
  have hbase : Px.base (k.data.toList, v.data.toList) = b := by unfold Px.base; rw [list_size, list_size, hb]
  have hd := Px.dig_len b (by omega) (by omega)
  have hls := fun d h1 h2 => Px.dig_less b d (by omega) (by omega) h1 h2
  have htot : Px.tot (k.data.toList, v.data.toList) = b + Px.dig b := by unfold Px.tot; rw [hbase]
  have it := fun (n : Nat) (w' : World) (hn : n ≤ 1000) (h : Below w.heap.size w w') => itoa_any n (by omega) w' (hE.below h)
  have hT := text_bs (k.data.toList, v.data.toList)
  rw [htot, bs_of, bs_of] at hT
  obtain ⟨T, hT2⟩ : ∃ T, T = bs (Px.text (k.data.toList, v.data.toList)) := ⟨_, rfl⟩
  rw [← hT2] at hT ⊢
  obtain ⟨D, hD⟩ : ∃ D, D = Px.dig b := ⟨_, rfl⟩
  rw [← hD] at hd hls hT
  have hD3 : D = 1 ∨ D = 2 ∨ D = 3 := by rw [hD]; unfold Px.dig; split <;> (try split) <;> simp
  have hsz : ∀ n, (bs (Lib.decDigits n)).size = Lib.nDigits n := fun n => by rw [bs_size, Lib.decDigits_length]
  have IT := Lib.hid it
  have HT := Lib.hid hT
  have HSZ := Lib.hid hsz
  have HD := Lib.hid hd
  have HLS := Lib.hid hls
  clear it hT hsz hd hls hT2 htot hbase hE
  unfold prv
  have HB3 : (b : Int) ≤ 203 := by omega
  have k2 : (k.size : Int) + v.size ≤ 200 := by omega
  have HD3 := Lib.hid hD3
  have HHD := Lib.hid hD
  have HBB := Lib.hid hb
  clear hD3 hD hb h1 h2 hr
  go_enter Tryd.func30, Tryd.ntmps30
  go_wp2_with fail
  go_loopg [4] D (fun g dv wx => ∃ d : Nat, dv = .int .i64 d ∧ 1 ≤ d ∧ d ≤ D ∧ g + d = D + 1 ∧ Blk wx w.heap.size 32 #[.string k, .string v] ∧ w.heap.size < wx.heap.size ∧ Below w.heap.size w wx)
  case atStart => exact ⟨1, rfl, by omega, by have := HD3.out; omega, by have := HD3.out; omega, Blk.new _ _ _, by simp, (Below.refl _ _).alloc (Nat.le_refl _) _⟩
  case round =>
    obtain ⟨d, rfl, hd1, hd2, hg, hy, hlt, hbw⟩ := hrel
    have HY := Lib.hid hy
    have HW := Lib.hid hbw
    have HG := Lib.hid hg
    clear hy hbw hg
    have hi := IT.out (b + d) _ (by have := HD3.out; omega) HW.out
    rw [Int.natCast_add] at hi
    have HI := Lib.hid hi
    have hdb : (d : Int) ≤ 3 := by have := HD3.out; omega
    clear hi
    by_cases hdd : d = D
    · have e1 : ((bs (Lib.decDigits (b + d))).size : Int) = d := by rw [HSZ.out, hdd, HD.out]
      subst hdd
      go_wp2_with fail
      refine HI.out.mono ?_
      rintro e w2 ⟨rfl, h2⟩
      have z2 := HY.out.below h2 hlt
      have c0 := z2.cell 0
      have c1 := z2.cell 1
      have hlt2 := Nat.lt_of_lt_of_le hlt h2.size
      have B2 := Lib.hid (thenB HW.out h2)
      have Z2 := Lib.hid z2
      have I2 := Lib.hid (fun w' (h : Below w2.heap.size w2 w') => by have := IT.out (b + d) w' (by have := HD3.out; omega) (thenB B2.out h); rw [Int.natCast_add] at this; exact this)
      have ew : IntKind.i64.wrap ((b : Int) + d) = (b : Int) + d := IntWalk.i64_in _ (by omega)
      have n1 : (bs (Lib.decDigits (b + d))).size ≤ 3 := by rw [HSZ.out, HD.out]; have := HD3.out; omega
      have s1 : (⟨#[32]⟩ : ByteArray).size = 1 := rfl
      have s2 : (⟨#[61]⟩ : ByteArray).size = 1 := rfl
      have s3 : (⟨#[10]⟩ : ByteArray).size = 1 := rfl
      have u1 := fun w => run_string_add_sum (P := Tryd.prog) w (bs (Lib.decDigits (b + d))) ⟨#[32]⟩ (by rw [s1]; omega)
      have u2 := fun w => run_string_add_sum (P := Tryd.prog) w (bs (Lib.decDigits (b + d)) ++ ⟨#[32]⟩) k (by rw [ByteArray.size_append, s1]; omega)
      have u3 := fun w => run_string_add_sum (P := Tryd.prog) w (bs (Lib.decDigits (b + d)) ++ ⟨#[32]⟩ ++ k) ⟨#[61]⟩ (by simp only [ByteArray.size_append, s1, s2]; omega)
      have u4 := fun w => run_string_add_sum (P := Tryd.prog) w (bs (Lib.decDigits (b + d)) ++ ⟨#[32]⟩ ++ k ++ ⟨#[61]⟩) v (by simp only [ByteArray.size_append, s1, s2]; omega)
      have u5 := fun w => run_string_add_sum (P := Tryd.prog) w (bs (Lib.decDigits (b + d)) ++ ⟨#[32]⟩ ++ k ++ ⟨#[61]⟩ ++ v) ⟨#[10]⟩ (by simp only [ByteArray.size_append, s1, s2, s3]; omega)
      have ht := HT.out
      rw [← ht] at u5
      clear h2 z2 n1 s1 s2 s3 ht HI
      go_wp2_with fail
      go_region_held3 (fun w' => w'.cell? ⟨w.heap.size, 0, none⟩ = some (.string k) ∧ w'.cell? ⟨w.heap.size, 1, none⟩ = some (.string v) ∧ Below w2.heap.size w2 w')
        ((go_split_ands; refine keepP c0 c1 ?_; first
          | with_reducible assumption
          | (repeat' (first | with_reducible assumption | with_reducible refine below_drew ?_ | with_reducible exact Below.refl _ _))))
        (first
        | (go_at_call 45; go_split_ands; refine (I2.out _ (by with_reducible assumption)).mono ?_; rintro e wt ⟨rfl, TT⟩; have TB : Below w2.heap.size w2 wt := (by with_reducible exact thenB (by assumption) TT)))
      all_goals
        go_wp2_with fail
        go_ret
        exact ⟨rfl, thenB B2.out TB⟩
    · have e1 : (((bs (Lib.decDigits (b + d))).size : Int) == d) = false := by
        rw [HSZ.out, beq_eq_false_iff_ne]
        have := HLS.out d hd1 (by omega)
        omega
      go_wp2_with fail
      refine HI.out.mono ?_
      rintro e w2 ⟨rfl, h2⟩
      have Z2 := Lib.hid (HY.out.below h2 hlt)
      have B2 := Lib.hid (thenB HW.out h2)
      have hlt2 := Nat.lt_of_lt_of_le hlt h2.size
      clear h2
      go_wp2_with fail
      go_roundg (D - d)
      case measure => have := HG.out; omega
      case rel => exact ⟨d + 1, by go_num, by omega, by omega, by omega, Z2.out, hlt2, B2.out⟩

end Go.Proofs.YtjafjhhmjfpmoaaDoor
