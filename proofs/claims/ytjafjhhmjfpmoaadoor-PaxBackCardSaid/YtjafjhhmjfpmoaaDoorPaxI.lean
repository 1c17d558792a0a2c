/-
  The reference's decimal.
-/
import Derived.Test.YtjafjhhmjfpmoaaDoorPaxH
import Derived.Lib.ConvBytes
import Derived.Lib.ItoaLen
namespace Go.Proofs.YtjafjhhmjfpmoaaDoor
open Go.RowKit

theorem convert_row {P : Program} (w : World) (src dst e t : TypeId) (g cap n : Nat) (l : List UInt8) (cs : Array Value) (hs : P.underlying src = some (.slice e)) (he : P.underlying e = some (.int .u8)) (hd : P.underlying dst = some .string)
    (hl : l.length = n) (hc : ∀ (j : Nat) (h : j < l.length), cs[j]? = some (.int .u8 (l[j].toNat : Int))) (hb : Blk w g t cs) :
    (convert src dst (.slice (some ⟨g, 0, none⟩) n cap)).run P w = .ok (.string ⟨l.toArray⟩) w := by
  subst hl
  refine run_convert_bytes_back w src dst e _ cap l hs he hd fun j hj => ?_
  have hplain : (⟨g, 0, none⟩ : Addr).add j = ⟨g, j, none⟩ := by unfold Addr.add; split <;> simp_all
  rw [hplain, hb.cell j, hc j hj]
theorem convert_one (d : UInt8) (w : World) : (convert 63 9 (.slice (some ⟨w.heap.size, 0, none⟩) 1 1)).run Tryd.prog (w.alloc (.cells #[.int .u8 (d.toNat : Int)] 5)) = .ok (.string ⟨#[d]⟩) (w.alloc (.cells #[.int .u8 (d.toNat : Int)] 5)) :=
  convert_row (P := Tryd.prog) _ 63 9 5 5 w.heap.size 1 1 [d] #[.int .u8 (d.toNat : Int)] Tryd.underlying63 Tryd.underlying5 Tryd.underlying9 rfl (fun j hj => by
    have h0 : j = 0 := by simp at hj; omega
    subst h0; rfl) (Blk.new w _ _)

set_option maxRecDepth 100000 in
set_option maxHeartbeats 2000000 in
theorem decimal_any (n : Nat) (h1 : 1 ≤ n) (h2 : n ≤ 1000) (w : World) :
    Calls Tryd.prog 17 #[.int .i64 n] w fun e w' => e = .returned (.string (bs (Lib.decDigits n))) ∧ Below w.heap.size w w' := by
  have hni : (n : Int) ≤ 1000 := by omega
  have hd0 : (Lib.decDigits n).length ≤ 20 := by rw [Lib.decDigits_length]; exact Lib.nDigits_le20 n (by omega)
  obtain ⟨D, hD⟩ : ∃ D, D = Lib.decDigits n := ⟨_, rfl⟩
  have hD1 := hD
  rw [← hD] at hd0 ⊢
  have hne : D ≠ [] := by rw [hD]; exact Px.decDigits_ne n
  go_enter Tryd.func17, Tryd.ntmps17
  go_wp2_with fail
  go_loopg [0, 3] (n) (fun g nv sv wr => ∃ (m : Nat) (suf : List UInt8), nv = .int .i64 m ∧ sv = .string (bs suf) ∧ g = m ∧ m ≤ 1000 ∧ Below w.heap.size w wr ∧ ((m = 0 ∧ suf = D) ∨ (0 < m ∧ D = Lib.decDigits m ++ suf)))
  case atStart => exact ⟨n, [], rfl, rfl, rfl, h2, Below.refl _ _, .inr ⟨by omega, by rw [List.append_nil]; exact hD1⟩⟩
  case round =>
    obtain ⟨m, suf, rfl, rfl, hgm, hm, hbw, hw⟩ := hrel
    have HGM := Lib.hid hgm
    clear hgm
    have HW := Lib.hid hbw
    clear hbw
    rcases hw with ⟨rfl, rfl⟩ | ⟨hm0, hDm⟩
    · have he : (bs suf).toList.isEmpty = false := by
        rw [Lib.toList_data, bs_list]
        cases suf with
        | nil => exact absurd rfl hne
        | cons => rfl
      clear hD hD1 hne
      go_wp2_with fail
      go_ret
      exact ⟨rfl, HW.out⟩
    · have hmi : (m : Int) ≤ 1000 := by omega
      have hp : (0 : Int) < m := by omega
      have hsl : suf.length ≤ 20 := by have := congrArg List.length hDm; rw [List.length_append] at this; omega
      obtain ⟨d, hd⟩ : ∃ d : UInt8, d = UInt8.ofNat (48 + m % 10) := ⟨_, rfl⟩
      have hdn : (48 : Int) + (m : Int) % 10 = (d.toNat : Int) := by
        have : d.toNat = 48 + m % 10 := by rw [hd]; simp; omega
        rw [this]; omega
      have hcv := fun w => convert_one d w
      have e1 : (bs [d]) = (⟨#[d]⟩ : ByteArray) := rfl
      have hu := fun w => run_string_add_sum (P := Tryd.prog) w ⟨#[d]⟩ (bs suf) (by rw [bs_size]; show 1 + _ ≤ _; omega)
      rw [← e1, cat_bs] at hu
      have hnext : (m / 10 = 0 ∧ d :: suf = D) ∨ (0 < m / 10 ∧ D = Lib.decDigits (m / 10) ++ d :: suf) := by
        rw [Lib.decDigits] at hDm
        by_cases h10 : m < 10
        · left
          rw [dif_pos h10] at hDm
          have : m % 10 = m := Nat.mod_eq_of_lt h10
          refine ⟨by omega, ?_⟩
          rw [hDm, hd, this]; rfl
        · right
          rw [dif_neg h10] at hDm
          refine ⟨by omega, ?_⟩
          rw [hDm, hd]; simp
      obtain ⟨q, hqd⟩ : ∃ q, q = m / 10 := ⟨_, rfl⟩
      have hq : ((m : Int)).tdiv 10 = (q : Int) := by rw [hqd]; rfl
      have hqi : (q : Int) ≤ 100 := by omega
      have hqm : q < m := by omega
      rw [← hqd] at hnext
      have HN := Lib.hid hnext
      have HD2 := Lib.hid hdn
      rw [e1] at hu
      clear hnext hDm hD hD1 hne hd e1 hqd
      go_wp2_with fail
      go_outline
      go_roundg q
      case measure => have := HGM.out; omega
      case rel => exact ⟨q, d :: suf, by first | rfl | go_num, rfl, rfl, by omega, HW.out.alloc HW.out.size _, HN.out⟩

end Go.Proofs.YtjafjhhmjfpmoaaDoor
