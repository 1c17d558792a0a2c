/-
  volume.Split.
-/
import Derived.Test.YtdhnjbiigpiecaaDoorVolA
import Derived.Test.YtdhnjbiigpiecaaDoorStrRow
import Derived.Deep.LoopGhost
namespace Go.Proofs.YtdhnjbiigpiecaaDoor
open Go.RowKit

/-- The volumes of a text. -/
def vols (s : List UInt8) (room : Nat) : List (List UInt8) := (List.range (vmany s.length room)).map fun i => vol i (vmany s.length room) (vpart s room i)

theorem vols_len (s : List UInt8) (room : Nat) : (vols s room).length = vmany s.length room := by simp [vols]
theorem vols_snoc (s : List UInt8) (room i : Nat) (h : i < vmany s.length room) : (vols s room).take (i + 1) = (vols s room).take i ++ [vol i (vmany s.length room) (vpart s room i)] := by
  rw [List.take_succ_eq_append_getElem (by rw [vols_len]; exact h)]
  simp [vols]
theorem vmany_int (n R : Nat) (h : 0 < R) : max (1 : Int) (((n : Int) + R - 1) / R) = (vmany n R : Nat) := by
  unfold vmany
  rw [show ((n : Int) + R - 1) = ((n + R - 1 : Nat) : Int) by omega, ← Int.natCast_ediv]
  omega
theorem part_ext (s : ByteArray) (a R m : Nat) (hm : m = min (a + R) s.size) : s.extract a m = bs ((s.data.toList.drop a).take R) := by
  refine ba_ext ?_
  rw [bs_list]
  have := ext_mid s a (m - a)
  by_cases h : a ≤ m
  · rw [show a + (m - a) = m by omega] at this
    rw [this]
    have hl : (s.data.toList.drop a).length = s.size - a := by rw [List.length_drop, list_size]
    by_cases h2 : a + R ≤ s.size
    · rw [show m - a = R by omega]
    · rw [List.take_of_length_le (by omega), List.take_of_length_le (by omega)]
  · have hl : (s.data.toList.drop a).length = s.size - a := by rw [List.length_drop, list_size]
    have h0 : s.data.toList.drop a = [] := List.eq_nil_of_length_eq_zero (by omega)
    rw [h0, List.take_nil]
    apply List.eq_nil_of_length_eq_zero
    rw [list_size, ByteArray.size_extract]
    omega

set_option maxRecDepth 100000 in
set_option maxHeartbeats 4000000 in
theorem split_any (s : ByteArray) (hs : s.size ≤ 8000) (b : Nat) (hb : 1 ≤ b) (hb7 : b ≤ 6) (w : World) :
    Calls Tryd.prog 6 #[.string s, .int .i64 ((b : Int) + 1)] w fun e w' => ∃ v, e = .returned (.tuple #[v, .nilIface]) ∧ HasT w' w.heap.size v (vols s.data.toList (b * 512)) ∧ Below w.heap.size w w' := by
  have hsi : (s.size : Int) ≤ 8000 := by omega
  have hbi : (1 : Int) ≤ b := by omega
  have hbi7 : (b : Int) ≤ 6 := by omega
  obtain ⟨R, hR⟩ : ∃ R, R = b * 512 := ⟨_, rfl⟩
  rw [← hR]
  have hRi : (512 : Int) ≤ R := by omega
  have hRi2 : (R : Int) ≤ 3072 := by omega
  have hRb : min (b : Int) 60000 * 512 = R := by omega
  obtain ⟨i0, i1, i2, i3, i4⟩ := info_parts infoTx
  have hN := vmany_int s.size R (by omega)
  have hN1 : 1 ≤ vmany s.size R := by unfold vmany; omega
  have hN2 := vmany_le s.size R (by omega) hs
  have HLT := Lib.hid (fun i => vmany_lt s.size R i (by omega))
  have HSN := Lib.hid (fun i => vols_snoc s.data.toList R i)
  have HVL := Lib.hid (vols_len s.data.toList R)
  rw [list_size] at HSN HVL
  obtain ⟨N, hNe⟩ : ∃ N, N = vmany s.size R := ⟨_, rfl⟩
  rw [← hNe] at hN hN1 hN2 HLT HSN HVL
  obtain ⟨VL, hVL⟩ : ∃ VL, VL = vols s.data.toList R := ⟨_, rfl⟩
  rw [← hVL] at HSN HVL ⊢
  clear hNe hVL
  go_enter Tryd.func6, Tryd.ntmps6
  repeat' ((fail_if_success (with_reducible refine halt_at 3 ?_)); first | go_values | go_skip | go_guarded | go_step | go_upon | go_back | (simp only [Int.not_lt, Int.not_le] at *; go_simp) | (go_values <;> (try go_simp)) | (go_ite <;> go_prune <;> (try go_simp)) | (split <;> (first | (rename_i hx; exact (hx _ rfl).elim) | go_prune)))
  go_cut [0, 1, 6] (fun s0 _ s6 wx => s0 = .string s ∧ s6 = .int .i64 R ∧ wx = w ∧ True)
  case first =>
    go_wp2_with fail
    go_meet
    exact ⟨rfl, by simp; omega, rfl, trivial⟩
  case rest =>
    obtain ⟨rfl, rfl, hw, _⟩ := hcut
    subst wc
    clear hbi hbi7 hRb hb hb7 hR
    have hNi : (1 : Int) ≤ N := by omega
    have hNi2 : (N : Int) ≤ 16 := by omega
    have hq1 : ((s.size : Int) + R - 1) / R ≤ N := by omega
    have hq0 : 0 ≤ ((s.size : Int) + R - 1) / R := Int.ediv_nonneg (by omega) (by omega)
    repeat' ((fail_if_success (with_reducible refine halt_at 4 ?_)); first | go_values | go_skip | go_guarded | go_step | go_upon | go_back | (simp only [Int.not_lt, Int.not_le] at *; go_simp) | (go_values <;> (try go_simp)) | (go_ite <;> go_prune <;> (try go_simp)) | (split <;> (first | (rename_i hx; exact (hx _ rfl).elim) | go_prune)))
    go_cut [0, 6, 7] (fun s0 s6 s7 wx => s0 = .string s ∧ s6 = .int .i64 R ∧ s7 = .int .i64 N ∧ wx = w ∧ True)
    case first =>
      go_wp2_with fail
      go_meet
      exact ⟨rfl, rfl, rfl, rfl, trivial⟩
    case rest =>
      obtain ⟨rfl, rfl, rfl, hw, _⟩ := hcut
      subst wc
      clear hN hq1 hq0
      go_wp2_with fail
      go_loopg [8, 9, 10, 11, 12, 37] N (fun gg s8 _ _ _ _ s37 wr => ∃ (i : Nat) (v : Value), s37 = .int .i64 i ∧ s8 = v ∧ i ≤ N ∧ gg = N - i ∧ HasT wr w.heap.size v (VL.take i) ∧ Below w.heap.size w wr)
      case atStart => exact ⟨0, _, rfl, rfl, by omega, by omega, World.ownsRow_nil _ _ _ _, Below.refl _ _⟩
      case round =>
        obtain ⟨i, v, rfl, rfl, hi, hgg, hh, hbw⟩ := hrel
        have HG := Lib.hid hgg
        have HH := Lib.hid hh
        have HW := Lib.hid hbw
        clear hgg hh hbw
        by_cases hil : i < N
        · have hii : (i : Int) < N := by omega
          have hlt := HLT.out i hil
          have hsn := HSN.out i hil
          obtain ⟨a, ha⟩ : ∃ a, a = i * R := ⟨_, rfl⟩
          obtain ⟨m, hm⟩ : ∃ m, m = min (a + R) s.size := ⟨_, rfl⟩
          have e1 : (i : Int) * R = a := by rw [ha]; simp
          have e2 : ((i : Int) + 1) * R = (a : Int) + R := by rw [Int.add_mul, e1, Int.one_mul]
          have e3 : min ((a : Int) + R) s.size = m := by omega
          have e4 : (0 : Int) ≤ a := by omega
          have e5 : (a : Int) ≤ m := by omega
          have e6 : (m : Int) ≤ s.size := by omega
          have e7 : (a : Int) + R ≤ 100000 := by omega
          have hp : s.extract a m = bs (vpart s.data.toList R i) := by rw [part_ext s a R m hm, ha]; rfl
          have hpl : (vpart s.data.toList R i).length ≤ 3072 := by rw [vpart_len]; omega
          obtain ⟨p, hpe⟩ : ∃ p, p = vpart s.data.toList R i := ⟨_, rfl⟩
          rw [← hpe] at hp hpl hsn
          have HS := Lib.hid hsn
          clear hlt hsn hm ha hpe
          obtain ⟨P, hPe⟩ : ∃ P, P = bs p := ⟨_, rfl⟩
          have hPl : P.data.toList = p := by rw [hPe]; rfl
          have hPs : P.size = p.length := by rw [hPe]; rfl
          rw [← hPe] at hp
          obtain ⟨H, hHe⟩ : ∃ H, H = bs (vhdr i N P.size) := ⟨_, rfl⟩
          have hHs : H.size = 512 := by rw [hHe, bs_size, vhdr_len (by omega) (by omega) (by omega)]
          have hV : H ++ fillB P = bs (vol i N p) := by
            refine ba_ext ?_
            rw [cat_list, fillB_list, hPl, hHe, bs_list, bs_list, hPs]; rfl
          have HWc0 : ∀ w : World, Calls Tryd.prog 13 #[.int .i64 3, .agg (vcells i N P.size)] w fun e w' => e = .returned (.tuple #[.string H, .nilIface]) ∧ Below w.heap.size w w' := fun w => by
            have := hwrite_ok 3 (vraw i N P.size) (vhdr i N P.size) (by decide) (by decide) (vraw_wf (by omega) (by omega) (by omega)) (vhdr_ok (by omega) (by omega) (by omega)) w
            rw [hHe]; exact this
          have FLc0 := fun w => fill_any P (by omega) w
          have hFs : (fillB P).size ≤ 4000 := by rw [fillB_size]; have := Bk.pad_lt P.size; omega
          have su0 := fun w => run_string_add_sum (P := Tryd.prog) w H (fillB P) (by omega)
          obtain ⟨Fb, hFb⟩ : ∃ Fb, Fb = fillB P := ⟨_, rfl⟩
          rw [← hFb] at FLc0 su0 hV
          rw [hV] at su0
          have HWc := Lib.hid HWc0
          have FLc := Lib.hid FLc0
          have hle : (VL.take i).length = i := by rw [List.length_take, HVL.out]; omega
          obtain ⟨L, hL⟩ : ∃ L, L = VL.take i := ⟨_, rfl⟩
          rw [← hL] at HH HS hle
          obtain ⟨X, cap, rfl, hcap⟩ := HH.out.form
          have hlb : L.length ≤ 16 := by omega
          clear hle
          have hPb : (P.size : Int) ≤ 3072 := by omega
          clear HWc0 FLc0 hHe hPl hPe hV hFb hFs hHs hPs hpl hL
          unfold vcells at HWc
          go_wp2_with fail
          refine (HWc.out _).mono ?_
          rintro e w1 ⟨rfl, h1⟩
          have H1 := Lib.hid (HH.out.later h1)
          have B1 := Lib.hid (thenB HW.out h1)
          clear h1
          go_wp2_with fail
          refine (FLc.out _).mono ?_
          rintro e w2 ⟨rfl, h2⟩
          have H2 := Lib.hid (H1.out.later h2)
          have B2 := Lib.hid (thenB B1.out h2)
          clear h2
          have hb2 := B2.out.size
          go_wp2_with (first
            | (at_builtin; go_loud (refine wpList_append_own _ rfl (.tmp 64) (.tmp 69) 23 rfl w.heap.size 9 i0 _ 1 16 Tryd.underlying23 i1 i2 i3 i4 rfl (by decide) (.slice X L.length cap) L.length (txCells L) rfl ((show w2.ownsRow w.heap.size 9 1 (.slice X L.length cap) L.length (txCells L) from H2.out).alloc _) ⟨w2.heap.size, 0, none⟩ 1 1 [.string (bs (vol i N p))] rfl rfl (new_text rfl _ _) (by intro u hu; simp at hu; subst hu; rfl) (by unfold maxLen; omega) (by omega) (by simp; omega) ?_); intro v' w7 hown' hgrow _))
          have H7 := Lib.hid (HasT.pushed hown')
          have B7 := Lib.hid ((B2.out.alloc hb2 (.cells #[.string (bs (vol i N p))] 9)).grown hgrow (by simp; omega) (fun q hq => (World.ownsRow.lt (show w2.ownsRow w.heap.size 9 1 (.slice X L.length cap) L.length (txCells L) from H2.out) q hq).1))
          clear hown' hgrow
          go_roundg (N - (i + 1))
          case measure => have := HG.out; omega
          case rel => exact ⟨i + 1, _, by go_num, rfl, by omega, by omega, by rw [HS.out]; exact H7.out, B7.out⟩
        · have hii : (N : Int) ≤ i := by omega
          obtain rfl : i = N := by omega
          have ht : VL.take i = VL := List.take_of_length_le (by rw [HVL.out]; omega)
          rw [ht] at HH
          go_wp2_with fail
          go_ret2
          exact ⟨_, rfl, HH.out, HW.out⟩

end Go.Proofs.YtdhnjbiigpiecaaDoor
