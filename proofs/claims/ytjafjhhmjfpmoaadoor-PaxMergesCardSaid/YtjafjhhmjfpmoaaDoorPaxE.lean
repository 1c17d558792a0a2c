/-
  pax.Write of valid records.
-/
import Derived.Test.YtjafjhhmjfpmoaaDoorPaxD
namespace Go.Proofs.YtjafjhhmjfpmoaaDoor
open Go.RowKit

theorem texts_len (l : List Px.Rec) (h : ∀ r ∈ l, Px.right r = true) : (Px.texts l).length ≤ l.length * 206 := by
  induction l with
  | nil => simp [Px.texts]
  | cons r l ih =>
    have h1 := Px.text_len (h r (by simp))
    have h2 := Px.tot_bounds (h r (by simp))
    have h3 := ih (fun x hx => h x (by simp [hx]))
    have e : Px.texts (r :: l) = Px.text r ++ Px.texts l := rfl
    rw [e, List.length_append, List.length_cons]
    omega

set_option maxRecDepth 100000 in
set_option maxHeartbeats 2000000 in
theorem write_row (l : List Px.Rec) (b cap : Nat) (w : World) (hE : Env w) (hb : b < w.heap.size) (hrow : RowR w b 0 l) (hl : l.length ≤ 20) (hr : ∀ r ∈ l, Px.right r = true) :
    Calls Tryd.prog 10 #[.slice (some ⟨b, 0, none⟩) l.length cap] w fun e w' => e = .returned (.tuple #[.string (bs (Px.texts l)), .nilIface]) ∧ Below w.heap.size w w' := by
  have hli : (l.length : Int) ≤ 20 := by omega
  have HE := Lib.hid hE
  have HRW := Lib.hid hrow
  have HRR := Lib.hid hr
  clear hE hrow hr
  go_enter Tryd.func10, Tryd.ntmps10
  go_wp2_with fail
  go_loopg [4, 13] (l.length) (fun g ov iv wr => ∃ i : Nat, ov = .string (bs (Px.texts (l.take i))) ∧ iv = .int .i64 i ∧ i ≤ l.length ∧ g = l.length - i ∧ Below w.heap.size w wr)
  case atStart => exact ⟨0, rfl, rfl, by omega, by omega, Below.refl _ _⟩
  case round =>
    obtain ⟨i, rfl, rfl, hi, hg, hbw⟩ := hrel
    have HW := Lib.hid hbw
    have HG := Lib.hid hg
    clear hbw hg
    by_cases hil : i < l.length
    · have hii : (i : Int) < l.length := by omega
      have hrr := HRR.out l[i] (List.getElem_mem hil)
      obtain ⟨k0, k1⟩ := HRW.out i hil
      have hsu : Px.texts (l.take (i + 1)) = Px.texts (l.take i) ++ Px.text l[i] := by
        rw [List.take_succ_eq_append_getElem hil, Px.texts_append]; simp [Px.texts]
      have ht1 := texts_len (l.take i) (fun r hr => HRR.out r (List.mem_of_mem_take hr))
      have ht2 := Px.text_len hrr
      have ht3 := Px.tot_bounds hrr
      have hti : (l.take i).length ≤ 20 := by rw [List.length_take]; omega
      obtain ⟨r, hrd⟩ : ∃ r, r = l[i] := ⟨_, rfl⟩
      rw [← hrd] at hrr k0 k1 hsu ht2 ht3
      have d0 : wr.cell? ⟨b, i * 2, none⟩ = some (.string (bs r.1)) := by
        have := (HW.out.cell (p := ⟨b, 0 + i * 2, none⟩) hb).trans k0
        rwa [Nat.zero_add] at this
      have d1 : wr.cell? ⟨b, i * 2 + 1, none⟩ = some (.string (bs r.2)) := by
        have := (HW.out.cell (p := ⟨b, 0 + i * 2 + 1, none⟩) hb).trans k1
        rwa [Nat.zero_add] at this
      have hu := fun w => run_string_add_sum (P := Tryd.prog) w (bs (Px.texts (l.take i))) (bs (Px.text r)) (by rw [bs_size, bs_size]; omega)
      rw [cat_bs, ← hsu] at hu
      have hb1 := Px.right_bounds hrr
      have rg := fun w' => right_any (bs r.1) (bs r.2) (by rw [bs_size]; omega) (by rw [bs_size]; omega) w'
      have tx := fun w' (h : Below w.heap.size w w') => text_any (bs r.1) (bs r.2) (by rw [bs_list, bs_list]; exact hrr) w' (HE.out.below h)
      simp only [bs_list] at rg tx
      rw [hrr] at rg
      unfold prv at rg tx
      have RG := Lib.hid rg
      have TX := Lib.hid tx
      clear rg tx k0 k1 hrr hb1 ht1 ht2 ht3 hti hsu hrd
      go_wp2_with fail
      have z := Blk.new wr 32 #[.string (bs r.1), .string (bs r.2)]
      have lz : wr.heap.size < (wr.alloc (.cells #[.string (bs r.1), .string (bs r.2)] 32)).heap.size := by simp
      have B1 := Lib.hid (HW.out.alloc HW.out.size (.cells #[.string (bs r.1), .string (bs r.2)] 32))
      refine (RG.out _).mono ?_
      rintro e w2 ⟨rfl, h2⟩
      have z2 := z.below h2 lz
      have lz2 := Nat.lt_of_lt_of_le lz h2.size
      have c0 := z2.cell 0
      have c1 := z2.cell 1
      have B2 := Lib.hid (thenB B1.out h2)
      clear h2 z z2
      go_wp2_with fail
      go_outline
      refine (TX.out _ B2.out).mono ?_
      rintro e w3 ⟨rfl, h3⟩
      have B3 := Lib.hid (thenB B2.out h3)
      clear h3
      go_wp2_with fail
      go_outline
      go_roundg (l.length - (i + 1))
      case measure => have := HG.out; omega
      case rel => exact ⟨i + 1, rfl, by go_num, by omega, by omega, B3.out⟩
    · have hii : (l.length : Int) ≤ i := by omega
      have hta : l.take i = l := List.take_of_length_le (by omega)
      rw [hta]
      go_wp2_with fail
      go_ret2
      exact ⟨rfl, HW.out⟩

end Go.Proofs.YtjafjhhmjfpmoaaDoor
