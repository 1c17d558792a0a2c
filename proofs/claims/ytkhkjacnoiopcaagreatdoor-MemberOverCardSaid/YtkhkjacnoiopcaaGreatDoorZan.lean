/-
  stamp.isDigits and under; strconv.Atoi of digits; strings.CutPrefix and Cut.
-/
import Derived.Test.YtkhkjacnoiopcaaGreatDoorZam
import Derived.Shelf.Strings.SlTrimAscii
import Derived.Test.YtkhkjacnoiopcaaGreatDoorZak
set_option linter.unusedVariables false
set_option linter.unusedSimpArgs false

set_option linter.unusedVariables false
set_option linter.unusedSimpArgs false
namespace Stp
open Go.Lib
def ten : Bs := [48, 49, 50, 51, 52, 53, 54, 55, 56, 57]
theorem ten_isD (b : UInt8) : ten.contains b = isD b := by
  unfold isD ten
  rw [Bool.eq_iff_iff, List.contains_iff_mem, decide_eq_true_iff]
  constructor
  · intro h
    simp only [List.mem_cons, List.not_mem_nil, or_false] at h
    rcases h with rfl | rfl | rfl | rfl | rfl | rfl | rfl | rfl | rfl | rfl <;> decide
  · rintro ⟨h1, h2⟩
    have hb : b = UInt8.ofNat b.toNat := by simp
    have h3 : b.toNat = 48 ∨ b.toNat = 49 ∨ b.toNat = 50 ∨ b.toNat = 51 ∨ b.toNat = 52 ∨ b.toNat = 53 ∨ b.toNat = 54 ∨ b.toNat = 55 ∨ b.toNat = 56 ∨ b.toNat = 57 := by omega
    rcases h3 with h | h | h | h | h | h | h | h | h | h <;> (rw [hb, h]; decide)
theorem drop_nil {p : UInt8 → Bool} : ∀ {l : Bs}, l.dropWhile p = [] ↔ ∀ b ∈ l, p b = true
  | [] => by simp
  | x :: r => by
    by_cases h : p x = true
    · rw [List.dropWhile_cons_of_pos h, drop_nil]; simp [h]
    · rw [List.dropWhile_cons_of_neg h]
      simp only [List.cons_ne_nil, List.mem_cons, false_iff]
      intro k; exact h (k x (.inl rfl))
theorem trim_nil (l cs : Bs) : trimS l cs = [] ↔ ∀ b ∈ l, cs.contains b = true := by
  unfold trimS trimLeftS
  rw [drop_nil]
  constructor
  · intro h b hb
    by_cases hc : cs.contains b = true
    · exact hc
    · exfalso
      have key : ∀ r : Bs, b ∈ r → b ∈ r.dropWhile (fun x => cs.contains x) := by
        intro r
        induction r with
        | nil => intro h; cases h
        | cons x y ih =>
          intro hx
          by_cases hp : cs.contains x = true
          · rw [List.dropWhile_cons_of_pos hp]
            rcases List.mem_cons.1 hx with e | e
            · rw [← e] at hp; exact absurd hp hc
            · exact ih e
          · rw [List.dropWhile_cons_of_neg hp]; exact hx
      exact hc (h b (by
        unfold trimRightS
        rw [List.mem_reverse]
        exact key _ (List.mem_reverse.2 hb)))
  · intro h b hb
    refine h b ?_
    unfold trimRightS at hb
    rw [List.mem_reverse] at hb
    exact List.mem_reverse.1 ((List.dropWhile_sublist _).subset hb)
theorem trim_ten (l : Bs) : (trimS l ten == []) = l.all isD := by
  rw [Bool.eq_iff_iff, beq_iff_eq, trim_nil, List.all_eq_true]
  exact ⟨fun h b hb => by rw [← ten_isD]; exact h b hb, fun h b hb => by rw [ten_isD]; exact h b hb⟩
theorem atoi_val {l : Bs} (h : dgs l) (h0 : l ≠ []) : atoi l = some (val l : Int) := by
  cases l with
  | nil => exact absurd rfl h0
  | cons x r =>
    have hx := of_decide_eq_true (h x (by simp))
    have h1 : (x == 45) = false := by
      rw [beq_eq_false_iff_ne]; intro e; rw [e] at hx; exact absurd hx.1 (by decide)
    have h2 : (x == 43) = false := by
      rw [beq_eq_false_iff_ne]; intro e; rw [e] at hx; exact absurd hx.1 (by decide)
    have e : atoi (x :: r) = if (x == 45) = true then (decNat r).map fun (m : Nat) => -(m : Int) else if (x == 43) = true then (decNat r).map fun (m : Nat) => (m : Int) else (decNat (x :: r)).map fun (m : Nat) => (m : Int) := rfl
    rw [e, h1, h2, if_neg (by simp), if_neg (by simp)]
    have e2 : decNat (x :: r) = decFrom 0 (x :: r) := rfl
    rw [e2, dec_val _ _ h]; rfl
theorem val_zero (l : Bs) : val (48 :: l) = val l := by
  have := val_app [48] l
  rw [List.singleton_append] at this
  rw [this]; simp [val, valFrom]
end Stp
namespace Go.Proofs.YtkhkjacnoiopcaaGreatDoor
open Go.RowKit

theorem digits_any (s : ByteArray) (hs : s.size ≤ 1000000) (w : World) : Calls Tryz.prog 172 #[.string s] w fun e w' => e = .returned (.bool (Stp.digB s.data.toList)) ∧ Below w.heap.size w w' := by
  have hT := fun w => Any.strings_Trim_laid Tryz.lays160 (by kernel_rfl) s ⟨#[48, 49, 50, 51, 52, 53, 54, 55, 56, 57]⟩ w (by omega) (by decide) (ascii_of_all (by decide))
  have hT2 : ∀ w, Calls Tryz.prog 70 #[.string s, .string ⟨#[48, 49, 50, 51, 52, 53, 54, 55, 56, 57]⟩] w fun e w' => e = .returned (.string (bs (Lib.trimS s.data.toList Stp.ten))) ∧ Below w.heap.size w w' := hT
  have hv : Stp.digB s.data.toList = (!(s.data.toList == []) && (Lib.trimS s.data.toList Stp.ten == [])) := by
    unfold Stp.digB; rw [Stp.trim_ten]
  have hnil : (s.data.toList == []) = s.toList.isEmpty := by rw [Lib.toList_data]; cases s.data.toList <;> rfl
  obtain ⟨X, hX⟩ : ∃ X, X = bs (Lib.trimS s.data.toList Stp.ten) := ⟨_, rfl⟩
  have hXn : (Lib.trimS s.data.toList Stp.ten == []) = X.toList.isEmpty := by rw [Lib.toList_data, hX, bs_list]; cases Lib.trimS s.data.toList Stp.ten <;> rfl
  rw [hXn, hnil] at hv
  rw [← hX] at hT2
  rw [hv]
  have HT := Lib.hid hT2
  clear hT hT2 hv hnil hX hXn
  by_cases h : s.toList = []
  · have h2 : s.toList.isEmpty = true := by rw [h]; rfl
    go_enter Tryz.func172, Tryz.ntmps172
    go_wp2_with fail
    go_ret
    exact ⟨by simp [h], Below.refl _ _⟩
  · have h2 : s.toList.isEmpty = false := by simpa using h
    go_enter Tryz.func172, Tryz.ntmps172
    go_wp2_with fail
    refine (HT.out _).mono ?_
    rintro e w1 ⟨rfl, h⟩
    have B1 := Lib.hid h
    clear h
    go_wp2_with fail
    go_ret
    exact ⟨by simp [h2], B1.out⟩

theorem atoi_any (s : ByteArray) (hs : s.size ≤ 18) (h : Stp.dgs s.data.toList) (h0 : s.data.toList ≠ []) (w : World) :
    Calls Tryz.prog 165 #[.string s] w fun e w' => e = .returned (.tuple #[.int .i64 (Stp.val s.data.toList : Int), .nilIface]) ∧ Below w.heap.size w w' :=
  (Tryz.strconv_Atoi s _ hs (Stp.atoi_val h h0) w).mono fun e w' ⟨he, t, hw⟩ => ⟨he, hw ▸ ⟨rfl, rfl, rfl, by rw [Lib.bytesWorld_size]; omega, fun j hj => Lib.bytesWorld_at_old w _ t j hj⟩⟩

set_option maxRecDepth 100000 in
set_option maxHeartbeats 1000000 in
theorem under_any (a b : Int) (m : Bool) (h1 : 0 ≤ a) (h2 : a ≤ 1000000000000000) (h3 : 0 ≤ b) (h4 : b < 1000000000) (w : World) :
    Calls Tryz.prog 173 #[tm a b, .bool m] w fun e w' => e = .returned (tm (Stp.under a b m).1 (Stp.under a b m).2) ∧ Below w.heap.size w w' := by
  cases m
  · rw [Stp.under_f]
    by_cases hb : 0 < b
    · rw [if_pos hb]
      go_enter Tryz.func173, Tryz.ntmps173
      go_wp2_with fail
      refine bodyPost_ret (v := tm (-a - 1) (1000000000 - b)) (by simp [results, Tryz.results173, go_sem]) rfl ⟨rfl, ?_⟩
      repeat refine Below.setCell ?_ (by first | exact Nat.le_refl _ | simp) _
      exact ((Below.refl _ _).alloc (Nat.le_refl _) _).alloc (by simp) _
    · rw [if_neg hb]
      go_enter Tryz.func173, Tryz.ntmps173
      go_wp2_with fail
      refine bodyPost_ret (v := tm (-a) b) (by simp [results, Tryz.results173, go_sem]) rfl ⟨rfl, ?_⟩
      repeat refine Below.setCell ?_ (by first | exact Nat.le_refl _ | simp) _
      exact ((Below.refl _ _).alloc (Nat.le_refl _) _).alloc (by simp) _
  · rw [Stp.under_t, if_pos (by omega)]
    have hb : 0 < b + 1 := by omega
    go_enter Tryz.func173, Tryz.ntmps173
    go_wp2_with fail
    refine bodyPost_ret (v := tm (-a - 1) (1000000000 - (b + 1))) (by simp [results, Tryz.results173, go_sem]) rfl ⟨rfl, ?_⟩
    repeat refine Below.setCell ?_ (by first | exact Nat.le_refl _ | simp) _
    exact ((Below.refl _ _).alloc (Nat.le_refl _) _).alloc (by simp) _

end Go.Proofs.YtkhkjacnoiopcaaGreatDoor

set_option linter.unusedVariables false
set_option linter.unusedSimpArgs false
namespace Go.Proofs.YtkhkjacnoiopcaaGreatDoor
open Go.RowKit Tre Pk

set_option maxRecDepth 100000 in
set_option maxHeartbeats 2000000 in
theorem decimal_any (v : Bl) (n : Int) (h : decimalP v = some n) (w : World) : Calls Tryz.prog 143 #[.string (bs v)] w fun e w' => e = .returned (.tuple #[.int .i64 n, .bool true]) ∧ Below w.heap.size w w' := by
  unfold decimalP at h
  split at h
  case isFalse => cases h
  rename_i hh
  obtain ⟨hd, hl⟩ := hh
  cases h
  have hdg : Stp.dgs v ∧ v ≠ [] := by
    unfold Stp.digB at hd
    rw [Bool.and_eq_true, List.all_eq_true] at hd
    exact ⟨fun b hb => hd.2 b hb, by cases v <;> simp_all⟩
  have hpos := List.length_pos_iff.2 hdg.2
  have hT := fun w => Any.strings_Trim_laid Tryz.lays160 (by kernel_rfl) (bs v) ⟨#[48, 49, 50, 51, 52, 53, 54, 55, 56, 57]⟩ w (by rw [bs_size]; omega) (by decide) (ascii_of_all (by decide))
  have hT2 : ∀ w, Calls Tryz.prog 70 #[.string (bs v), .string ⟨#[48, 49, 50, 51, 52, 53, 54, 55, 56, 57]⟩] w fun e w' => e = .returned (.string (bs (Lib.trimS (bs v).data.toList Stp.ten))) ∧ Below w.heap.size w w' := hT
  have hv : Stp.digB v = (!(v == []) && (Lib.trimS v Stp.ten == [])) := by
    unfold Stp.digB; rw [Stp.trim_ten]
  rw [hd] at hv
  have hX : Lib.trimS (bs v).data.toList Stp.ten = [] := by
    rw [bs_list]
    have := (Bool.and_eq_true_iff.1 hv.symm).2
    simpa using this
  rw [hX] at hT2
  have hE : bs ([] : List UInt8) = ⟨#[]⟩ := rfl
  rw [hE] at hT2
  have HA := Lib.hid (fun w => atoi_any (bs v) (by rw [bs_size]; omega) (by rw [bs_list]; exact hdg.1) (by rw [bs_list]; exact hdg.2) w)
  rw [bs_list] at HA
  have hin : inR ((bs v).size : Int) 1 15 = true := by
    unfold inR
    rw [bs_size, Bool.and_eq_true, decide_eq_true_iff, decide_eq_true_iff]
    omega
  have HW := Lib.hid (fun w => mwithin_any ((bs v).size : Int) 1 15 w)
  rw [hin] at HW
  have HT := Lib.hid hT2
  obtain ⟨V, hV⟩ : ∃ V, V = bs v := ⟨_, rfl⟩
  rw [← hV] at HA HW HT ⊢
  clear hT hT2 hv hX hE hin hd hdg hpos hl hV
  go_enter Tryz.func143, Tryz.ntmps143
  go_wp2_with fail
  refine (HW.out _).mono ?_
  rintro e w1 ⟨rfl, hw⟩
  subst hw
  go_wp2_with fail
  refine (HT.out _).mono ?_
  rintro e w1 ⟨rfl, h1⟩
  have B1 := Lib.hid h1
  clear h1
  go_wp2_with fail
  refine (HA.out _).mono ?_
  rintro e w2 ⟨rfl, h2⟩
  have B2 := Lib.hid (thenB B1.out h2)
  clear h2
  go_wp2_with fail
  go_region
  all_goals go_wp2_with fail
  all_goals go_ret2
  all_goals exact ⟨rfl, B2.out.drew⟩

end Go.Proofs.YtkhkjacnoiopcaaGreatDoor
