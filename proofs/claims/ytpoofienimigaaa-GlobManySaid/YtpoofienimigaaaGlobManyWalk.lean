/-
  The walk of GlobMany.
-/
import Derived.Test.YtpoofienimigaaaGlobPiecesWalk
import Derived.Test.YtpoofienimigaaaPick
import Derived.Lib.Repeat
namespace Glb

theorem toks_many (n : Nat) : toks (List.replicate n 63) = some (List.replicate n anyTok) := by
  induction n with
  | zero => rfl
  | succ n ih => rw [List.replicate_succ, toks_any, ih]; rfl

theorem mt_many (n : Nat) : ∀ s, Mt (List.replicate n anyTok) s ↔ s.length = n ∧ (47 : UInt8) ∉ s := by
  induction n with
  | zero => intro s; simp [Mt]; intro h; rw [h]; simp
  | succ n ih =>
    intro s
    rw [List.replicate_succ]
    constructor
    · rintro ⟨u, v, rfl, ⟨c, rfl, hc⟩, hv⟩
      obtain ⟨h1, h2⟩ := (ih v).1 hv
      have hc' : c ≠ 47 := by simpa [anyTok] using hc
      exact ⟨by simp [h1], by simp [h2]; exact fun e => hc' e.symm⟩
    · rintro ⟨h1, h2⟩
      cases s with
      | nil => simp at h1
      | cons c s =>
        simp at h1 h2
        exact ⟨[c], s, rfl, ⟨c, rfl, by simp [anyTok]; exact fun e => h2.1 e.symm⟩, (ih s).2 ⟨h1, h2.2⟩⟩

theorem many_law (n : Nat) (s : List UInt8) (hn : n < 110) (hs : s.length ≤ 100) : mres (List.replicate n 63) s = ((decide (n = s.length) && !decide (0 ≤ Go.Lib.indexByte s 47)), 0) := by
  unfold mres
  rw [if_neg (by simp; omega), if_neg (by omega), toks_many]
  show (matchB (List.replicate n anyTok) s, 0) = _
  congr 1
  rw [Bool.eq_iff_iff, match_iff, mt_many]
  simp only [Bool.and_eq_true, decide_eq_true_eq, Bool.not_eq_true', decide_eq_false_iff_not]
  rw [index_mem]
  exact ⟨fun h => ⟨h.1.symm, h.2⟩, fun h => ⟨h.1.symm, h.2⟩⟩

end Glb

namespace Go.Proofs.Ytpoofienimigaaa
open Go.RowKit

theorem repeatL_one (n : Nat) : Lib.repeatL [63] n = List.replicate n 63 := by
  induction n with
  | zero => rfl
  | succ n ih => simp [Lib.repeatL, List.replicate_succ] at ih ⊢; try exact ih

set_option maxHeartbeats 4000000 in
theorem globMany_walk (a : ByteArray) (_sa : a.size ≤ 140737488351232) (n : Int) (_wn : (Lit.int .i64 n).wf = true) (w : World) :
    Calls Try.prog 7 #[.string a, .int .i64 n] w fun e w' => e = .returned (.bool true) ∧ Below w.heap.size w w' := by
  by_cases h1 : 100 < a.size
  · have h1' : (100 : Int) < a.size := by omega
    clear h1
    go_enter Try.func7, Try.ntmps7
    go_wp2_with fail
    refine (matched_any _).mono ?_
    rintro e w1 ⟨rfl, hb1⟩
    have B1 := Lib.hid hb1
    clear hb1
    go_wp2_with fail
    go_ret
    exact ⟨rfl, B1.out⟩
  have h1' : (a.size : Int) ≤ 100 := by omega
  have la : a.data.toList.length = a.size := by simp
  obtain ⟨k, hk⟩ : ∃ k : Nat, pickN n 110 = k := ⟨(pickN n 110).toNat, by have := pickN_lo n 110 (by omega); omega⟩
  have hk1 : k < 110 := by have := pickN_hi n 110 (by omega); omega
  have HK := Lib.hid hk
  obtain ⟨r, hr⟩ : ∃ r : ByteArray, r = ⟨(Lib.repeatL [63] k).toArray⟩ := ⟨_, rfl⟩
  obtain ⟨c, hc⟩ : ∃ c, c = decide (0 ≤ Lib.indexByte a.data.toList 47) := ⟨_, rfl⟩
  obtain ⟨x, hx⟩ : ∃ x, x = (decide (k = a.size) && !c) := ⟨_, rfl⟩
  have M1 := Lib.hid (show Glb.mres r.data.toList a.data.toList = (x, 0) by
    rw [hr, hx, hc]
    show Glb.mres (Lib.repeatL [63] k) a.data.toList = _
    rw [repeatL_one, Glb.many_law k _ hk1 (by omega), la])
  have M2 := Lib.hid (fun w => contains_one a w)
  rw [← hc] at M2
  have HR := Lib.hid hr
  have HX := Lib.hid hx
  clear hk hr hc hx la h1
  have hp : pick_any n 110 = pick_any n 110 := rfl
  clear hp
  go_enter Try.func7, Try.ntmps7
  go_wp2_with fail
  refine (matched_any _).mono ?_
  rintro e w1 ⟨rfl, hb1⟩
  have B1 := Lib.hid hb1
  clear hb1
  go_wp2_with fail
  refine (pick_any n 110 _ (by omega) (by omega)).mono ?_
  rintro e w2 ⟨rfl, rfl⟩
  rw [HK.out]
  go_wp2_with fail
  refine (Try.strings_Repeat ⟨#[63]⟩ k _ (by omega) (by show 1 * k ≤ _; omega)).mono ?_
  rw [show (⟨(Lib.repeatL (⟨#[63]⟩ : ByteArray).data.toList k).toArray⟩ : ByteArray) = r from HR.out.symm]
  rintro e w3 ⟨rfl, hb⟩
  have B3 := Lib.hid (thenB B1.out hb)
  clear hb
  go_wp2_with fail
  refine (match_is r a _ x M1.out).mono ?_
  rintro e w4 ⟨rfl, hb⟩
  have B4 := Lib.hid (thenB B3.out hb)
  clear hb
  by_cases hke : k = a.size
  · have hk2 : (((k : Int)) == (a.size : Int)) = true := by rw [hke]; simp
    have hx2 : x = !c := by rw [HX.out]; simp [hke]
    subst hx2
    clear HX HK M1 hke
    go_wp2_with fail
    refine (M2.out _).mono ?_
    rintro e w5 ⟨rfl, rfl⟩
    go_wp2_with fail
    go_ret
    exact ⟨by simp, B4.out⟩
  · have hk2 : (((k : Int)) == (a.size : Int)) = false := by simp; omega
    have hx2 : x = false := by rw [HX.out]; simp [hke]
    subst hx2
    clear HX HK M1 hke
    go_wp2_with fail
    go_ret
    exact ⟨rfl, B4.out⟩

end Go.Proofs.Ytpoofienimigaaa
