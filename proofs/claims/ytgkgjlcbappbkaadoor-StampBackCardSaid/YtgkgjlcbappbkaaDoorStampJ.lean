/-
  Contracts for the long text of a time.
-/
import Derived.Test.YtgkgjlcbappbkaaDoorStampI
import Derived.Test.YtgkgjlcbappbkaaDoorStampBackPlain
import Derived.Test.YtgkgjlcbappbkaaDoorRep
namespace Go.Proofs.YtgkgjlcbappbkaaDoor
open Go.RowKit

theorem text_len {s n : Int} (h : Stp.Ok s n) : (bs (Stp.text s n)).size ≤ 30 := by
  rw [bs_size, Stp.text_is]
  have h1 := (Stp.whole_ok h 0).2.2
  have h2 := (Stp.part_ok h).2.1
  rw [List.length_append, List.length_append]
  split <;> split <;> simp <;> omega

/-- Parse of a time's own text. -/
theorem parse_text {s n : Int} (h : Stp.Ok s n) (w : World) (hE : Env w) :
    Calls Tryd.prog 16 #[.string (bs (Stp.text s n))] w fun e w' => e = .returned (.tuple #[tm s n, .nilIface]) ∧ Below w.heap.size w w' := by
  have hp := Stp.part_ok h
  have hw := Stp.whole_ok h 0
  rw [List.replicate_zero, List.nil_append] at hw
  have := parse_any (bs (Stp.text s n)) (decide (s < 0)) (decide (0 < Stp.prt s n)) (Lib.decDigits (Stp.whl s n)) (if 0 < Stp.prt s n then Stp.tail9 (Stp.prt s n) else [])
    (by have := text_len h; omega) (by rw [bs_list]; exact (Stp.text_parts h).1) (by rw [bs_list, (Stp.text_parts h).2.1]; exact Stp.body_cut) hw.1
    (fun e => by have e := of_decide_eq_true e; rw [if_pos e]; exact hp.1 e) (fun e => by have e := of_decide_eq_false e; rw [if_neg e]) hw.2.1 (by have := hw.2.2; omega)
    (by have := hp.2.1; split <;> simp <;> omega) w hE
  rw [Stp.read_short h] at this
  unfold parsed at this
  rw [Stp.okB_of h, if_pos rfl] at this
  exact this

/-- What the long text reads as. -/
def outOf (s n : Int) (more : List UInt8) : Int × Int := if Lib.trimS more [48] = [] ∨ ¬ s < 0 then (s, n) else Stp.down s n
theorem parse_long {s n : Int} (h : Stp.Ok s n) (z : Nat) (hz : z ≤ 10) (more : List UInt8) (hm : Stp.dgs more) (hl : more.length ≤ 20) (w : World) (hE : Env w) :
    Calls Tryd.prog 16 #[.string (bs ((if decide (s < 0) then [45] else []) ++ Stp.long s n z more))] w fun e w' => e = .returned (parsed (outOf s n more)) ∧ Below w.heap.size w w' := by
  have hw := Stp.whole_ok h z
  have hd := Stp.dig_len h
  have hlen : (Stp.long s n z more).length ≤ 100 := by
    unfold Stp.long
    simp only [List.length_append, List.length_replicate, List.length_cons]
    have := hw.2.2; have := hd.1; omega
  have := parse_any (bs ((if decide (s < 0) then [45] else []) ++ Stp.long s n z more)) (decide (s < 0)) true (List.replicate z 48 ++ Lib.decDigits (Stp.whl s n)) (Stp.dig9 (Stp.prt s n) ++ more)
    (by rw [bs_size, List.length_append]; split <;> simp <;> omega) (by rw [bs_list]; exact (Stp.long_parts z more).1) (by rw [bs_list, (Stp.long_parts z more).2]; exact Stp.long_cut s n z more) hw.1
    (fun _ => Stp.digB_of (Stp.dgs_app.2 ⟨hd.2, hm⟩) (by intro e; have := congrArg List.length e; simp [hd.1] at this)) (fun e => by cases e) hw.2.1 (by rw [List.length_append, List.length_replicate]; have := hw.2.2; omega)
    (by rw [List.length_append, hd.1]; omega) w hE
  rw [Stp.read_long h] at this
  exact this

theorem trim_ten_any (s : ByteArray) (hs : s.size ≤ 1000000) (w : World) : Calls Tryd.prog 17 #[.string s, .string ⟨#[48, 49, 50, 51, 52, 53, 54, 55, 56, 57]⟩] w fun e w' => e = .returned (.string (bs (Lib.trimS s.data.toList Stp.ten))) ∧ Below w.heap.size w w' :=
  Any.strings_Trim_laid Tryd.lays160 (by kernel_rfl) s ⟨#[48, 49, 50, 51, 52, 53, 54, 55, 56, 57]⟩ w (by omega) (by decide) (ascii_of_all (by decide))
theorem trim_zero_any (s : ByteArray) (hs : s.size ≤ 1000000) (w : World) : Calls Tryd.prog 17 #[.string s, .string ⟨#[48]⟩] w fun e w' => e = .returned (.string (bs (Lib.trimS s.data.toList [48]))) ∧ Below w.heap.size w w' :=
  Any.strings_Trim_laid Tryd.lays160 (by kernel_rfl) s ⟨#[48]⟩ w (by omega) (by decide) (ascii_of_all (by decide))
theorem prefix_any {s n : Int} (h : Stp.Ok s n) (w : World) : Calls Tryd.prog 18 #[.string (bs (Stp.text s n)), .string ⟨#[45]⟩] w fun e w' => e = .returned (.bool (decide (s < 0))) ∧ w' = w := by
  have := Tryd.strings_HasPrefix (bs (Stp.text s n)) ⟨#[45]⟩ w
  have e : Lib.hasPrefix (bs (Stp.text s n)).data.toList (⟨#[45]⟩ : ByteArray).data.toList = decide (s < 0) := by rw [bs_list]; exact (Stp.text_parts h).1
  rw [e] at this; exact this
theorem unsigned_any {s n : Int} (h : Stp.Ok s n) (w : World) : Calls Tryd.prog 19 #[.string (bs (Stp.text s n)), .string ⟨#[45]⟩] w fun e w' => e = .returned (.string (bs (Stp.body s n))) ∧ w' = w := by
  have := Tryd.strings_TrimPrefix (bs (Stp.text s n)) ⟨#[45]⟩ w
  have e : Lib.trimPrefix (bs (Stp.text s n)).data.toList (⟨#[45]⟩ : ByteArray).data.toList = Stp.body s n := by rw [bs_list]; exact (Stp.text_parts h).2.2
  rw [e] at this; exact this
theorem dotted_any (s n : Int) (w : World) : Calls Tryd.prog 20 #[.string (bs (Stp.body s n)), .string ⟨#[46]⟩] w fun e w' => e = .returned (.bool (decide (0 < Stp.prt s n))) ∧ w' = w := by
  have := Tryd.strings_Contains_one (bs (Stp.body s n)) 46 w
  rw [bs_list, Stp.body_has] at this; exact this
theorem cut_full_any {s n : Int} (h : Stp.Ok s n) (w : World) (hE : Env w) : Calls Tryd.prog 21 #[.string (bs (Stp.full s n)), .string ⟨#[46]⟩] w fun e w' =>
    e = .returned (.tuple #[.string (bs (Lib.decDigits (Stp.whl s n))), .string (bs (Stp.tail9 (Stp.prt s n))), .bool true]) ∧ Below w.heap.size w w' := by
  obtain ⟨m, hm⟩ := hE.1
  have hl : (bs (Stp.full s n)).size ≤ 100 := by
    rw [bs_size]; unfold Stp.full
    rw [List.length_append, List.length_cons]
    have h1 := (Stp.whole_ok h 0).2.2
    have h2 := (Stp.part_ok h).2.1
    omega
  have h := Tryd.strings_Cut (bs (Stp.full s n)) ⟨#[46]⟩ m w (by omega) hm
  have e : Lib.cut (bs (Stp.full s n)).data.toList (⟨#[46]⟩ : ByteArray).data.toList = (Lib.decDigits (Stp.whl s n), Stp.tail9 (Stp.prt s n), true) := by rw [bs_list]; exact Stp.full_cut s n
  rw [e] at h
  exact h.mono fun e w'' ⟨he, k, hw⟩ => ⟨he, hw ▸ below_drewN (Below.refl _ _) k⟩

end Go.Proofs.YtgkgjlcbappbkaaDoor
