/-
  head: Write and Read as functions of headers.
-/
import Derived.Test.YtkhkjacnoiopcaaGreatDoorZav
import Derived.Test.YtkhkjacnoiopcaaGreatDoorZac
import Derived.Test.YtkhkjacnoiopcaaGreatDoorZak
import Derived.Test.YtkhkjacnoiopcaaGreatDoorZam
set_option linter.unusedVariables false
set_option linter.unusedSimpArgs false

set_option linter.unusedVariables false
set_option linter.unusedSimpArgs false
namespace Go.Proofs.YtkhkjacnoiopcaaGreatDoor
open Go.RowKit

/-- A header's value. -/
abbrev rv (r : HRaw) : Value := .agg #[.string (bs r.name), .string (bs r.link), .string (bs r.user), .string (bs r.group), .string (bs r.front), .int .u8 r.kind.toNat, .int .i64 r.mode, .int .i64 r.uid, .int .i64 r.gid, .int .i64 r.size, .int .i64 r.time, .int .i64 r.major, .int .i64 r.minor]
theorem hwrite_any (d : Nat) (r : HRaw) (hd1 : 1 ≤ d) (hd4 : d ≤ 4) (hw : r.wf) (w : World) : Calls Tryz.prog 81 #[.int .i64 d, rv r] w (WriteP d r w.heap.size w) := by
  obtain ⟨n, l, u, g, f, k, m1, m2, m3, m4, m5, m6, m7⟩ := r
  exact write_walk d (bs n) (bs l) (bs u) (bs g) (bs f) k m1 m2 m3 m4 m5 m6 m7 hd1 hd4 hw w
theorem hread_any (l : List UInt8) (hl : l.length = 512) (hR : rightL l = true) (r : HRaw) (D : Nat) (hH : HRead l r D) (hk0 : (fld l 156 1).headD 0 ≠ 0) (w : World) :
    Calls Tryz.prog 83 #[.string (bs l)] w fun e w' => e = .returned (.tuple #[rv r, .int .i64 D, .nilIface]) ∧ Below w.heap.size w w' := by
  obtain ⟨n, lk, u, g, f, k, m1, m2, m3, m4, m5, m6, m7⟩ := r
  exact read_walk (bs l) (by rw [bs_size]; omega) (by rw [bs_size]; omega) hR (bs n) (bs lk) (bs u) (bs g) (bs f) k m1 m2 m3 m4 m5 m6 m7 D hH hk0 w
end Go.Proofs.YtkhkjacnoiopcaaGreatDoor

set_option linter.unusedVariables false
set_option linter.unusedSimpArgs false
namespace Go.Proofs.YtkhkjacnoiopcaaGreatDoor
open Go.RowKit Tre Pk

set_option maxRecDepth 100000 in
set_option maxHeartbeats 4000000 in
theorem mplain_any (e : Ent) (mv : Value) (hk : e.kind ≤ 255) (w : World) : Calls Tryz.prog 37 #[ev e mv] w fun r w' => r = .returned (rv (plainM e)) ∧ Below w.heap.size w w' := by
  obtain ⟨n, k, m1, m2, m3, z, sc, na, l, u, gr, mj, mn, d, mp⟩ := e
  have hk8 : k.toUInt8.toNat = k := by
    simp only at hk
    rw [Nat.toUInt8, UInt8.toNat_ofNat', Nat.mod_eq_of_lt (by omega)]
  unfold ev evc rv plainM
  simp only [hk8]
  have hz : (((bs d).size : Nat) : Int) = (d.length : Int) := by rw [bs_size]
  have hn : bs ([] : List UInt8) = ⟨#[]⟩ := rfl
  rw [hn, ← hz]
  have HB := Lib.hid (show Below w.heap.size w (w.alloc (.cells #[.string (bs n), .int .u8 k, .int .i64 m1, .int .i64 m2, .int .i64 m3, .int .i64 z, .int .i64 sc, .int .i64 na, .string (bs l), .string (bs u), .string (bs gr), .int .i64 mj, .int .i64 mn, .string (bs d), mv] 26)) from (Below.refl _ _).alloc (Nat.le_refl _) _)
  clear hk hk8 hz hn
  go_enter Tryz.func37, Tryz.ntmps37
  go_wp2_with fail
  refine bodyPost_ret (v := .agg #[.string ⟨#[]⟩, .string ⟨#[]⟩, .string (bs u), .string (bs gr), .string ⟨#[]⟩, .int .u8 k, .int .i64 m1, .int .i64 m2, .int .i64 m3, .int .i64 (bs d).size, .int .i64 sc, .int .i64 mj, .int .i64 mn]) ?_ rfl ⟨rfl, ?_⟩
  · simp [results, Tryz.results37, go_sem]
  · exact ((Below.refl _ _).alloc (Nat.le_refl _) _).alloc (by simp) _

set_option maxRecDepth 100000 in
set_option maxHeartbeats 4000000 in
theorem mnamed_any (e : Ent) (mv : Value) (hl : e.name.length ≤ 1000000) (w : World) : Calls Tryz.prog 41 #[ev e mv] w fun r w' => r = .returned (.string (bs (nameM e))) ∧ Below w.heap.size w w' := by
  obtain ⟨n, k, m1, m2, m3, z, sc, na, l, u, gr, mj, mn, d, mp⟩ := e
  unfold ev evc nameM
  simp only at hl ⊢
  have HB := Lib.hid (show Below w.heap.size w (w.alloc (.cells #[.string (bs n), .int .u8 k, .int .i64 m1, .int .i64 m2, .int .i64 m3, .int .i64 z, .int .i64 sc, .int .i64 na, .string (bs l), .string (bs u), .string (bs gr), .int .i64 mj, .int .i64 mn, .string (bs d), mv] 26)) from (Below.refl _ _).alloc (Nat.le_refl _) _)
  by_cases h53 : k = 53
  · subst h53
    rw [if_pos rfl]
    have c1 := fun w => run_string_add_sum (P := Tryz.prog) w (bs n) ⟨#[47]⟩ (by rw [bs_size]; show _ + 1 ≤ _; omega)
    have he : bs n ++ ⟨#[47]⟩ = bs (n ++ [47]) := ba_ext (by rw [cat_list, bs_list, bs_list])
    have HE := Lib.hid he
    clear he
    go_enter Tryz.func41, Tryz.ntmps41
    go_wp2_with fail
    go_ret
    rw [HE.out]
    exact ⟨rfl, HB.out⟩
  · rw [if_neg h53]
    have hk : ((k : Int) == 53) = false := by rw [beq_eq_false_iff_ne]; omega
    clear h53
    go_enter Tryz.func41, Tryz.ntmps41
    go_wp2_with fail
    go_ret
    exact ⟨rfl, HB.out⟩

end Go.Proofs.YtkhkjacnoiopcaaGreatDoor
