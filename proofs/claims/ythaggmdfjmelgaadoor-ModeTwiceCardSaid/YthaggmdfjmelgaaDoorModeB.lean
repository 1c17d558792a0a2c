/-
  mode.octal; mode.part.
-/
import Derived.Test.YthaggmdfjmelgaaDoorModeA
import Derived.Test.YthaggmdfjmelgaaDoorShelf
namespace Go.Proofs.YthaggmdfjmelgaaDoor
open Go.RowKit

def octV : Option Nat → Value
  | some n => .tuple #[.int .i64 (n : Int), .bool true]
  | none => .tuple #[.int .i64 0, .bool false]

theorem drop_at (s : ByteArray) (k : Nat) (h : k < s.size) : s.data.toList.drop k = s[k] :: s.data.toList.drop (k + 1) := by
  have h' : k < s.data.toList.length := by simpa using h
  rw [List.drop_eq_getElem_cons h']; rfl
theorem drop_over (s : ByteArray) (k : Nat) (h : s.size ≤ k) : s.data.toList.drop k = [] := List.drop_of_length_le (by simpa using h)
theorem not_empty (s : ByteArray) (h : 0 < s.size) : s.toList.isEmpty = false := by
  rw [Lib.toList_data]
  cases hl : s.data.toList with
  | nil => have := congrArg List.length hl; rw [list_size, List.length_nil] at this; omega
  | cons c cs => rfl
theorem octL_ne (s : ByteArray) (h : 0 < s.size) : Mode.octL s.data.toList = Mode.octGo s.data.toList 0 := by
  unfold Mode.octL; rw [if_neg]
  intro e
  have := congrArg List.length e; rw [list_size, List.length_nil] at this; omega

theorem oct_nil (w : World) : Calls Tryd.prog 16 #[.string ⟨#[]⟩] w fun e w' => e = .returned (octV none) ∧ w' = w := by
  go_enter Tryd.func16, Tryd.ntmps16
  go_wp2_with fail
  go_loopg [4, 8] 1 (fun g nv iv wr => g = 1 ∧ iv = .int .i64 0 ∧ nv = .int .i64 0 ∧ wr = w)
  case atStart => exact ⟨rfl, rfl, rfl, rfl⟩
  case round =>
    obtain ⟨_, rfl, rfl, rfl⟩ := hrel
    go_wp2_with fail
    go_ret2
    exact ⟨rfl, rfl⟩

set_option maxRecDepth 100000 in
set_option maxHeartbeats 1000000 in
theorem oct_any (s : ByteArray) (h0 : 0 < s.size) (hs : s.size < 1000) (w : World) : Calls Tryd.prog 16 #[.string s] w fun e w' => e = .returned (octV (Mode.octL s.data.toList)) ∧ w' = w := by
  have hne := not_empty s h0
  obtain ⟨r, hr⟩ : ∃ r, r = Mode.octGo s.data.toList 0 := ⟨_, rfl⟩
  rw [octL_ne s h0, ← hr]
  have Hr := Lib.hid hr
  clear hr
  go_enter Tryd.func16, Tryd.ntmps16
  go_wp2_with fail
  go_loopg [4, 8] (s.size + 1) (fun g nv iv wr => ∃ (i n : Nat), iv = .int .i64 i ∧ nv = .int .i64 n ∧ n ≤ 1048576 ∧ i ≤ s.size ∧ g + i = s.size + 1 ∧ Hid (r = Mode.octGo (s.data.toList.drop i) n) ∧ wr = w)
  case atStart => exact ⟨0, 0, rfl, rfl, by omega, by omega, by omega, by rw [Hr.out]; simp [Hid], rfl⟩
  case round =>
    obtain ⟨i, n, rfl, rfl, hn, hi1, hg, hR, rfl⟩ := hrel
    have Hg := Lib.hid hg
    clear hg
    by_cases hi : i < s.size
    · have hi3 : (i : Int) < s.size := by omega
      have hbyte := u8_lt s[i]
      have hR2 := hR.out
      rw [drop_at s i hi, Mode.octGo] at hR2
      by_cases hlo : (s[i].toNat : Int) < 48
      · rw [if_pos (.inl (by rw [UInt8.lt_iff_toNat_lt]; exact_mod_cast hlo))] at hR2
        subst hR2
        clear hR
        go_wp2_with fail
        go_ret2
        exact ⟨rfl, rfl⟩
      · by_cases hhi : (55 : Int) < (s[i].toNat : Int)
        · rw [if_pos (.inr (by rw [UInt8.lt_iff_toNat_lt]; exact_mod_cast hhi))] at hR2
          subst hR2
          clear hR
          go_wp2_with fail
          go_ret2
          exact ⟨rfl, rfl⟩
        · rw [if_neg (by rintro (h | h) <;> rw [UInt8.lt_iff_toNat_lt] at h <;> have : (48 : UInt8).toNat = 48 := rfl <;> have : (55 : UInt8).toNat = 55 := rfl <;> omega)] at hR2
          have HR := Lib.hid hR2
          clear hR hR2
          have hv : ∃ k : Nat, k = min (8 * n + (s[i].toNat - 48)) 1048576 := ⟨_, rfl⟩
          obtain ⟨k, hk⟩ := hv
          rw [← hk] at HR
          have K := Lib.hid hk
          clear hk
          go_wp2_with fail
          all_goals
            go_roundg (s.size - i)
            case measure => have := Hg.out; omega
            case rel => exact ⟨i + 1, k, by go_num, by have := K.out; congr 1; omega, by have := K.out; omega, by omega, by omega, HR.out, rfl⟩
    · have hi4 : (i : Int) = s.size := by omega
      have hR2 := hR.out
      rw [drop_over s i (by omega), Mode.octGo] at hR2
      subst hR2
      clear hR
      go_wp2_with fail
      go_ret2
      exact ⟨rfl, rfl⟩


/-- Where an operator stands among the operators. -/
def opI (c : UInt8) : Int := Lib.indexByte [43, 45, 61] c
theorem opI_lt (c : UInt8) : decide (opI c < 0) = !Mode.isOp c := by
  by_cases h1 : c = 43
  · subst h1; decide
  by_cases h2 : c = 45
  · subst h2; decide
  by_cases h3 : c = 61
  · subst h3; decide
  have e1 : ((43 : UInt8) == c) = false := by simpa using fun h => h1 h.symm
  have e2 : ((45 : UInt8) == c) = false := by simpa using fun h => h2 h.symm
  have e3 : ((61 : UInt8) == c) = false := by simpa using fun h => h3 h.symm
  simp [Mode.isOp, opI, Lib.indexByte, h1, h2, h3, e1, e2, e3]
theorem op_any (c : UInt8) (w : World) : Calls Tryd.prog 30 #[.string ⟨#[43, 45, 61]⟩, .int .u8 c.toNat] w fun e w' => e = .returned (.int .i64 (opI c)) ∧ w' = w := by
  have := Tryd.strings_IndexByte ⟨#[43, 45, 61]⟩ c.toNat w
  have e : ((c.toNat : Int)).toNat.toUInt8 = c := by simp
  rw [e] at this
  exact this
/-- Nothing but draws. -/
def Sm (w w' : World) : Prop := ∃ k, w' = w.drewN k
theorem Sm.refl (w : World) : Sm w w := ⟨0, rfl⟩
theorem Sm.drewN {w w' : World} (h : Sm w w') (n : Nat) : Sm w (w'.drewN n) := by obtain ⟨k, rfl⟩ := h; exact ⟨k + n, by simp⟩
theorem u8_is {c d : UInt8} (h : ((c.toNat : Int) == (d.toNat : Int)) = true) : c = d := by
  rw [u8_beq] at h; simpa using h
theorem u8_isnt {c d : UInt8} (h : ((c.toNat : Int) == (d.toNat : Int)) = false) : c ≠ d := by
  rw [u8_beq] at h; simpa using h
theorem op_v1 {c : UInt8} {n O b : BitVec 12} (h : ((c.toNat : Int) == 43) = true) : Value.int .i64 (bits .or .i64 (n.toNat : Int) (bits .and .i64 (b.toNat : Int) (O.toNat : Int))) = .int .i64 (Mode.opM c n O b).toNat := by
  obtain rfl : c = 43 := u8_is h
  rw [bits_and, bits_or]; rfl
theorem op_v2 {c : UInt8} {n O b : BitVec 12} (h0 : ((c.toNat : Int) == 43) = false) (h : ((c.toNat : Int) == 45) = true) : Value.int .i64 (bits .andNot .i64 (n.toNat : Int) (bits .and .i64 (b.toNat : Int) (O.toNat : Int))) = .int .i64 (Mode.opM c n O b).toNat := by
  obtain rfl : c = 45 := u8_is h
  rw [bits_and, bits_not]; rfl
theorem op_v3 {c : UInt8} {n O b : BitVec 12} (h0 : ((c.toNat : Int) == 43) = false) (h : ((c.toNat : Int) == 45) = false) : Value.int .i64 (bits .or .i64 (bits .andNot .i64 (n.toNat : Int) (O.toNat : Int)) (bits .and .i64 (b.toNat : Int) (O.toNat : Int))) = .int .i64 (Mode.opM c n O b).toNat := by
  have h1 : c ≠ 43 := u8_isnt h0
  have h2 : c ≠ 45 := u8_isnt h
  rw [bits_and, bits_not, bits_or, Mode.opM, if_neg h1, if_neg h2]
theorem ext_tail (t : ByteArray) : (t.extract 1 t.size).data.toList = t.data.toList.drop 1 := ext_end t 1

set_option maxRecDepth 100000 in
set_option maxHeartbeats 4000000 in
theorem part_any (s : ByteArray) (hs : s.size < 1000) (m : BitVec 12) (dir : Bool) (w : World) : Calls Tryd.prog 18 #[.int .i64 m.toNat, .string s, .bool dir] w fun e w' => e = .returned (whatV (Mode.partL s.data.toList m dir)) ∧ Sm w w' := by
  have hwho := who_any
  have WHO := Lib.hid hwho
  have hop := op_any
  have OPI := Lib.hid hop
  have hwhat := what_any
  have WHAT := Lib.hid hwhat
  clear hwho hop hwhat
  obtain ⟨z, hz⟩ : ∃ z, z = Mode.partL s.data.toList m dir := ⟨_, rfl⟩
  rw [← hz]
  have Z := Lib.hid hz
  clear hz
  obtain ⟨r, hr⟩ : ∃ r, r = Mode.whoGo s.data.toList 0#12 := ⟨_, rfl⟩
  have Hr := Lib.hid hr
  clear hr
  obtain ⟨G, hG⟩ : ∃ G, G = s.size := ⟨_, rfl⟩
  go_enter Tryd.func18, Tryd.ntmps18
  go_wp2_with fail
  go_loopg [1, 8] (G + 1) (fun g sv ov wr => ∃ (t : ByteArray) (o : BitVec 12), sv = .string t ∧ ov = .int .i64 o.toNat ∧ t.size < 1000 ∧ g = t.size + 1 ∧ Hid (r = Mode.whoGo t.data.toList o) ∧ Sm w wr)
  case atStart => exact ⟨s, 0#12, rfl, rfl, hs, by rw [hG], Hr, Sm.refl _⟩
  case round =>
    obtain ⟨t, o, rfl, rfl, hts, rfl, hR, SM⟩ := hrel
    by_cases ht : 0 < t.size
    · have ht2 := not_empty t ht
      have ht3 : (0 : Int) < t.size := by omega
      have wc := fun w => WHO.out t[0] w
      have WC := Lib.hid wc
      clear wc
      have hd := drop_at t 0 ht
      rw [List.drop_zero] at hd
      by_cases hz : Mode.whoM t[0] = 0#12
      · have hz2 : (((Mode.whoM t[0]).toNat : Int) != 0) = false := by rw [hz]; rfl
        have hR2 : r = (o, t.data.toList) := by rw [hR.out, hd, Mode.whoGo, if_pos hz]
        have hz3 : z = Mode.outGo dir (Mode.ofM o) t.data.toList m := by
          rw [Z.out, Mode.partL, ← Hr.out, hR2]
          simp only []
          rw [if_neg (by rw [hd]; exact List.cons_ne_nil _ _)]
        obtain ⟨O, hO⟩ : ∃ O, O = Mode.ofM o := ⟨_, rfl⟩
        rw [← hO] at hz3
        have HO := Lib.hid hO
        have Z3 := Lib.hid hz3
        clear hz3 hR2 hO hR Hr Z hd
        have hways : (((o.toNat : Int) == 0) = true ∧ Hid ((4095 : Int) = (O.toNat : Int))) ∨ (((o.toNat : Int) == 0) = false ∧ Hid ((o.toNat : Int) = (O.toNat : Int))) := by
          rw [HO.out]
          by_cases ho : o = 0#12
          · subst ho; exact .inl ⟨rfl, rfl⟩
          · refine .inr ⟨?_, ?_⟩
            · rw [show (0 : Int) = ((0#12).toNat : Int) from rfl, w_eq]; simpa using ho
            · unfold Mode.ofM; rw [if_neg ho]; rfl
        rcases hways with ⟨ho, hO⟩ | ⟨ho, hO⟩
        all_goals
          go_wp2_with ((go_at_call 29; refine (WC.out _).mono ?_; rintro e w2 ⟨rfl, rfl⟩))
          rw [hO.out]
          go_loopg [0, 1] (t.size + 1) (fun g mv sv wr => ∃ (t : ByteArray) (n : BitVec 12), mv = .int .i64 n.toNat ∧ sv = .string t ∧ t.size < 1000 ∧ g = t.size + 1 ∧ Hid (z = Mode.outGo dir O t.data.toList n) ∧ Sm w wr)
          case atStart => exact ⟨t, m, rfl, rfl, hts, rfl, Z3, SM⟩
          case round =>
            clear SM Z3 HO hO
            obtain ⟨t, n, rfl, rfl, hts, rfl, hR, SM⟩ := hrel
            by_cases ht : 0 < t.size
            · have ht2 := not_empty t ht
              have ht3 : (0 : Int) < t.size := by omega
              have hd := drop_at t 0 ht
              rw [List.drop_zero] at hd
              have hR2 := hR.out
              rw [hd, Mode.outGo] at hR2
              have hlt := opI_lt t[0]
              have oc := fun w => OPI.out t[0] w
              have OC := Lib.hid oc
              clear oc
              by_cases hop : Mode.isOp t[0] = true
              · rw [hop] at hlt
                rw [if_pos hop] at hR2
                have HR := Lib.hid hR2
                have HOP := Lib.hid hop
                have ho1 : 0 ≤ opI t[0] := by simpa using hlt
                clear hR hR2 hd hop
                go_wp2_with ((go_at_call 30; refine (OC.out _).mono ?_; rintro e w2 ⟨rfl, rfl⟩))
                obtain ⟨N, hN⟩ : ∃ N, N = t.size := ⟨_, rfl⟩
                have hT0 : ∃ c, c = t[0] := ⟨_, rfl⟩
                obtain ⟨c, hc⟩ := hT0
                have HC := Lib.hid hc
                rw [← hc] at HR HOP
                clear hc
                go_loopg [1, 10] (t.size) (fun g sv bv wr => ∃ (t : ByteArray) (b : BitVec 12), sv = .string t ∧ bv = .int .i64 b.toNat ∧ t.size < N ∧ g = t.size + 1 ∧ Hid (z = Mode.stepGo dir O t.data.toList n c b) ∧ Sm w wr)
                case atStart => exact ⟨_, 0#12, rfl, rfl, by rw [ext_size _ _ _ (Nat.le_refl _)]; omega, by rw [ext_size _ _ _ (Nat.le_refl _)]; omega, by rw [ext_tail]; exact HR.out, SM⟩
                case round =>
                  obtain ⟨q, b, rfl, rfl, hqs, rfl, hQ, SQ⟩ := hrel
                  by_cases hq : 0 < q.size
                  · have hq2 := not_empty q hq
                    have hq3 : (0 : Int) < q.size := by omega
                    have hd := drop_at q 0 hq
                    rw [List.drop_zero] at hd
                    have wt := fun w => WHAT.out q[0] n dir w
                    cases hw : Mode.whatM q[0] n dir with
                    | none =>
                      rw [hw] at wt
                      simp only [whatV] at wt
                      have WT := Lib.hid wt
                      have hQ2 : z = Mode.outGo dir O q.data.toList (Mode.opM c n O b) := by
                        rw [hQ.out, hd, Mode.stepGo, hw]
                        rfl
                      have HQ := Lib.hid hQ2
                      clear wt hw hQ hQ2 hd
                      go_wp2_with ((go_at_call 31; refine (WT.out _).mono ?_; rintro e w2 ⟨rfl, rfl⟩))
                      · rename_i h1
                        have hv := op_v1 (n := n) (O := O) (b := b) h1
                        rw [← HC.out] at hv
                        go_roundg (q.size + 1)
                        case measure => omega
                        case rel => exact ⟨q, Mode.opM c n O b, hv, rfl, by omega, rfl, HQ.out, SQ⟩
                      · rename_i h1 h2
                        have hv := op_v2 (n := n) (O := O) (b := b) h1 h2
                        rw [← HC.out] at hv
                        go_roundg (q.size + 1)
                        case measure => omega
                        case rel => exact ⟨q, Mode.opM c n O b, hv, rfl, by omega, rfl, HQ.out, SQ⟩
                      · rename_i h1 h2
                        have hv := op_v3 (n := n) (O := O) (b := b) h1 h2
                        rw [← HC.out] at hv
                        go_roundg (q.size + 1)
                        case measure => omega
                        case rel => exact ⟨q, Mode.opM c n O b, hv, rfl, by omega, rfl, HQ.out, SQ⟩
                    | some x =>
                      rw [hw] at wt
                      simp only [whatV] at wt
                      have WT := Lib.hid wt
                      have hQ2 : z = Mode.stepGo dir O (q.data.toList.drop 1) n c (b ||| x) := by
                        rw [hQ.out, hd, Mode.stepGo, hw]
                        rfl
                      have HQ := Lib.hid hQ2
                      clear wt hw hQ hQ2 hd
                      go_wp2_with ((go_at_call 31; refine (WT.out _).mono ?_; rintro e w2 ⟨rfl, rfl⟩))
                      go_quiet (fail)
                      go_wp2_with fail
                      go_roundg ((q.extract 1 q.size).size + 1)
                      case measure => rw [ext_size _ _ _ (Nat.le_refl _)]; omega
                      case rel => exact ⟨_, b ||| x, rfl, by rw [bits_or], by rw [ext_size _ _ _ (Nat.le_refl _)]; omega, rfl, by rw [ext_tail]; exact HQ.out, SQ.drewN nq⟩
                  · have hq2 : q = ⟨#[]⟩ := by
                      have h0 : q.data.toList = [] := List.eq_nil_of_length_eq_zero (by rw [list_size]; omega)
                      exact ba_ext h0
                    subst hq2
                    have hT : Hid (z = Mode.outGo dir O (⟨#[]⟩ : ByteArray).data.toList (Mode.opM c n O b)) := hQ.out
                    clear hQ
                    go_wp2_with fail
                    · rename_i h1
                      have hv := op_v1 (n := n) (O := O) (b := b) h1
                      rw [← HC.out] at hv
                      go_roundg 1
                      case measure => omega
                      case rel => exact ⟨⟨#[]⟩, Mode.opM c n O b, hv, rfl, by decide, rfl, hT, SQ⟩
                    · rename_i h1 h2
                      have hv := op_v2 (n := n) (O := O) (b := b) h1 h2
                      rw [← HC.out] at hv
                      go_roundg 1
                      case measure => omega
                      case rel => exact ⟨⟨#[]⟩, Mode.opM c n O b, hv, rfl, by decide, rfl, hT, SQ⟩
                    · rename_i h1 h2
                      have hv := op_v3 (n := n) (O := O) (b := b) h1 h2
                      rw [← HC.out] at hv
                      go_roundg 1
                      case measure => omega
                      case rel => exact ⟨⟨#[]⟩, Mode.opM c n O b, hv, rfl, by decide, rfl, hT, SQ⟩
              · have hz : z = none := by rw [hR2, if_neg hop]
                subst hz
                have hop2 : Mode.isOp t[0] = false := by simpa using hop
                rw [hop2] at hlt
                have ho1 : opI t[0] < 0 := by simpa using hlt
                clear hR hR2 hd hop hop2 hlt
                go_wp2_with ((go_at_call 30; refine (OC.out _).mono ?_; rintro e w2 ⟨rfl, rfl⟩))
                go_ret2
                exact ⟨rfl, SM⟩
            · have ht2 : t = ⟨#[]⟩ := by
                have h0 : t.data.toList = [] := List.eq_nil_of_length_eq_zero (by rw [list_size]; omega)
                exact ba_ext h0
              subst ht2
              have hz : z = some n := hR.out
              subst hz
              go_wp2_with fail
              go_ret2
              exact ⟨rfl, SM⟩
      · have hz2 : (((Mode.whoM t[0]).toNat : Int) != 0) = true := by
          rw [show (0 : Int) = ((0#12).toNat : Int) from rfl, bne, w_eq]; simpa using hz
        have hR2 := hR.out
        rw [hd, Mode.whoGo, if_neg hz] at hR2
        rw [← List.drop_zero (l := t.data.toList)] at hR2
        have HR := Lib.hid hR2
        clear hR hR2 hz hd
        go_wp2_with ((go_at_call 29; refine (WC.out _).mono ?_; rintro e w2 ⟨rfl, rfl⟩))
        go_quiet ((go_at_call 29; exact Calls.quiet_of_same (WC.out _)))
        go_wp2_with fail
        go_roundg ((t.extract 1 t.size).size + 1)
        case measure => rw [ext_size _ _ _ (Nat.le_refl _)]; omega
        case rel => exact ⟨_, o ||| Mode.whoM t[0], rfl, by rw [bits_or], by rw [ext_size _ _ _ (Nat.le_refl _)]; omega, rfl, by rw [ext_tail]; exact HR.out, SM.drewN nq⟩
    · have ht2 : t = ⟨#[]⟩ := by
        have h0 : t.data.toList = [] := List.eq_nil_of_length_eq_zero (by rw [list_size]; omega)
        exact ba_ext h0
      subst ht2
      have hz : z = none := by
        have h1 := hR.out
        rw [Z.out, Mode.partL, ← Hr.out, h1]
        rfl
      subst hz
      by_cases ho : o = 0#12
      · subst ho
        go_wp2_with fail
        go_ret2
        exact ⟨rfl, SM⟩
      · have ho2 : ((o.toNat : Int) == 0) = false := by
          rw [show (0 : Int) = ((0#12).toNat : Int) from rfl, w_eq]; simpa using ho
        go_wp2_with fail
        go_ret2
        exact ⟨rfl, SM⟩
end Go.Proofs.YthaggmdfjmelgaaDoor
