/-
  hole.Find.
-/
import Derived.Test.YtjlglmfogldbkaaDoorHoleB
import Derived.Test.YtjlglmfogldbkaaDoorSlices
import Derived.Test.YtjlglmfogldbkaaDoorShelf
import Derived.BigQuiet
import Derived.Deep.QuietTactic
namespace Go.Proofs.YtjlglmfogldbkaaDoor
open Go.RowKit

/-- What Find comes to. -/
def FindPost (w : World) (qs : List Hol.Pc) (e : Ending) (w' : World) : Prop :=
  if 20 < qs.length then e = .returned (.tuple #[.slice none 0 0, .iface 39 (.int .i64 4)]) ∧ Below w.heap.size w w'
  else ∃ v, e = .returned (.tuple #[v, .nilIface]) ∧ HasP w' w.heap.size v qs ∧ Below w.heap.size w w'

theorem infoPc : (Tryd.prog.info? 36).map (fun i => (i.zero, i.size, i.bytes)) = some (some (.agg #[.int .i64 0, .int .i64 0]), 2, 16) := by kernel_rfl
theorem zeroPc (w : World) : (zeroValue 36).run Tryd.prog w = .ok (.agg #[.int .i64 0, .int .i64 0]) w := by kernel_rfl

theorem dropZ (l : List UInt8) (h : Hol.zeros l = true) : l.dropWhile (· == (0 : UInt8)) = [] := by
  induction l with
  | nil => rfl
  | cons c l ih =>
    simp only [Hol.zeros, List.all_cons, Bool.and_eq_true] at h
    rw [List.dropWhile_cons_of_pos (p := fun x => x == (0 : UInt8)) h.1, ih h.2]
theorem zeros_rev (l : List UInt8) : Hol.zeros l.reverse = Hol.zeros l := by unfold Hol.zeros; rw [List.all_reverse]
theorem dropN (l : List UInt8) (h : Hol.zeros l = false) : ∃ c r, l.dropWhile (· == (0 : UInt8)) = c :: r ∧ (c == (0 : UInt8)) = false := by
  induction l with
  | nil => cases h
  | cons c l ih =>
    by_cases hc : (c == (0 : UInt8)) = true
    · rw [List.dropWhile_cons_of_pos (p := fun x => x == (0 : UInt8)) hc]
      refine ih ?_
      simpa [Hol.zeros, hc] using h
    · rw [List.dropWhile_cons_of_neg (p := fun x => x == (0 : UInt8)) hc]
      exact ⟨c, l, rfl, by simpa using hc⟩
/-- strings.Trim(x, "\x00") tells whether all is 0. -/
theorem trim_named (x : ByteArray) (hx : x.size ≤ 100000) : ∃ T : ByteArray, T.toList.isEmpty = Hol.zeros x.data.toList ∧ ∀ w : World, Calls Tryd.prog 16 #[.string x, .string ⟨#[0]⟩] w fun e w' => e = .returned (.string T) ∧ Below w.heap.size w w' := by
  refine ⟨⟨(Lib.trimB x.data.toList 0).toArray⟩, ?_, fun w => (Tryd.strings_Trim_one x 0 (by decide) w (by omega)).mono fun _ w' ⟨he, hw⟩ => ⟨he, ?_⟩⟩
  · rw [Lib.toList_data]
    show (Lib.trimB x.data.toList 0).isEmpty = _
    unfold Lib.trimB Lib.trimRightB Lib.trimLeftB
    cases hz : Hol.zeros x.data.toList with
    | true =>
      rw [show x.data.toList.reverse.dropWhile (· == (0 : UInt8)) = [] from dropZ _ (by rw [zeros_rev]; exact hz)]; rfl
    | false =>
      obtain ⟨c, r, e, hc⟩ := dropN x.data.toList.reverse (by rw [zeros_rev]; exact hz)
      rw [e, List.reverse_cons]
      have hne : Hol.zeros (r.reverse ++ [c]) = false := by
        unfold Hol.zeros; rw [List.all_append]; simp [hc]
      obtain ⟨c2, r2, e2, _⟩ := dropN _ hne
      rw [e2]; rfl
  · rcases hw with rfl | rfl
    · exact Below.refl _ _
    · exact (Below.refl _ _).drew

theorem HasP.form {w : World} {B : Nat} {v : Value} {l : List Hol.Pc} (h : HasP w B v l) : ∃ X cap, v = .slice X l.length cap ∧ (X = none → l = []) := by
  obtain ⟨_, hw⟩ := h
  rcases hw with ⟨rfl, h0⟩ | ⟨g, cap, cur, rfl, _⟩
  · exact ⟨none, 0, by rw [h0], fun _ => List.length_eq_zero_iff.1 h0⟩
  · exact ⟨some ⟨g, 0, none⟩, cap, rfl, fun e => by cases e⟩

theorem HasP.pushed {w7 : World} {B Ln A n : Nat} {v' : Value} {r : List Hol.Pc} (h : w7.ownsRow B 36 2 v' (Ln + 1) (pcCells r.reverse ++ [.int .i64 (A : Int), .int .i64 (n : Int)])) (hL : Ln = r.length) : HasP w7 B v' ((A, n) :: r).reverse := by
  unfold HasP
  rw [List.reverse_cons, pcCells_snoc, List.length_append, List.length_reverse, ← hL]
  exact h
theorem HasP.row {w : World} {B Ln : Nat} {v : Value} {r : List Hol.Pc} (h : HasP w B v r.reverse) (hL : Ln = r.length) : w.ownsRow B 36 2 v Ln (pcCells r.reverse) := by
  unfold HasP at h
  rw [List.length_reverse, ← hL] at h
  exact h
theorem new_two (w : World) (t : TypeId) (x y : Value) : ∀ j u, ([x, y] : List Value)[j]? = some u → (w.alloc (.cells #[x, y] t)).cell? ((⟨w.heap.size, 0, none⟩ : Addr).add j) = some u := by
  intro j u hu
  have hplain : (⟨w.heap.size, 0, none⟩ : Addr).add j = ⟨w.heap.size, j, none⟩ := by unfold Addr.add; split <;> simp_all
  rw [hplain, (Blk.new w t #[x, y]).cell j]
  rcases j with _ | _ | j
  · exact hu
  · exact hu
  · simp at hu

set_option maxRecDepth 100000 in
set_option maxHeartbeats 2000000 in
theorem find_walk (s : ByteArray) (st0 st : Nat) (w : World) (hs : s.size ≤ 1000) (h1 : 1 ≤ st0) (h2 : st0 ≤ 1000) (hst : st = min st0 (max s.size 1)) :
    Calls Tryd.prog 8 #[.string s, .int .i64 st0] w (FindPost w (Hol.find s.data.toList st)) := by
  have k1 : ¬ (st0 : Int) < 1 := by omega
  have hst1 : 1 ≤ st := by omega
  have hst2 : st ≤ 1000 := by omega
  obtain ⟨qs, hqs⟩ : ∃ qs, qs = Hol.find s.data.toList st := ⟨_, rfl⟩
  rw [← hqs]
  obtain ⟨K, hK⟩ : ∃ K, K = Hol.rounds s.size st := ⟨_, rfl⟩
  have hKb := Hol.rounds_bd s.size st hst1
  rw [← hK] at hKb
  have hKi : (((s.size : Int) + st - 1).tdiv st) = K := by
    rw [hK]; unfold Hol.rounds
    have e : ((s.size : Int) + st - 1) = ((s.size + st - 1 : Nat) : Int) := by omega
    rw [e]; rfl
  have hmin : min (st0 : Int) (max (s.size : Int) 1) = st := by omega
  have hK2 : (K : Int) ≤ 1000 := by
    by_cases h : K = 0
    · omega
    · have := hKb.2 (K - 1) (by omega)
      have := Nat.le_mul_of_pos_right (K - 1) hst1
      omega
  have HQS := Lib.hid hqs
  have HK := Lib.hid hK
  have HKB := Lib.hid hKb
  have HST := Lib.hid hst
  clear hqs hK hKb hst
  go_enter Tryd.func8, Tryd.ntmps8
  go_wp2_with fail
  go_loopg [6, 26] (K) (fun g ov iv wr => ∃ k : Nat, iv = .int .i64 k ∧ k ≤ K ∧ g + k = K ∧ Below w.heap.size w wr ∧ HasP wr w.heap.size ov (Hol.acc s.data.toList st k).reverse ∧ (Hol.acc s.data.toList st k).length ≤ k)
  case atStart => exact ⟨0, rfl, by omega, by omega, Below.refl _ _, World.ownsRow_nil _ _ _ _, by simp [Hol.acc]⟩
  case round =>
    obtain ⟨k, rfl, hk1, hg, hbw, hP, hln⟩ := hrel
    have Hg := Lib.hid hg
    have HW := Lib.hid hbw
    obtain ⟨X, cap, hX, hXn⟩ := hP.form
    obtain ⟨Ln, hLn⟩ : ∃ n, n = (Hol.acc s.data.toList st k).length := ⟨_, rfl⟩
    rw [List.length_reverse, ← hLn] at hX
    subst hX
    rw [← hLn] at hln
    have HP := Lib.hid hP
    have HX := Lib.hid hXn
    clear hg hbw hP hXn
    by_cases hk : k < K
    · have hk3 : (k : Int) < K := by omega
      have hat := HKB.out.2 k hk
      obtain ⟨A, hA⟩ : ∃ A, A = k * st := ⟨_, rfl⟩
      have hmul : (k : Int) * (st : Int) = A := by rw [hA]; exact (Int.natCast_mul k st).symm
      rw [← hA] at hat
      obtain ⟨E, hE⟩ : ∃ E, E = min (A + st) s.size := ⟨_, rfl⟩
      have hmin2 : min ((A : Int) + (st : Int)) (s.size : Int) = E := by omega
      have hb1 : A < E := by omega
      have hb2 : E ≤ s.size := by omega
      have hbk : (s.extract A E).data.toList = Hol.blk s.data.toList st k := by
        rw [ext_list]
        unfold Hol.blk
        rw [← hA, List.drop_take]
        apply List.ext_getElem?
        intro j
        simp only [List.getElem?_take]
        split <;> split <;> first | rfl | (exfalso; omega) | skip
        rw [List.getElem?_drop, List.getElem?_eq_none (by rw [list_size]; omega)]
      have hes := ext_size s A E hb2
      obtain ⟨T, hT, rT⟩ := trim_named (s.extract A E) (by omega)
      rw [hbk] at hT
      have hbl : (Hol.blk s.data.toList st k).length = E - A := by rw [← hbk, list_size, hes]
      have hacc : Hol.acc s.data.toList st (k + 1) = if Hol.zeros (Hol.blk s.data.toList st k) then Hol.acc s.data.toList st k else Hol.push (Hol.acc s.data.toList st k) A (E - A) := by
        rw [← hbl, hA]; rfl
      have hesz : ((s.extract A E).size : Int) = ((E - A : Nat) : Int) := by rw [hes]
      have HACC := Lib.hid hacc
      have RT := Lib.hid rT
      have HES := Lib.hid hes
      have hst5 : (A : Int) ≤ 1000 := by omega
      have hE5 : (E : Int) ≤ 1000 := by omega
      have hAE : (A : Int) < (E : Int) := by omega
      have hES2 : (E : Int) ≤ s.size := by omega
      obtain ⟨r, hr⟩ : ∃ r, r = Hol.acc s.data.toList st k := ⟨_, rfl⟩
      rw [← hr] at HP HX HACC hLn
      have HLN := Lib.hid hLn
      have HACCR := Lib.hid hr
      have HAK : Hid (min A s.data.toList.length = min (k * st) s.data.toList.length) := by show _ = _; rw [hA]
      clear hacc rT hE hbk hbl hat hr hesz hLn
      by_cases hz : Hol.zeros (Hol.blk s.data.toList st k) = true
      · rw [hz] at hT
        have hr2 : Hol.acc s.data.toList st (k + 1) = r := by rw [HACC.out, if_pos hz]
        have HR2 := Lib.hid hr2
        clear hr2 hz hA hes
        go_wp2_with fail
        refine (RT.out _).mono ?_
        rintro e w2 ⟨rfl, h2⟩
        have B2 := Lib.hid h2
        clear h2
        go_wp2_with fail
        go_roundg (K - (k + 1))
        case measure => have := Hg.out; omega
        case rel => exact ⟨k + 1, by go_num, by omega, by omega, HW.out.trans (B2.out.mono HW.out.size), by rw [HR2.out]; exact HasP.later HP.out B2.out, by rw [HR2.out, ← HLN.out]; omega⟩
      · have hz' : Hol.zeros (Hol.blk s.data.toList st k) = false := by simpa using hz
        rw [hz'] at hT
        have hr2 : Hol.acc s.data.toList st (k + 1) = Hol.push r A (E - A) := by rw [HACC.out, if_neg hz]
        have HR2 := Lib.hid hr2
        clear hr2 hz hz' hA
        have hord := Hol.acc_ord s.data.toList st hst1 k (by rw [list_size, ← HK.out]; omega)
        rw [← HACCR.out, ← HAK.out, Nat.min_eq_left (by rw [list_size]; omega)] at hord
        obtain ⟨i0, i1, i2, i3, i4⟩ := info_parts infoPc
        have hz := zeroPc
        obtain ⟨r0, hr0⟩ : ∃ r0, r0 = r := ⟨_, rfl⟩
        have hways : (r = [] ∧ Ln = 0) ∨ ∃ b c M r', r = (b, c) :: r' ∧ Ln = M + 1 ∧ M = r'.length ∧ b + c ≤ A := by
          cases r with
          | nil => exact .inl ⟨rfl, HLN.out⟩
          | cons p r' =>
            obtain ⟨b, c⟩ := p
            exact .inr ⟨b, c, r'.length, r', rfl, HLN.out, rfl, by have := hord.2.1; omega⟩
        clear hord
        rcases hways with ⟨hr1, hL0⟩ | ⟨b, c, M, r', hr1, hLM, hM, hbc⟩
        · have hpu : Hol.push r A (E - A) = (A, E - A) :: r0 := by rw [hr0, hr1]; rfl
          have HPU := Lib.hid hpu
          subst hL0
          subst hr0
          clear hpu hr1
          go_wp2_with fail
          refine (RT.out _).mono ?_
          rintro e w2 ⟨rfl, h2⟩
          have HOWN := Lib.hid (HasP.later HP.out h2)
          have HB2 := Lib.hid (HW.out.trans (h2.mono HW.out.size))
          clear h2
          go_wp2_with fail
          go_quiet (fail)
          go_wp2_with (first
            | (at_builtin; refine wpList_append_own _ rfl (.tmp 76) (.tmp 81) 24 rfl w.heap.size 36 i0 _ 2 16 Tryd.underlying24 i1 i2 i3 i4 rfl (by decide) (.slice X 0 cap) 0 (pcCells r0.reverse) rfl (((HOWN.out.drewN nq).row HLN.out).alloc _) ⟨w2.heap.size, 0, none⟩ 1 1 [.int .i64 (A : Int), .int .i64 ((E - A : Nat) : Int)] rfl rfl (new_two (w2.drewN nq) _ _ _) (by intro u hu; simp at hu; rcases hu with rfl | rfl <;> rfl) (by unfold maxLen; omega) (by omega) (by have := HB2.out.size; simp; omega) ?_; intro v' w7 hown' hgrow _))
          have HP7 := Lib.hid (HasP.pushed hown' HLN.out)
          have HB7 := Lib.hid (((below_drewN HB2.out nq).alloc (by have := HB2.out.size; simpa using this) (.cells #[.int .i64 (A : Int), .int .i64 ((E - A : Nat) : Int)] 36)).grown hgrow (by have := HB2.out.size; simp; omega) (fun q hq => (World.ownsRow.lt ((HOWN.out.drewN nq).row HLN.out) q hq).1))
          clear hown' hgrow
          go_wp2_with fail
          go_roundg (K - (k + 1))
          case measure => have := Hg.out; omega
          case rel => exact ⟨k + 1, by go_num, by omega, by omega, HB7.out, by rw [HR2.out, HPU.out]; exact HP7.out, by rw [HR2.out, HPU.out, List.length_cons, ← HLN.out]; omega⟩
        · subst hLM
          obtain ⟨g, cap', hv, hgB, hgs, hcs⟩ : ∃ g cap', Value.slice X (M + 1) cap = .slice (some ⟨g, 0, none⟩) (M + 1) cap' ∧ w.heap.size ≤ g ∧ g < wr.heap.size ∧ wr.cell? ⟨g, M * 2, none⟩ = some (.int .i64 (b : Int)) ∧ wr.cell? ⟨g, M * 2 + 1, none⟩ = some (.int .i64 (c : Int)) := by
            rcases HP.out.ways with ⟨_, h0⟩ | ⟨g, cap', hv, h1, h2, h3⟩
            · rw [hr1] at h0; simp at h0
            · have hl : r.reverse.length = M + 1 := by rw [List.length_reverse]; exact HLN.out.symm
              rw [hl] at hv
              have hlt : M < r.reverse.length := by omega
              have hj := h3 M hlt
              have hel : r.reverse[M] = (b, c) := by
                have : r.reverse[M]? = some (b, c) := by rw [hr1, List.reverse_cons, List.getElem?_append_right (by rw [List.length_reverse]; omega), List.length_reverse, hM, Nat.sub_self]; rfl
                rw [List.getElem?_eq_getElem hlt] at this
                exact Option.some.inj this
              rw [hel] at hj
              exact ⟨g, cap', hv, h1, h2, hj⟩
          obtain ⟨rfl, rfl⟩ : X = some ⟨g, 0, none⟩ ∧ cap = cap' := by cases hv; exact ⟨rfl, rfl⟩
          obtain ⟨c3, c4⟩ := hcs
          have ew1 : IntKind.i64.wrap ((M : Int) + 1 - 1) = M := by rw [IntWalk.i64_in _ (by omega)]; omega
          have ew3 : IntKind.i64.wrap (M : Int) = M := IntWalk.i64_in _ (by omega)
          have ew2 : IntKind.i64.wrap ((b : Int) + (c : Int)) = (b : Int) + (c : Int) := IntWalk.i64_in _ (by omega)
          have C3 := Lib.hid c3
          have C4 := Lib.hid c4
          clear c3 c4 hv
          by_cases heq : b + c = A
          · have hbq : (((b : Int) + (c : Int)) == (A : Int)) = true := by simp; omega
            have hpu : Hol.push r A (E - A) = (b, c + (E - A)) :: r' := by rw [hr1, Hol.push_cons, if_pos heq]
            have HPU := Lib.hid hpu
            have HM := Lib.hid hM
            have HR1 := Lib.hid hr1
            have HQ := Lib.hid heq
            clear hpu hM hr1 hr0 heq
            go_wp2_with fail
            refine (RT.out _).mono ?_
            rintro e w2 ⟨rfl, h2⟩
            have HOWN := Lib.hid (HasP.later HP.out h2)
            have HB2 := Lib.hid (HW.out.trans (h2.mono HW.out.size))
            have c3 := (h2.cell (p := ⟨g, M * 2, none⟩) hgs).trans C3.out
            have c4 := (h2.cell (p := ⟨g, M * 2 + 1, none⟩) hgs).trans C4.out
            have f4 := HasP.frozen HOWN.out (M * 2 + 1)
            clear h2
            go_wp2_with fail
            go_quiet (fail)
            go_wp2_with fail
            go_roundg (K - (k + 1))
            case measure => have := Hg.out; omega
            case rel =>
              refine ⟨k + 1, by go_num, by omega, by omega, (below_drewN HB2.out _).setCell hgB _, ?_, by rw [HR2.out, HPU.out, List.length_cons, ← HM.out]; omega⟩
              rw [HR2.out, HPU.out, List.reverse_cons]
              have h := HOWN.out.drewN nq
              rw [HR1.out, List.reverse_cons] at h
              have hMl : M = r'.reverse.length := by rw [List.length_reverse]; exact HM.out
              rw [hMl] at h ⊢
              have h2 := HasP.grow h (c + (E - A))
              have ec : ((c + (E - A) : Nat) : Int) = (c : Int) + ((E - A : Nat) : Int) := by omega
              rw [ec] at h2
              exact h2
          · have hbq : (((b : Int) + (c : Int)) == (A : Int)) = false := by simp; omega
            have hpu : Hol.push r A (E - A) = (A, E - A) :: r0 := by rw [hr0, hr1, Hol.push_cons, if_neg heq]
            have HPU := Lib.hid hpu
            subst hr0
            have HM := Lib.hid hM
            have HQ := Lib.hid heq
            clear hpu hM hr1 heq
            go_wp2_with fail
            refine (RT.out _).mono ?_
            rintro e w2 ⟨rfl, h2⟩
            have HOWN := Lib.hid (HasP.later HP.out h2)
            have HB2 := Lib.hid (HW.out.trans (h2.mono HW.out.size))
            have c3 := (h2.cell (p := ⟨g, M * 2, none⟩) hgs).trans C3.out
            have c4 := (h2.cell (p := ⟨g, M * 2 + 1, none⟩) hgs).trans C4.out
            clear h2
            go_wp2_with fail
            go_quiet (fail)
            go_wp2_with (first
              | (at_builtin; refine wpList_append_own _ rfl (.tmp 76) (.tmp 81) 24 rfl w.heap.size 36 i0 _ 2 16 Tryd.underlying24 i1 i2 i3 i4 rfl (by decide) (.slice (some ⟨g, 0, none⟩) (M + 1) cap) (M + 1) (pcCells r0.reverse) rfl (((HOWN.out.drewN nq).row HLN.out).alloc _) ⟨w2.heap.size, 0, none⟩ 1 1 [.int .i64 (A : Int), .int .i64 ((E - A : Nat) : Int)] rfl rfl (new_two (w2.drewN nq) _ _ _) (by intro u hu; simp at hu; rcases hu with rfl | rfl <;> rfl) (by unfold maxLen; omega) (by omega) (by have := HB2.out.size; simp; omega) ?_; intro v' w7 hown' hgrow _))
            have HP7 := Lib.hid (HasP.pushed hown' HLN.out)
            have HB7 := Lib.hid (((below_drewN HB2.out nq).alloc (by have := HB2.out.size; simpa using this) (.cells #[.int .i64 (A : Int), .int .i64 ((E - A : Nat) : Int)] 36)).grown hgrow (by have := HB2.out.size; simp; omega) (fun q hq => (World.ownsRow.lt ((HOWN.out.drewN nq).row HLN.out) q hq).1))
            clear hown' hgrow
            go_wp2_with fail
            go_roundg (K - (k + 1))
            case measure => have := Hg.out; omega
            case rel => exact ⟨k + 1, by go_num, by omega, by omega, HB7.out, by rw [HR2.out, HPU.out]; exact HP7.out, by rw [HR2.out, HPU.out, List.length_cons, ← HLN.out]; omega⟩
    · have hk3 : (K : Int) ≤ k := by omega
      have hkK : k = K := by omega
      subst hkK
      have hfin : (Hol.acc s.data.toList st k).reverse = qs := by rw [HQS.out]; unfold Hol.find; rw [list_size, ← HK.out]
      rw [hfin] at HP
      have hll : Ln = qs.length := by rw [hLn, ← hfin, List.length_reverse]
      have HLL := Lib.hid hll
      clear hfin hLn hll HX
      by_cases h20 : 20 < Ln
      · have h20' : (20 : Int) < Ln := by omega
        have hp : ∀ e w', FindPost w qs e w' ↔ (e = .returned (.tuple #[.slice none 0 0, .iface 39 (.int .i64 4)]) ∧ Below w.heap.size w w') := fun e w' => by unfold FindPost; rw [if_pos (by rw [← HLL.out]; exact h20)]
        have HPP := Lib.hid hp
        clear hp h20
        go_wp2_with fail
        go_ret2
        exact (HPP.out _ _).2 ⟨rfl, HW.out⟩
      · have h20' : ¬ (20 : Int) < Ln := by omega
        have hp : ∀ e w', (∃ v, e = .returned (.tuple #[v, .nilIface]) ∧ HasP w' w.heap.size v qs ∧ Below w.heap.size w w') → FindPost w qs e w' := fun e w' h => by unfold FindPost; rw [if_neg (by rw [← HLL.out]; exact h20)]; exact h
        have HPP := Lib.hid hp
        clear hp h20
        go_wp2_with fail
        go_ret2
        exact HPP.out _ _ ⟨_, rfl, HP.out, HW.out⟩

end Go.Proofs.YtjlglmfogldbkaaDoor
