/-
  (*reader).member: a member without holes.
-/
import Derived.Test.YtkhkjacnoiopcaaGreatDoorZbe
import Derived.Test.YtkhkjacnoiopcaaGreatDoorZay
import Derived.Test.YtkhkjacnoiopcaaGreatDoorZba
import Derived.Test.YtkhkjacnoiopcaaGreatDoorZbb
import Derived.Test.YtkhkjacnoiopcaaGreatDoorZbc
import Derived.Test.YtkhkjacnoiopcaaGreatDoorZbd
import Derived.Deep.RegionHeld3
import Derived.Deep.RegionWith
import Derived.Deep.DeepCutAuto
set_option linter.unusedVariables false
set_option linter.unusedSimpArgs false

set_option linter.unusedVariables false
set_option linter.unusedSimpArgs false
namespace Go.Proofs.YtkhkjacnoiopcaaGreatDoor
open Go.RowKit Tre Pk

theorem trimS_le (l : Bl) : (trimS l).length ≤ l.length := by
  unfold trimS
  rw [List.length_reverse]
  have h := (List.dropWhile_sublist (l := l.reverse) (· == 47)).length_le
  rwa [List.length_reverse] at h
theorem settled_bounds (e : Ent) (hk : e.kind ≤ 255) (hz : e.size ≤ 9223372036854775807) : (settledP e).kind ≤ 255 ∧ (settledP e).data.length ≤ e.data.length ∧ (settledP e).size ≤ 9223372036854775807 ∧ (settledP e).name.length ≤ e.name.length := by
  unfold settledP
  refine ⟨?_, ?_, ?_, ?_⟩
  · show kindS e ≤ 255
    unfold kindS
    split <;> omega
  · show (if kindS e = 48 then e.data else []).length ≤ _
    split <;> simp
  · show (if kindS e = 48 then e.size else 0) ≤ _
    split <;> omega
  · show (if kindS e = 53 then trimS e.name else e.name).length ≤ _
    split
    · exact trimS_le _
    · exact Nat.le_refl _
theorem bytesP_len {s t : Bl} {a : Nat} {n : Int} (h : bytesP s a n = some t) : t.length ≤ s.length := by
  unfold bytesP at h
  split at h
  · cases h
    unfold fld
    rw [List.length_take, List.length_drop]
    omega
  · cases h
theorem sz_small {a : Int} {z : Nat} (h1 : a ≤ 14240) (h2 : a = z) : z ≤ 1000000000 := by omega
theorem ne_up {P E W1 : Nat} (h1 : W1 ≤ E) (h2 : P + 1 < W1) : E ≠ P + 1 := by omega
theorem RdAt.keepE {W W' : World} {R E : Nat} {s : Bl} {st : Rd} {ov gv : Value} (h : RdAt W R s st ov gv) (k : KeepE E W.heap.size W W') (hE : R ≠ E) (ho : offE E ov) (hg : offE E gv) : RdAt W' R s st ov gv :=
  ⟨h.blk.keepE k h.blk.lt hE, h.own.keep k ho, h.glob.keep k hg, h.ooff, h.goff⟩

set_option maxRecDepth 100000 in
set_option maxHeartbeats 16000000 in
theorem member_any {W : World} {R : Nat} {s : Bl} {st : Rd} {ov gv : Value} (h : RdAt W R s st ov gv) (r : HRaw) (hEnv : PxEnv W) (hfn : r.name.length ≤ 1000000 ∧ r.front.length ≤ 1000000) (hs : s.length ≤ 100000000) (hgo : st.glob.length + st.own.length ≤ 100000)
    {e1 : Ent} {data : Bl} (hap : applyP (recsP st) (firstE st r) = some e1) (hk83 : e1.kind ≠ 83) (hmap : e1.map = []) (hnl1 : e1.name.length ≤ 1000000) (hlim : r.size ≤ 14240) (hby : bytesP s (st.off + 512) r.size = some data)
    (hnol : ¬ (e1.kind = 48 ∧ (Px.getV (recsP st) kMajor).1 = [49])) (hk8 : e1.kind ≤ 255) (hz8 : e1.size ≤ 9223372036854775807) :
    Calls Tryz.prog 46 #[.pointer (some ⟨R, 0, none⟩), rv r] W fun x w' => ((rightE (settledP { e1 with data := data }) = true ∧ x = .returned (.tuple #[ev (settledP { e1 with data := data }) (.slice none 0 0), .int .i64 (((st.off + 512 : Nat) : Int) + r.size + (Bk.pad r.size.toNat : Nat)), .nilIface])) ∨ (rightE (settledP { e1 with data := data }) = false ∧ x = .returned (.tuple #[.agg #[.string ⟨#[]⟩, .int .u8 0, .int .i64 0, .int .i64 0, .int .i64 0, .int .i64 0, .int .i64 0, .int .i64 0, .string ⟨#[]⟩, .string ⟨#[]⟩, .string ⟨#[]⟩, .int .i64 0, .int .i64 0, .string ⟨#[]⟩, .slice none 0 0], .int .i64 0, .iface 63 (.int .i64 1)]))) ∧ Below W.heap.size W w' := by
  obtain ⟨e3, he3⟩ : ∃ e3, e3 = settledP { e1 with data := data } := ⟨_, rfl⟩
  rw [← he3]
  obtain ⟨b1, b2, b3, b4⟩ := settled_bounds { e1 with data := data } hk8 hz8
  have b5 := bytesP_len hby
  rw [← he3] at b1 b2 b3 b4
  simp only at b2 b4
  have HE3 := Lib.hid he3
  obtain ⟨RE3, hRE3⟩ : ∃ b, b = rightE e3 := ⟨_, rfl⟩
  rw [← hRE3]
  have HRE := Lib.hid hRE3
  have HBY := Lib.hid hby
  have HAP := Lib.hid hap
  have HNO := Lib.hid hnol
  have hsz0 : 0 ≤ r.size ∧ ((st.off + 512 : Nat) : Int) + r.size + Bk.pad r.size.toNat ≤ s.length := by
    unfold bytesP at hby
    split at hby
    · assumption
    · cases hby
  have h3map : e3.map = [] := by rw [he3]; unfold settledP; simp only [hmap]; split <;> rfl
  obtain ⟨FIN, hFIN⟩ : ∃ FIN : Int, FIN = ((st.off + 512 : Nat) : Int) + r.size + (Bk.pad r.size.toNat : Nat) := ⟨_, rfl⟩
  rw [← hFIN]
  have hpl := Bk.pad_lt r.size.toNat
  obtain ⟨NX, hNX⟩ : ∃ NX : Int, NX = ((st.off + 512 : Nat) : Int) := ⟨_, rfl⟩
  obtain ⟨PDN, hPDN⟩ : ∃ PDN : Int, PDN = (Bk.pad r.size.toNat : Int) := ⟨_, rfl⟩
  have J1 := Lib.hid (show IntKind.i64.wrap ((st.off : Int) + 512) = NX from (IntWalk.i64_in _ (by omega)).trans (by omega))
  have J2 := Lib.hid (show IntKind.i64.wrap (NX + r.size) = NX + r.size from IntWalk.i64_in _ (by omega))
  have J3 := Lib.hid (show IntKind.i64.wrap (NX + r.size + PDN) = FIN from (IntWalk.i64_in _ (by omega)).trans (by omega))
  have HNX := Lib.hid hNX
  have HPDN := Lib.hid hPDN
  clear hNX hPDN hFIN
  clear he3 hby hap hnol hRE3
  obtain ⟨Xo, co, hov⟩ := h.own.form
  obtain ⟨Xg, cg, hgv⟩ := h.glob.form
  subst hov hgv
  have FUC := Lib.hid (fun w => full_is r hfn.1 hfn.2 w)
  obtain ⟨FN, hFN⟩ : ∃ FN, FN = fullR r := ⟨_, rfl⟩
  rw [← hFN] at FUC
  have HFN := Lib.hid hFN
  have H := Lib.hid h
  have ltR := h.blk.lt
  obtain ⟨a0, a1, a2, a3, a4, a5, a6, a7, a8, a9, a10, a11, a12⟩ := r
  unfold rv at FUC
  unfold rv
  simp only at FUC
  simp only at hsz0 hlim HBY HAP hpl J2 J3 HPDN
  clear hFN h hfn
  obtain ⟨W1, hW1⟩ : ∃ W1, W1 = (W.alloc (.cells #[.string (bs a0), .string (bs a1), .string (bs a2), .string (bs a3), .string (bs a4), .int .u8 a5.toNat, .int .i64 a6, .int .i64 a7, .int .i64 a8, .int .i64 a9, .int .i64 a10, .int .i64 a11, .int .i64 a12] 72)).alloc (.cells #[.string ⟨#[]⟩, .int .u8 0, .int .i64 0, .int .i64 0, .int .i64 0, .int .i64 0, .int .i64 0, .int .i64 0, .string ⟨#[]⟩, .string ⟨#[]⟩, .string ⟨#[]⟩, .int .i64 0, .int .i64 0, .string ⟨#[]⟩, .slice none 0 0] 26) := ⟨_, rfl⟩
  have HB1 := Lib.hid (show Below W.heap.size W W1 by rw [hW1]; exact ((Below.refl _ _).alloc (Nat.le_refl _) _).alloc (by simp) _)
  have KP := Lib.hid (show Blk W1 W.heap.size 72 #[.string (bs a0), .string (bs a1), .string (bs a2), .string (bs a3), .string (bs a4), .int .u8 a5.toNat, .int .i64 a6, .int .i64 a7, .int .i64 a8, .int .i64 a9, .int .i64 a10, .int .i64 a11, .int .i64 a12] by rw [hW1]; exact (Blk.new W 72 _).alloc _)
  have KQ := Lib.hid (show Blk W1 (W.heap.size + 1) 26 #[.string ⟨#[]⟩, .int .u8 0, .int .i64 0, .int .i64 0, .int .i64 0, .int .i64 0, .int .i64 0, .int .i64 0, .string ⟨#[]⟩, .string ⟨#[]⟩, .string ⟨#[]⟩, .int .i64 0, .int .i64 0, .string ⟨#[]⟩, .slice none 0 0] by
    have := Blk.new (W.alloc (.cells #[.string (bs a0), .string (bs a1), .string (bs a2), .string (bs a3), .string (bs a4), .int .u8 a5.toNat, .int .i64 a6, .int .i64 a7, .int .i64 a8, .int .i64 a9, .int .i64 a10, .int .i64 a11, .int .i64 a12] 72)) 26 #[.string ⟨#[]⟩, .int .u8 0, .int .i64 0, .int .i64 0, .int .i64 0, .int .i64 0, .int .i64 0, .int .i64 0, .string ⟨#[]⟩, .string ⟨#[]⟩, .string ⟨#[]⟩, .int .i64 0, .int .i64 0, .string ⟨#[]⟩, .slice none 0 0]
    rw [show (W.alloc (.cells #[.string (bs a0), .string (bs a1), .string (bs a2), .string (bs a3), .string (bs a4), .int .u8 a5.toNat, .int .i64 a6, .int .i64 a7, .int .i64 a8, .int .i64 a9, .int .i64 a10, .int .i64 a11, .int .i64 a12] 72)).heap.size = W.heap.size + 1 by simp] at this
    rw [hW1]; exact this)
  have HW1 := Lib.hid hW1
  clear hW1
  obtain ⟨P, hP⟩ : ∃ P, P = W.heap.size := ⟨_, rfl⟩
  rw [← hP] at KP KQ
  have HP := Lib.hid hP
  clear hP
  have ltP := KP.out.lt
  go_enter Tryz.func46, Tryz.ntmps46
  repeat' ((fail_if_success (with_reducible refine halt_at 1 ?_)); first | go_values | go_skip | go_guarded | go_step | go_upon | go_back | (simp only [Int.not_lt, Int.not_le] at *; go_simp) | (go_values <;> (try go_simp)) | (go_ite <;> go_prune <;> (try go_simp)) | (split <;> (first | (rename_i hx; exact (hx _ rfl).elim) | go_prune)))
  rw [← HW1.out, ← HP.out]
  go_cut [7] (fun s7 wx => ∃ E x, s7 = .pointer (some ⟨E, 0, none⟩) ∧ x = wx ∧ W1.heap.size ≤ E ∧ Hid (Blk x E 26 #[.string (bs FN), .int .u8 a5.toNat, .int .i64 a6, .int .i64 a7, .int .i64 a8, .int .i64 a9, .int .i64 a10, .int .i64 0, .string (bs a1), .string (bs a2), .string (bs a3), .int .i64 a11, .int .i64 a12, .string ⟨#[]⟩, .slice none 0 0]) ∧ Hid (Below W1.heap.size W1 x))
  case first =>
    refine mb_r1 KP FUC (by kernel_rfl) (fun _ _ _ _ _ h => h) (fun E x v18 v19 v20 v21 v22 v23 v24 v25 v26 v27 v28 v29 v30 v31 v32 v33 v34 v35 v36 v37 v38 v39 v40 v41 v42 v43 hEz hX hXb => ?_)
    go_wp2_with fail
    go_meet
    exact ⟨E, _, rfl, rfl, hEz, Lib.hid hX, Lib.hid hXb⟩
  case rest =>
    obtain ⟨E, x, rfl, rfl, hEz, HK, HB⟩ := hcut
    obtain ⟨K1, hK1⟩ : ∃ K1 : Nat, K1 = (if a5 = 55 then 48 else a5.toNat) := ⟨_, rfl⟩
    obtain ⟨N1, hN1⟩ : ∃ N1 : Bl, N1 = st.name.getD FN := ⟨_, rfl⟩
    obtain ⟨L1, hL1⟩ : ∃ L1 : Bl, L1 = st.link.getD a1 := ⟨_, rfl⟩
    have HK1 := Lib.hid hK1
    have HN1 := Lib.hid hN1
    have HL1 := Lib.hid hL1
    have hRP : R < P := by rw [HP.out]; exact ltR
    have hPW : P < W1.heap.size := ltP
    have hRE : ¬ R = E := by omega
    have hPE : ¬ P = E := by omega
    have RDA := Lib.hid (fun w' (hb : Below W1.heap.size W1 w') => (H.out.below HB1.out).below hb)
    clear hK1 hN1 hL1
    have lE := HK.out.lt
    have c1 : x.cell? ⟨E, 1, none⟩ = some (.int .u8 a5.toNat) := HK.out.cell 1
    have f1 := HK.out.frozen 1
    go_upto_if 46 with fail
    clear c1 f1
    go_cut [7] (fun s7 wx => ∃ y, s7 = .pointer (some ⟨E, 0, none⟩) ∧ y = wx ∧ Hid (Blk y E 26 #[.string (bs FN), .int .u8 (K1 : Nat), .int .i64 a6, .int .i64 a7, .int .i64 a8, .int .i64 a9, .int .i64 a10, .int .i64 0, .string (bs a1), .string (bs a2), .string (bs a3), .int .i64 a11, .int .i64 a12, .string ⟨#[]⟩, .slice none 0 0]) ∧ Hid (Below W1.heap.size W1 y))
    case first =>
      have c1 : x.cell? ⟨E, 1, none⟩ = some (.int .u8 a5.toNat) := HK.out.cell 1
      have f1 := HK.out.frozen 1
      by_cases h55 : a5 = 55
      · have q : ((a5.toNat : Int) == 55) = true := by rw [h55]; rfl
        have hk : K1 = 48 := by rw [HK1.out, if_pos h55]
        have HKK := Lib.hid hk
        clear h55 hk
        go_wp2_with fail
        go_meet
        refine ⟨_, rfl, rfl, ?_, Lib.hid (HB.out.setCell (p := ⟨E, 1, none⟩) hEz _)⟩
        rw [HKK.out]
        exact Lib.hid (HK.out.set_ 1 _)
      · have q : ((a5.toNat : Int) == 55) = false := by
          rw [beq_eq_false_iff_ne]
          intro e
          exact h55 (UInt8.toNat_inj.1 (by have : (55 : UInt8).toNat = 55 := rfl; omega))
        have hk : K1 = a5.toNat := by rw [HK1.out, if_neg h55]
        have HKK := Lib.hid hk
        clear h55 hk
        go_wp2_with fail
        go_meet
        refine ⟨_, rfl, rfl, ?_, HB⟩
        rw [HKK.out]
        exact HK
    case rest =>
    obtain ⟨y, rfl, rfl, HK2, HB2⟩ := hcut
    clear HK HB lE
    have KR := Lib.hid (RDA.out _ HB2.out).blk
    have lE := HK2.out.lt
    have lR := KR.out.lt
    have r2 : y.cell? ⟨R, 2, none⟩ = some (.string (bs (st.name.getD []))) := KR.out.cell 2
    have r3 : y.cell? ⟨R, 3, none⟩ = some (.bool st.name.isSome) := KR.out.cell 3
    have c0 : y.cell? ⟨E, 0, none⟩ = some (.string (bs FN)) := HK2.out.cell 0
    have f0 := HK2.out.frozen 0
    go_upto_if 52 with fail
    go_cut [7] (fun s7 wx => ∃ y, s7 = .pointer (some ⟨E, 0, none⟩) ∧ y = wx ∧ Hid (Blk y E 26 #[.string (bs N1), .int .u8 (K1 : Nat), .int .i64 a6, .int .i64 a7, .int .i64 a8, .int .i64 a9, .int .i64 a10, .int .i64 0, .string (bs a1), .string (bs a2), .string (bs a3), .int .i64 a11, .int .i64 a12, .string ⟨#[]⟩, .slice none 0 0]) ∧ Hid (Below W1.heap.size W1 y))
    case first =>
      cases hnm : st.name with
      | none =>
        rw [hnm] at r2 r3
        have hq : N1 = FN := by rw [HN1.out, hnm]; rfl
        have HQ := Lib.hid hq
        clear hq hnm
        have r3' : y.cell? ⟨R, 3, none⟩ = some (.bool false) := r3
        clear r3
        have rs : (none : Option Bl).isSome = false := rfl
        go_wp2_with fail
        go_meet
        refine ⟨_, rfl, rfl, ?_, HB2⟩
        rw [HQ.out]
        exact HK2
      | some nm =>
        rw [hnm] at r2 r3
        have hq : N1 = nm := by rw [HN1.out, hnm]; rfl
        have HQ := Lib.hid hq
        clear hq hnm
        have r2' : y.cell? ⟨R, 2, none⟩ = some (.string (bs nm)) := r2
        clear r2 r3
        have rs : (some nm).isSome = true := rfl
        go_wp2_with fail
        go_meet
        refine ⟨_, rfl, rfl, ?_, Lib.hid (HB2.out.setCell (p := ⟨E, 0, none⟩) hEz _)⟩
        rw [HQ.out]
        exact Lib.hid (HK2.out.set_ 0 _)
    case rest =>
    obtain ⟨z, rfl, rfl, HK3, HB3⟩ := hcut
    clear HK2 HB2 lE lR KR r2 r3 c0 f0
    have KR := Lib.hid (RDA.out _ HB3.out).blk
    have lE := HK3.out.lt
    have lR := KR.out.lt
    have r4 : z.cell? ⟨R, 4, none⟩ = some (.string (bs (st.link.getD []))) := KR.out.cell 4
    have r5 : z.cell? ⟨R, 5, none⟩ = some (.bool st.link.isSome) := KR.out.cell 5
    have c8 : z.cell? ⟨E, 8, none⟩ = some (.string (bs a1)) := HK3.out.cell 8
    have f8 := HK3.out.frozen 8
    go_upto_if 63 with fail
    go_cut [7] (fun s7 wx => ∃ y, s7 = .pointer (some ⟨E, 0, none⟩) ∧ y = wx ∧ Hid (Blk y E 26 #[.string (bs N1), .int .u8 (K1 : Nat), .int .i64 a6, .int .i64 a7, .int .i64 a8, .int .i64 a9, .int .i64 a10, .int .i64 0, .string (bs L1), .string (bs a2), .string (bs a3), .int .i64 a11, .int .i64 a12, .string ⟨#[]⟩, .slice none 0 0]) ∧ Hid (Below W1.heap.size W1 y))
    case first =>
      cases hnm : st.link with
      | none =>
        rw [hnm] at r4 r5
        have hq : L1 = a1 := by rw [HL1.out, hnm]; rfl
        have HQ := Lib.hid hq
        clear hq hnm
        have r5' : z.cell? ⟨R, 5, none⟩ = some (.bool false) := r5
        clear r5
        have rs : (none : Option Bl).isSome = false := rfl
        go_wp2_with fail
        go_meet
        refine ⟨_, rfl, rfl, ?_, HB3⟩
        rw [HQ.out]
        exact HK3
      | some nm =>
        rw [hnm] at r4 r5
        have hq : L1 = nm := by rw [HL1.out, hnm]; rfl
        have HQ := Lib.hid hq
        clear hq hnm
        have r4' : z.cell? ⟨R, 4, none⟩ = some (.string (bs nm)) := r4
        clear r4 r5
        have rs : (some nm).isSome = true := rfl
        go_wp2_with fail
        go_meet
        refine ⟨_, rfl, rfl, ?_, Lib.hid (HB3.out.setCell (p := ⟨E, 8, none⟩) hEz _)⟩
        rw [HQ.out]
        exact Lib.hid (HK3.out.set_ 8 _)
    case rest =>
    obtain ⟨u, rfl, rfl, HK4, HB4⟩ := hcut
    clear HK3 HB3 lE lR KR r4 r5 c8 f8
    have KRU := Lib.hid (RDA.out _ HB4.out)
    have lE := HK4.out.lt
    have lR := KRU.out.blk.lt
    repeat' ((fail_if_success (with_reducible refine halt_at 8 ?_)); first | go_values | go_skip | go_guarded | go_step | go_upon | go_back | (simp only [Int.not_lt, Int.not_le] at *; go_simp) | (go_values <;> (try go_simp)) | (go_ite <;> go_prune <;> (try go_simp)) | (split <;> (first | (rename_i hx; exact (hx _ rfl).elim) | go_prune)))
    go_cut [7, 8] (fun s7 s8 wx => ∃ y v, s7 = .pointer (some ⟨E, 0, none⟩) ∧ s8 = v ∧ y = wx ∧ Hid (Blk y E 26 #[.string (bs N1), .int .u8 (K1 : Nat), .int .i64 a6, .int .i64 a7, .int .i64 a8, .int .i64 a9, .int .i64 a10, .int .i64 0, .string (bs L1), .string (bs a2), .string (bs a3), .int .i64 a11, .int .i64 a12, .string ⟨#[]⟩, .slice none 0 0]) ∧ Hid (Below W1.heap.size W1 y) ∧ Hid (PairsIn y v (recsP st)) ∧ Hid (offE E v))
    case first =>
      refine mb_r8 (KRU.out.blk.cell 7) (KRU.out.blk.cell 6) lR (Lib.hid KRU.out.glob) (Lib.hid KRU.out.own) lE hgo (by kernel_rfl) (fun _ _ _ _ _ h => h) (fun y v v70 v71 v72 v73 v74 v75 v76 v77 v78 v79 hp ho hb => ?_)
      go_wp2_with fail
      go_meet
      exact ⟨_, _, rfl, rfl, rfl, Lib.hid (HK4.out.below hb lE), Lib.hid (HB4.out.trans (hb.mono HB4.out.size)), Lib.hid hp, Lib.hid ho⟩
    case rest =>
    obtain ⟨y, v, rfl, rfl, rfl, HK5, HB5, PV, OV⟩ := hcut
    clear HK4 HB4 lE lR KRU
    obtain ⟨ef, hef⟩ : ∃ ef : Ent, ef = ⟨N1, K1, a6, a7, a8, a9, a10, 0, L1, a2, a3, a11, a12, [], []⟩ := ⟨_, rfl⟩
    have hfe : firstE st ⟨a0, a1, a2, a3, a4, a5, a6, a7, a8, a9, a10, a11, a12⟩ = ef := by
      rw [hef, HN1.out, HK1.out, HL1.out, HFN.out]
      rfl
    have hk5 : Blk y E 26 (evc ef (.slice none 0 0)) := by rw [hef]; exact HK5.out
    have hap1 := HAP.out
    rw [hfe] at hap1
    have hPX : EnvB E y := ⟨W, hEnv, HB1.out.trans (HB5.out.mono HB1.out.size), Nat.le_trans HB1.out.size hEz⟩
    have APC := Lib.hid (apply_any hk5 PV.out OV.out hap1 hPX)
    have KRy := Lib.hid (RDA.out _ HB5.out).blk
    have KPy := Lib.hid (KP.out.below HB5.out ltP)
    have KQy := Lib.hid (KQ.out.below HB5.out KQ.out.lt)
    have hy5 := HB5.out.size
    clear hap1 hfe hk5 hPX HK5 hef
    obtain ⟨Xv, cv, hvv⟩ := PV.out.form
    subst hvv
    go_wp2_with fail
    refine APC.out.mono ?_
    rintro rr y2 ⟨rfl, hk, hE2⟩
    have KK := Lib.hid hk
    have KE2 := Lib.hid hE2
    have KR2 := Lib.hid (KRy.out.keepE hk KRy.out.lt hRE)
    have KP2 := Lib.hid (KPy.out.keepE hk KPy.out.lt hPE)
    have KQ2 := Lib.hid (KQy.out.keepE hk KQy.out.lt (by have := KQ.out.lt; omega))
    have PV2 := Lib.hid (PV.out.keep hk OV.out)
    have HB6 := Lib.hid ((KeepE.of HB5.out).trans (hk.mono hy5) |>.below hEz)
    clear hk hE2 KRy KPy KQy PV APC
    have hnil : e1.map = [] := hmap
    have c1 : y2.cell? ⟨E, 1, none⟩ = some (.int .u8 e1.kind) := KE2.out.cell 1
    have c13 : y2.cell? ⟨E, 13, none⟩ = some (.string (bs e1.data)) := KE2.out.cell 13
    have f13 := KE2.out.frozen 13
    have q1 : y2.cell? ⟨R, 1, none⟩ = some (.int .i64 st.off) := KR2.out.cell 1
    have p9 : y2.cell? ⟨P, 9, none⟩ = some (.int .i64 a9) := KP2.out.cell 9
    have lE := KE2.out.lt
    have lR := KR2.out.lt
    have lP := KP2.out.lt
    have j1 := J1.out
    have t83 : ((e1.kind : Int) == 83) = false := by rw [beq_eq_false_iff_ne]; omega
    have tlim : ¬ (14240 : Int) < a9 := by omega
    have tlim2 : decide ((14240 : Int) < a9) = false := decide_eq_false tlim
    have BYC := Lib.hid (bytes_at (W := y2) (R := R) (KR2.out.cell 0) (st.off + 512) a9 hs HBY.out)
    rw [← HNX.out] at BYC
    go_wp2_with fail
    refine BYC.out.mono ?_
    rintro rr y3 ⟨rfl, hy3⟩
    have HB7 := Lib.hid (HB6.out.trans (hy3.mono HB6.out.size))
    have KE3 := Lib.hid (KE2.out.below hy3 lE)
    have KP3 := Lib.hid (KP2.out.below hy3 lP)
    have KQ3 := Lib.hid (KQ2.out.below hy3 KQ2.out.lt)
    have PV3 := Lib.hid (PV2.out.below hy3)
    clear hy3 BYC PV2 KR2 KE2 KP2 KQ2 HB6 c1 c13 f13 q1 p9 lE lR lP j1 t83
    obtain ⟨y4, hy4⟩ : ∃ y4, y4 = y3.setCell ⟨E, 13, none⟩ (.string (bs data)) := ⟨_, rfl⟩
    have hk4 : KeepE E y3.heap.size y3 y4 := by rw [hy4]; exact (KeepE.refl E _ y3).set_ 13 _
    have KE4 := Lib.hid (show Blk y4 E 26 (evc { e1 with data := data } (.slice none 0 0)) by rw [hy4]; exact KE3.out.set_ 13 _)
    have KP4 := Lib.hid (KP3.out.keepE hk4 KP3.out.lt hPE)
    have KQ4 := Lib.hid (KQ3.out.keepE hk4 KQ3.out.lt (by have := KQ.out.lt; omega))
    have PV4 := Lib.hid (PV3.out.keep hk4 OV.out)
    have HB8 := Lib.hid (((KeepE.of HB7.out).trans (hk4.mono HB7.out.size)).below hEz)
    have HY4 := Lib.hid hy4
    have l3 := KE3.out.lt
    have g13 : y3.cell? ⟨E, 13, none⟩ = some (.string (bs e1.data)) := KE3.out.cell 13
    have h13 := KE3.out.frozen 13
    have GTC := Lib.hid (pxget_any _ _ (⟨#[71, 78, 85, 46, 115, 112, 97, 114, 115, 101, 46, 109, 97, 106, 111, 114]⟩ : ByteArray) y4 PV4.out)
    clear hk4 hy4
    repeat' ((fail_if_success (with_reducible refine halt_at 24 ?_)); first | go_values | go_skip | go_guarded | go_step | go_upon | go_back | (simp only [Int.not_lt, Int.not_le] at *; go_simp) | (go_values <;> (try go_simp)) | (go_ite <;> go_prune <;> (try go_simp)) | (split <;> (first | (rename_i hx; exact (hx _ rfl).elim) | go_prune)))
    rw [← HY4.out]
    clear g13 h13 l3 KE3 KP3 KQ3 PV3 HB7 HY4
    go_wp2_with fail
    refine GTC.out.mono ?_
    rintro rr y5 ⟨rfl, hy5'⟩
    have KE5 := Lib.hid (KE4.out.below hy5' KE4.out.lt)
    have KP5 := Lib.hid (KP4.out.below hy5' KP4.out.lt)
    have KQ5 := Lib.hid (KQ4.out.below hy5' KQ4.out.lt)
    have HB9 := Lib.hid (HB8.out.trans (hy5'.mono HB8.out.size))
    clear hy5' GTC KE4 KP4 KQ4 HB8 PV4
    obtain ⟨G, hG⟩ : ∃ G, G = (Px.getV (recsP st) (⟨#[71, 78, 85, 46, 115, 112, 97, 114, 115, 101, 46, 109, 97, 106, 111, 114]⟩ : ByteArray).data.toList).1 := ⟨_, rfl⟩
    rw [← hG]
    have HG := Lib.hid hG
    have lE := KE5.out.lt
    have lP := KP5.out.lt
    have c1 : y5.cell? ⟨E, 1, none⟩ = some (.int .u8 e1.kind) := KE5.out.cell 1
    clear hG
    repeat' ((fail_if_success (with_reducible refine halt_at 25 ?_)); first | go_values | go_skip | go_guarded | go_step | go_upon | go_back | (simp only [Int.not_lt, Int.not_le] at *; go_simp) | (go_values <;> (try go_simp)) | (go_ite <;> go_prune <;> (try go_simp)) | (split <;> (first | (rename_i hx; exact (hx _ rfl).elim) | go_prune)))
    go_cut [134] (fun s134 wx => s134 = .bool false ∧ wx = y5)
    case first =>
      by_cases h48 : e1.kind = 48
      · have t48 : ((e1.kind : Int) == 48) = true := by rw [h48]; rfl
        have tG : ((bs G).toList == [49]) = false := keyNe (fun e => HNO.out ⟨h48, by rw [← e, HG.out]; rfl⟩)
        clear h48
        go_wp2_with fail
        go_meet
        exact ⟨rfl, rfl⟩
      · have t48 : ((e1.kind : Int) == 48) = false := by rw [beq_eq_false_iff_ne]; omega
        clear h48
        go_wp2_with fail
        go_meet
        exact ⟨rfl, rfl⟩
    case rest =>
    obtain ⟨rfl, hwc⟩ := hcut
    rw [hwc]
    clear hwc
    have STC := Lib.hid (show ∀ w, Calls Tryz.prog 94 #[ev { e1 with data := data } (.slice none 0 0)] w fun r w' => r = .returned (ev e3 (.slice none 0 0)) ∧ Below w.heap.size w w' from fun w => (settled_any { e1 with data := data } (.slice none 0 0) ⟨none, 0, 0, rfl⟩ hnl1 w).mono (by
      rintro r w' ⟨⟨mv', h1, hmv⟩, hb⟩
      obtain rfl : mv' = .slice none 0 0 := by rcases hmv with ⟨h, _⟩ | ⟨h, _⟩ <;> exact h
      rw [← HE3.out] at h1
      exact ⟨h1, hb⟩))
    have h5 := HB9.out.size
    repeat' ((fail_if_success (with_reducible refine halt_at 29 ?_)); first | go_values | go_skip | go_guarded | go_step | go_upon | go_back | (simp only [Int.not_lt, Int.not_le] at *; go_simp) | (go_values <;> (try go_simp)) | (go_ite <;> go_prune <;> (try go_simp)) | (split <;> (first | (rename_i hx; exact (hx _ rfl).elim) | go_prune)))
    refine mb_r29 KE5 STC (by kernel_rfl) (fun y7 v141 v142 hX hkX => ?_)
    have KE7 := Lib.hid hX
    have KP7 := Lib.hid (KP5.out.keepE hkX KP5.out.lt hPE)
    have KQ7 := Lib.hid (KQ5.out.keepE hkX KQ5.out.lt (by have := KQ.out.lt; omega))
    have HB11 := Lib.hid (((KeepE.of HB9.out).step hkX h5).below hEz)
    clear hX hkX STC KE5 KP5 KQ5 HB9 lE lP h5
    repeat' ((fail_if_success (with_reducible refine halt_at 30 ?_)); first | go_values | go_skip | go_guarded | go_step | go_upon | go_back | (simp only [Int.not_lt, Int.not_le] at *; go_simp) | (go_values <;> (try go_simp)) | (go_ite <;> go_prune <;> (try go_simp)) | (split <;> (first | (rename_i hx; exact (hx _ rfl).elim) | go_prune)))
    have RIC := Lib.hid (memRight_any e3 (.slice none 0 0) y7 ⟨none, 0, by rw [h3map]; rfl, fun j hj => absurd hj (by rw [h3map]; simp)⟩ (by omega) (by omega) (by rw [h3map]; simp) (by omega) (by omega))
    rw [← HRE.out] at RIC
    refine mb_r30 KE7 RIC (by kernel_rfl) (fun y8 v143 v144 hy8 => ?_)
    have KE8 := Lib.hid (KE7.out.below hy8 KE7.out.lt)
    have KP8 := Lib.hid (KP7.out.below hy8 KP7.out.lt)
    have KQ8 := Lib.hid (KQ7.out.below hy8 KQ7.out.lt)
    have HB12 := Lib.hid (HB11.out.trans (hy8.mono HB11.out.size))
    clear hy8 RIC KE7 KP7 KQ7 HB11
    cases RE3
    case false =>
      repeat' ((fail_if_success (with_reducible refine halt_at 31 ?_)); first | go_values | go_skip | go_guarded | go_step | go_upon | go_back | (simp only [Int.not_lt, Int.not_le] at *; go_simp) | (go_values <;> (try go_simp)) | (go_ite <;> go_prune <;> (try go_simp)) | (split <;> (first | (rename_i hx; exact (hx _ rfl).elim) | go_prune)))
      refine mb_r31 KQ8 (by kernel_rfl) (fun X v146 v147 hX hkX => ?_)
      have hXb : Below W.heap.size W X := ((KeepE.of (HB1.out.trans (HB12.out.mono HB1.out.size)) : KeepE (P + 1) W.heap.size W y8).step hkX (HB1.out.trans (HB12.out.mono HB1.out.size)).size).below (by rw [HP.out]; omega)
      have t0 := hX.cell 0
      have t1 := hX.cell 1
      have t2 := hX.cell 2
      have t3 := hX.cell 3
      have t4 := hX.cell 4
      have t5 := hX.cell 5
      have t6 := hX.cell 6
      have t7 := hX.cell 7
      have t8 := hX.cell 8
      have t9 := hX.cell 9
      have t10 := hX.cell 10
      have t11 := hX.cell 11
      have t12 := hX.cell 12
      have t13 := hX.cell 13
      have t14 := hX.cell 14
      go_wp2_with fail
      try simp only [Exit.inBlock, Exit.then]
      refine bodyPost_ret (v := .tuple #[.agg #[.string ⟨#[]⟩, .int .u8 0, .int .i64 0, .int .i64 0, .int .i64 0, .int .i64 0, .int .i64 0, .int .i64 0, .string ⟨#[]⟩, .string ⟨#[]⟩, .string ⟨#[]⟩, .int .i64 0, .int .i64 0, .string ⟨#[]⟩, .slice none 0 0], .int .i64 0, .iface 63 (.int .i64 1)]) ?_ rfl (by first | exact ⟨.inr ⟨rfl, rfl⟩, hXb⟩ | exact ⟨rfl, hXb⟩)
      simp [results, Tryz.results46, go_sem, t0, t1, t2, t3, t4, t5, t6, t7, t8, t9, t10, t11, t12, t13, t14]
    case true =>
    go_wp2_with fail
    obtain ⟨sz, hsz⟩ := Int.eq_ofNat_of_zero_le hsz0.1
    have PDC := Lib.hid (fun w => pad_any sz (sz_small hlim hsz) w)
    have hPD2 : (Bk.pad sz : Int) = PDN := by rw [HPDN.out, hsz, Int.toNat_natCast]
    rw [← hsz, hPD2] at PDC
    have j2 := J2.out
    have j3 := J3.out
    refine mb_r32 KE8 KP8 KQ8 (ne_up hEz KQ.out.lt) PDC j2 j3 (by kernel_rfl) (fun _ _ _ _ _ h => h) (fun X v148 v149 v150 v151 v152 v153 v154 v155 v156 hX hkX => ?_)
    have hXb : Below W.heap.size W X := ((KeepE.of (HB1.out.trans (HB12.out.mono HB1.out.size)) : KeepE (P + 1) W.heap.size W y8).step hkX (HB1.out.trans (HB12.out.mono HB1.out.size)).size).below (by rw [HP.out]; omega)
    have t0 : X.cell? ⟨P + 1, 0, none⟩ = some (.string (bs e3.name)) := hX.cell 0
    have t1 : X.cell? ⟨P + 1, 1, none⟩ = some (.int .u8 e3.kind) := hX.cell 1
    have t2 : X.cell? ⟨P + 1, 2, none⟩ = some (.int .i64 e3.mode) := hX.cell 2
    have t3 : X.cell? ⟨P + 1, 3, none⟩ = some (.int .i64 e3.uid) := hX.cell 3
    have t4 : X.cell? ⟨P + 1, 4, none⟩ = some (.int .i64 e3.gid) := hX.cell 4
    have t5 : X.cell? ⟨P + 1, 5, none⟩ = some (.int .i64 e3.size) := hX.cell 5
    have t6 : X.cell? ⟨P + 1, 6, none⟩ = some (.int .i64 e3.sec) := hX.cell 6
    have t7 : X.cell? ⟨P + 1, 7, none⟩ = some (.int .i64 e3.nano) := hX.cell 7
    have t8 : X.cell? ⟨P + 1, 8, none⟩ = some (.string (bs e3.link)) := hX.cell 8
    have t9 : X.cell? ⟨P + 1, 9, none⟩ = some (.string (bs e3.user)) := hX.cell 9
    have t10 : X.cell? ⟨P + 1, 10, none⟩ = some (.string (bs e3.group)) := hX.cell 10
    have t11 : X.cell? ⟨P + 1, 11, none⟩ = some (.int .i64 e3.major) := hX.cell 11
    have t12 : X.cell? ⟨P + 1, 12, none⟩ = some (.int .i64 e3.minor) := hX.cell 12
    have t13 : X.cell? ⟨P + 1, 13, none⟩ = some (.string (bs e3.data)) := hX.cell 13
    have t14 : X.cell? ⟨P + 1, 14, none⟩ = some (.slice none 0 0) := hX.cell 14
    go_wp2_with fail
    try simp only [Exit.inBlock, Exit.then]
    refine bodyPost_ret (v := .tuple #[.agg #[.string (bs e3.name), .int .u8 e3.kind, .int .i64 e3.mode, .int .i64 e3.uid, .int .i64 e3.gid, .int .i64 e3.size, .int .i64 e3.sec, .int .i64 e3.nano, .string (bs e3.link), .string (bs e3.user), .string (bs e3.group), .int .i64 e3.major, .int .i64 e3.minor, .string (bs e3.data), .slice none 0 0], .int .i64 FIN, .nilIface]) ?_ rfl (by first | exact ⟨.inl ⟨rfl, rfl⟩, hXb⟩ | exact ⟨rfl, hXb⟩)
    simp [results, Tryz.results46, go_sem, t0, t1, t2, t3, t4, t5, t6, t7, t8, t9, t10, t11, t12, t13, t14]

end Go.Proofs.YtkhkjacnoiopcaaGreatDoor
