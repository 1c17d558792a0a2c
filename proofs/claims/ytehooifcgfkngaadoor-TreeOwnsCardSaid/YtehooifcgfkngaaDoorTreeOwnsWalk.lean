/-
  The walk of TreeOwns.
-/
import Derived.Test.YtehooifcgfkngaaDoorTreeR
import Derived.Test.YtehooifcgfkngaaDoorOwnsPlain
import Derived.Test.YtehooifcgfkngaaDoorTimed
import Derived.Deep.RegionHeld3
import Derived.BigRegion
namespace Go.Proofs.YtehooifcgfkngaaDoor
open Go.RowKit Go.Maps Tre

theorem TreeAt.far {w : World} {g : Nat} {on of : Option Nat} {t : T} (h : TreeAt w g on of t) {p : Addr} (hp : ∀ b ∈ own g on of, b ≠ p.block) (v : Value) : TreeAt (w.setCell p v) g on of t :=
  have k := only_setCell (only_refl w (some p.block)) (.inl rfl) v
  h.kept k.size fun b hb => k.block b (h.lt b hb) (fun e => hp b hb (Option.some.inj e))
theorem far_own {P : Nat → Prop} {g : Nat} {on of on' of' : Option Nat} {n : Nat} (h : ∀ b ∈ own g on of, P b) (k : ∀ b ∈ own g on' of', b ∈ own g on of ∨ n ≤ b) (hn : ∀ b, n ≤ b → P b) : ∀ b ∈ own g on' of', P b := fun b hb => (k b hb).elim (h b) (hn b)

set_option maxRecDepth 100000 in
set_option maxHeartbeats 8000000 in
theorem treeOwns_main (v : Value) (l : List Deed) (which look uid gid n sec : Int) (w : World) (hD : DeedsIn w v l) (hm : ML w) :
    Calls Tryd.prog 4 #[v, .int .i64 which, .int .i64 look, .int .i64 uid, .int .i64 gid, .int .i64 n, .int .i64 sec] w fun e w' => e = .returned (.bool true) ∧ Below w.heap.size w w' := by
  have GR := Lib.hid (grown_any w hm)
  have PL := Lib.hid (fun w' (hb : Below w.heap.size w w') => planted_any (hD.below hb) (hm.below hb))
  have HM := Lib.hid hm
  have hD2 := hD
  obtain ⟨X, cap, rfl, _⟩ := hD2
  clear hD hm
  go_enter Tryd.func4, Tryd.ntmps4
  go_wp2_with fail
  refine GR.out.mono ?_
  rintro e w1 ⟨rfl, h1⟩
  have B1 := Lib.hid h1
  clear h1
  go_wp2_with fail
  refine (PL.out _ B1.out).mono ?_
  rintro e w2 ⟨h2, ⟨hb, rfl⟩ | ⟨hb, g, on, of, rfl, hT, hO⟩⟩
  · have B2 := Lib.hid (thenB B1.out h2)
    clear h2
    go_wp2_with fail
    go_ret
    exact ⟨rfl, B2.out⟩
  have B2 := Lib.hid (thenB B1.out h2)
  have hl60 := bigL_len hb
  have hnx0 := plant_nx l
  have HS := Lib.hid (plant_std l)
  have HT := Lib.hid hT
  have HO := Lib.hid (fun b hb => Nat.le_trans B1.out.size (hO b hb))
  obtain ⟨t, ht⟩ : ∃ t, t = plant l := ⟨_, rfl⟩
  rw [← ht] at HT HS hnx0
  have hnx : t.nx ≤ 60 := by omega
  have NM := Lib.hid (names_any HT.out HS.out (HM.out.below B2.out))
  clear h2 hb hT hO ht GR PL hnx0
  go_wp2_with fail
  refine NM.out.mono ?_
  rintro e w3 ⟨v3, rfl, hv, h3⟩
  have B3 := Lib.hid (thenB B2.out h3)
  have T3 := Lib.hid (HT.out.below h3)
  have hs := hv.has
  clear hv h3 NM
  have hln : t.names.length ≤ 60 := by rw [names_len]; exact HS.out.cn
  rcases hs.ways with ⟨A, c3, rfl, h0⟩ | ⟨b, off, c3, rfl, hc3, _, hb, hpos, hrow⟩
  · go_wp2_with fail
    go_ret
    exact ⟨rfl, B3.out⟩
  have HR := Lib.hid hrow
  have HNAME := Lib.hid (fun (s : Pth.Bs) (h : s ∈ t.names) => HS.out.name h)
  obtain ⟨L, hL⟩ : ∃ L, L = t.names := ⟨_, rfl⟩
  rw [← hL] at HR HNAME hln hpos hc3 ⊢
  have p1 := pickN_lo which L.length (by omega)
  have p2 := pickN_hi which L.length (by omega)
  have PK := Lib.hid (fun w => pick_any which L.length w (by omega) (by omega))
  obtain ⟨k0, hk0⟩ : ∃ k0, k0 = pickN which L.length := ⟨_, rfl⟩
  rw [← hk0] at p1 p2 PK
  obtain ⟨k, rfl⟩ := Int.eq_ofNat_of_zero_le p1
  have q1 := pickN_lo look L.length (by omega)
  have q2 := pickN_hi look L.length (by omega)
  have PQ := Lib.hid (fun w => pick_any look L.length w (by omega) (by omega))
  obtain ⟨m0, hm0⟩ : ∃ m0, m0 = pickN look L.length := ⟨_, rfl⟩
  rw [← hm0] at q1 q2 PQ
  obtain ⟨m, rfl⟩ := Int.eq_ofNat_of_zero_le q1
  have hkl : k < L.length := by omega
  have hml : m < L.length := by omega
  have hne : ((L.length : Int) == 0) = false := beq_eq_false_iff_ne.2 (by omega)
  have c0 := HR.out k hkl
  have c1 := HR.out m hml
  have hmemk : L[k] ∈ L := List.getElem_mem hkl
  have hmemm : L[m] ∈ L := List.getElem_mem hml
  obtain ⟨a, ha⟩ : ∃ a, a = L[k] := ⟨_, rfl⟩
  obtain ⟨c, hc⟩ : ∃ c, c = L[m] := ⟨_, rfl⟩
  rw [← ha] at c0 hmemk
  rw [← hc] at c1 hmemm
  obtain ⟨ka, hka, har, hra, _⟩ := HNAME.out a hmemk
  obtain ⟨kc, hkc, hcr, _, _⟩ := HNAME.out c hmemm
  have hal := (right_len har).1
  have hcl := (right_len hcr).1
  have hll : (L.length : Int) ≤ 60 := by omega
  have HKA := Lib.hid hka
  have HRA := Lib.hid hra
  have HKC := Lib.hid hkc
  clear hs hL hk0 hm0 ha hc hmemk hmemm hka hkc har hcr hra hrow HNAME HR
  have hnn : ∀ s k, Tre.look t.ents s = some k → k ≤ 1000000 := fun s k h => by have := (HS.out.short h).2; omega
  have GB := Lib.hid (fun w' (hb : Below w3.heap.size w3 w') => get_any (T3.out.below hb) (bs c) (fun k hk => hnn _ k hk) (by rw [bs_size]; omega))
  have hgv : getV t (bs c).data.toList = .tuple #[ndv (t.file kc), .nilIface] := getV_of HKC.out
  rw [hgv] at GB
  obtain ⟨nd, hn⟩ : ∃ nd, nd = t.file kc := ⟨_, rfl⟩
  rw [← hn] at GB
  have HN := Lib.hid hn
  obtain ⟨m0, m1, m2, m3, m4, m5, m6, m7, m8, m9⟩ := nd
  unfold ndv ndc at GB
  simp only at GB
  have u1 := pickN_lo uid 1000 (by omega)
  have u2 := pickN_hi uid 1000 (by omega)
  have PU := Lib.hid (fun w => pick_any uid 1000 w (by omega) (by omega))
  obtain ⟨u, hu⟩ : ∃ u, u = pickN uid 1000 := ⟨_, rfl⟩
  rw [← hu] at u1 u2 PU
  have g1 := pickN_lo gid 1000 (by omega)
  have g2 := pickN_hi gid 1000 (by omega)
  have PG := Lib.hid (fun w => pick_any gid 1000 w (by omega) (by omega))
  obtain ⟨gd, hgd⟩ : ∃ u, u = pickN gid 1000 := ⟨_, rfl⟩
  rw [← hgd] at g1 g2 PG
  have n1 := pickN_lo n 4096 (by omega)
  have n2 := pickN_hi n 4096 (by omega)
  have PN := Lib.hid (fun w => pick_any n 4096 w (by omega) (by omega))
  obtain ⟨q, hq⟩ : ∃ u, u = pickN n 4096 := ⟨_, rfl⟩
  rw [← hq] at n1 n2 PN
  obtain ⟨s1, s2, s3, s4⟩ := timed_bd sec 0
  have TM := Lib.hid (fun w => timed_any sec 0 w)
  obtain ⟨sc, hsc⟩ : ∃ u, u = secOf sec := ⟨_, rfl⟩
  obtain ⟨y, hy⟩ : ∃ u, u = nanoOf 0 := ⟨_, rfl⟩
  rw [← hsc] at s1 s2 TM
  rw [← hy] at s3 s4 TM
  clear hu hgd hq hsc hy
  obtain ⟨C1, hC1⟩ : ∃ C, C = act t ⟨7, a, [], 0, ⟨0, 0, u, gd, sc, y, [], [], 0, 0⟩⟩ := ⟨_, rfl⟩
  obtain ⟨C2, hC2⟩ : ∃ C, C = act C1.1 ⟨8, a, [], 0, ⟨0, 0, u, gd, sc, y, [], [], 0, 0⟩⟩ := ⟨_, rfl⟩
  obtain ⟨C3, hC3⟩ : ∃ C, C = act C2.1 ⟨6, a, [], q, zero⟩ := ⟨_, rfl⟩
  have hst : stampR sc y = true := by unfold stampR; simp; omega
  obtain ⟨e1, e2, e3, hlk, hfl⟩ := owns HKA.out HKC.out HRA.out (m := ⟨0, 0, u, gd, sc, y, [], [], 0, 0⟩) (q := q) ⟨u1, u2⟩ ⟨g1, g2⟩ hst ⟨n1, n2⟩ hC1 hC2 hC3
  have S1 := Lib.hid (show Std C1.1 by rw [hC1]; exact HS.out.act _)
  have S2 := Lib.hid (show Std C2.1 by rw [hC2]; exact S1.out.act _)
  have S3 := Lib.hid (show Std C3.1 by rw [hC3]; exact S2.out.act _)
  have x1 : C1.1.nx ≤ t.nx + 1 := by rw [hC1]; exact (act_nx t _).1
  have x2 : C2.1.nx ≤ C1.1.nx + 1 := by rw [hC2]; exact (act_nx C1.1 _).1
  have x3 : C3.1.nx ≤ C2.1.nx + 1 := by rw [hC3]; exact (act_nx C2.1 _).1
  rw [← HN.out] at hfl
  simp only at hfl
  have HFL := Lib.hid hfl
  have HLK := Lib.hid hlk
  have z1 : errV C1.2 = .nilIface := by rw [e1]; rfl
  have z2 : errV C2.2 = .nilIface := by rw [e2]; rfl
  have z3 : errV C3.2 = .nilIface := by rw [e3]; rfl
  have D1 := Lib.hid (fun w' (h : TreeAt w' g on of t) (hm : ML w') => do_tree h HS.out (by omega) hm ⟨7, a, [], 0, ⟨0, 0, u, gd, sc, y, [], [], 0, 0⟩⟩ (Nat.zero_le _) (by simp only; omega) (Nat.zero_le _) (Nat.zero_le _) (Nat.zero_le _))
  rw [← hC1, z1] at D1
  have D2 := Lib.hid (fun w' on' of' (h : TreeAt w' g on' of' C1.1) (hm : ML w') => do_tree h S1.out (by omega) hm ⟨8, a, [], 0, ⟨0, 0, u, gd, sc, y, [], [], 0, 0⟩⟩ (Nat.zero_le _) (by simp only; omega) (Nat.zero_le _) (Nat.zero_le _) (Nat.zero_le _))
  rw [← hC2, z2] at D2
  have D3 := Lib.hid (fun w' on' of' (h : TreeAt w' g on' of' C2.1) (hm : ML w') => do_tree h S2.out (by omega) hm ⟨6, a, [], q, zero⟩ (Nat.zero_le _) (by simp only; omega) (Nat.zero_le _) (Nat.zero_le _) (Nat.zero_le _))
  rw [← hC3, z3] at D3
  unfold dv dvc at D1 D2
  unfold dv dvc zero at D3
  simp only at D1 D2 D3
  have G2 := Lib.hid (fun w' on' of' (h : TreeAt w' g on' of' C3.1) => get_any h (bs c) (fun k hk => by
    have := (S3.out.short hk).2
    omega) (by rw [bs_size]; omega))
  have hgv3 : getV C3.1 (bs c).data.toList = .tuple #[ndv (C3.1.file kc), .nilIface] := getV_of hlk
  rw [hgv3] at G2
  clear hC1 hC2 hC3 hst e1 e2 e3 hlk hfl hn hgv hgv3 hnn z1 z2 z3 x1 x2 x3
  have AL2 := Lib.hid (fun w' (h : TreeAt w' g on of t) => alike_any h (bs a) (bs c) (by rw [bs_size]; omega) (by rw [bs_size]; omega))
  rw [bs_list, bs_list] at AL2
  obtain ⟨mine, hmine⟩ : ∃ b, b = t.alike a c := ⟨_, rfl⟩
  rw [← hmine] at AL2 HFL
  clear hmine
  repeat' ((fail_if_success (with_reducible refine halt_at 9 ?_)); first | go_values | go_skip | go_guarded | go_step | go_upon | go_back | (simp only [Int.not_lt, Int.not_le] at *; go_simp) | (go_values <;> (try go_simp)) | (go_ite <;> go_prune <;> (try go_simp)) | (split <;> (first | (rename_i hx; exact (hx _ rfl).elim) | go_prune)))
  go_cut [17, 18] (fun s17 s18 wx => s17 = .string (bs a) ∧ s18 = .string (bs c) ∧ Below w3.heap.size w3 wx)
  case first =>
    go_region_held3 (fun w' => w'.cell? ⟨b, off + k, none⟩ = some (.string (bs a)) ∧ w'.cell? ⟨b, off + m, none⟩ = some (.string (bs c))) (go_keep)
      (first
        | (go_at_call 13; (with_reducible refine (PK.out _).mono ?_); rintro e w' ⟨rfl, hw⟩; subst w')
        | (go_at_call 13; (with_reducible refine (PQ.out _).mono ?_); rintro e w' ⟨rfl, hw⟩; subst w')
        | fail)
    all_goals go_wp2_with fail
    all_goals go_meet
    all_goals exact ⟨rfl, rfl, (Below.refl _ _).drew⟩
  obtain ⟨rfl, rfl, hbx⟩ := hcut
  have BX := Lib.hid hbx
  clear hbx c0 c1 PK PQ
  go_wp2_with fail
  refine (GB.out _ BX.out).mono ?_
  rintro e w4 ⟨rfl, h4⟩
  have B4 := Lib.hid (thenB BX.out h4)
  clear h4
  go_wp2_with fail
  refine (PU.out _).mono ?_
  rintro e w' ⟨rfl, hw⟩
  subst w'
  clear PU
  go_wp2_with fail
  refine (PG.out _).mono ?_
  rintro e w' ⟨rfl, hw⟩
  subst w'
  clear PG
  go_wp2_with fail
  refine (TM.out _).mono ?_
  rintro e w5 ⟨rfl, h5⟩
  have b5 := thenB (B4.out.alloc B4.out.size (.cells #[.int .u8 m0, .int .i64 m1, .int .i64 m2, .int .i64 m3, .int .i64 m4, .int .i64 m5, .string (bs m6), .string (bs m7), .int .i64 m8, .int .i64 m9] 35)) h5
  have bw5 := (Blk.new w4 35 #[.int .u8 m0, .int .i64 m1, .int .i64 m2, .int .i64 m3, .int .i64 m4, .int .i64 m5, .string (bs m6), .string (bs m7), .int .i64 m8, .int .i64 m9]).below h5 (Blk.new w4 35 #[.int .u8 m0, .int .i64 m1, .int .i64 m2, .int .i64 m3, .int .i64 m4, .int .i64 m5, .string (bs m6), .string (bs m7), .int .i64 m8, .int .i64 m9]).lt
  have B5 := Lib.hid b5
  have W5 := Lib.hid bw5
  clear h5 TM b5 bw5
  have T6 := Lib.hid ((T3.out.below B5.out).alloc (.cells #[.int .u8 0, .int .i64 0, .int .i64 u, .int .i64 gd, .int .i64 sc, .int .i64 y, .string (bs []), .string (bs []), .int .i64 0, .int .i64 0] 35))
  have AL3 := Lib.hid (AL2.out _ T6.out)
  have hB6 := B3.out.trans ((B5.out.alloc B5.out.size (.cells #[.int .u8 0, .int .i64 0, .int .i64 u, .int .i64 gd, .int .i64 sc, .int .i64 y, .string (bs []), .string (bs []), .int .i64 0, .int .i64 0] 35)).mono B3.out.size)
  have Bw6 := Lib.hid hB6
  have Ww6 := Lib.hid (W5.out.alloc (.cells #[.int .u8 0, .int .i64 0, .int .i64 u, .int .i64 gd, .int .i64 sc, .int .i64 y, .string (bs []), .string (bs []), .int .i64 0, .int .i64 0] 35))
  have Mw6 := Lib.hid (Blk.new w5 35 #[.int .u8 0, .int .i64 0, .int .i64 u, .int .i64 gd, .int .i64 sc, .int .i64 y, .string (bs []), .string (bs []), .int .i64 0, .int .i64 0])
  have D1' := Lib.hid (D1.out _ T6.out (HM.out.below Bw6.out))
  have Fw6 := Lib.hid (fun b (hb : b ∈ own g on of) => (⟨HO.out b hb, .inl (T3.out.lt b hb)⟩ : w.heap.size ≤ b ∧ (b < w3.heap.size ∨ w5.heap.size < b)))
  have hzw6 : w5.heap.size < (w5.alloc (.cells #[.int .u8 0, .int .i64 0, .int .i64 u, .int .i64 gd, .int .i64 sc, .int .i64 y, .string (bs []), .string (bs []), .int .i64 0, .int .i64 0] 35)).heap.size := by simp
  have hs45 : w3.heap.size ≤ w4.heap.size := B4.out.size
  have hs56 : w4.heap.size < w5.heap.size := W5.out.lt
  have hs3 : w.heap.size ≤ w3.heap.size := B3.out.size
  clear hB6 AL2 D1
  have me := Mw6.out
  have _e0 : (w5.alloc (.cells #[.int .u8 0, .int .i64 0, .int .i64 u, .int .i64 gd, .int .i64 sc, .int .i64 y, .string (bs []), .string (bs []), .int .i64 0, .int .i64 0] 35)).cell? ⟨w5.heap.size, 0, none⟩ = some (.int .u8 0) := me.cell 0
  have _e1 : (w5.alloc (.cells #[.int .u8 0, .int .i64 0, .int .i64 u, .int .i64 gd, .int .i64 sc, .int .i64 y, .string (bs []), .string (bs []), .int .i64 0, .int .i64 0] 35)).cell? ⟨w5.heap.size, 1, none⟩ = some (.int .i64 0) := me.cell 1
  have _e2 : (w5.alloc (.cells #[.int .u8 0, .int .i64 0, .int .i64 u, .int .i64 gd, .int .i64 sc, .int .i64 y, .string (bs []), .string (bs []), .int .i64 0, .int .i64 0] 35)).cell? ⟨w5.heap.size, 2, none⟩ = some (.int .i64 u) := me.cell 2
  have _e3 : (w5.alloc (.cells #[.int .u8 0, .int .i64 0, .int .i64 u, .int .i64 gd, .int .i64 sc, .int .i64 y, .string (bs []), .string (bs []), .int .i64 0, .int .i64 0] 35)).cell? ⟨w5.heap.size, 3, none⟩ = some (.int .i64 gd) := me.cell 3
  have _e4 : (w5.alloc (.cells #[.int .u8 0, .int .i64 0, .int .i64 u, .int .i64 gd, .int .i64 sc, .int .i64 y, .string (bs []), .string (bs []), .int .i64 0, .int .i64 0] 35)).cell? ⟨w5.heap.size, 4, none⟩ = some (.int .i64 sc) := me.cell 4
  have _e5 : (w5.alloc (.cells #[.int .u8 0, .int .i64 0, .int .i64 u, .int .i64 gd, .int .i64 sc, .int .i64 y, .string (bs []), .string (bs []), .int .i64 0, .int .i64 0] 35)).cell? ⟨w5.heap.size, 5, none⟩ = some (.int .i64 y) := me.cell 5
  have _e6 : (w5.alloc (.cells #[.int .u8 0, .int .i64 0, .int .i64 u, .int .i64 gd, .int .i64 sc, .int .i64 y, .string (bs []), .string (bs []), .int .i64 0, .int .i64 0] 35)).cell? ⟨w5.heap.size, 6, none⟩ = some (.string (bs [])) := me.cell 6
  have _e7 : (w5.alloc (.cells #[.int .u8 0, .int .i64 0, .int .i64 u, .int .i64 gd, .int .i64 sc, .int .i64 y, .string (bs []), .string (bs []), .int .i64 0, .int .i64 0] 35)).cell? ⟨w5.heap.size, 7, none⟩ = some (.string (bs [])) := me.cell 7
  have _e8 : (w5.alloc (.cells #[.int .u8 0, .int .i64 0, .int .i64 u, .int .i64 gd, .int .i64 sc, .int .i64 y, .string (bs []), .string (bs []), .int .i64 0, .int .i64 0] 35)).cell? ⟨w5.heap.size, 8, none⟩ = some (.int .i64 0) := me.cell 8
  have _e9 : (w5.alloc (.cells #[.int .u8 0, .int .i64 0, .int .i64 u, .int .i64 gd, .int .i64 sc, .int .i64 y, .string (bs []), .string (bs []), .int .i64 0, .int .i64 0] 35)).cell? ⟨w5.heap.size, 9, none⟩ = some (.int .i64 0) := me.cell 9
  clear me
  go_wp2_with fail
  refine AL3.out.mono ?_
  rintro e w' ⟨rfl, hw⟩
  subst w'
  go_wp2_with fail
  refine D1'.out.mono ?_
  rintro e w7 ⟨rfl, on1, of1, k1, k2, k3⟩
  have Fw7 := Lib.hid (far_own Fw6.out k2 (fun b hb => (⟨by have := Bw6.out.size; omega, .inr (by have := hzw6; omega)⟩ : w.heap.size ≤ b ∧ (b < w3.heap.size ∨ w5.heap.size < b))))
  have Ww7 := Lib.hid (Kept.blk Ww6.out k3 (fun hm => by have := Fw6.out _ hm; omega))
  have Mw7 := Lib.hid (Kept.blk Mw6.out k3 (fun hm => by have := Fw6.out _ hm; omega))
  have Bw7 := Lib.hid (Bw6.out.trans (k3.down (fun b hb => (Fw6.out b hb).1) Bw6.out.size))
  have hzw7 : w5.heap.size < w7.heap.size := Mw7.out.lt
  have Kw7 := Lib.hid k1
  clear k1 k2 k3
  have me := Mw7.out
  have _f0 : w7.cell? ⟨w5.heap.size, 0, none⟩ = some (.int .u8 0) := me.cell 0
  have _f1 : w7.cell? ⟨w5.heap.size, 1, none⟩ = some (.int .i64 0) := me.cell 1
  have _f2 : w7.cell? ⟨w5.heap.size, 2, none⟩ = some (.int .i64 u) := me.cell 2
  have _f3 : w7.cell? ⟨w5.heap.size, 3, none⟩ = some (.int .i64 gd) := me.cell 3
  have _f4 : w7.cell? ⟨w5.heap.size, 4, none⟩ = some (.int .i64 sc) := me.cell 4
  have _f5 : w7.cell? ⟨w5.heap.size, 5, none⟩ = some (.int .i64 y) := me.cell 5
  have _f6 : w7.cell? ⟨w5.heap.size, 6, none⟩ = some (.string (bs [])) := me.cell 6
  have _f7 : w7.cell? ⟨w5.heap.size, 7, none⟩ = some (.string (bs [])) := me.cell 7
  have _f8 : w7.cell? ⟨w5.heap.size, 8, none⟩ = some (.int .i64 0) := me.cell 8
  have _f9 : w7.cell? ⟨w5.heap.size, 9, none⟩ = some (.int .i64 0) := me.cell 9
  clear me
  have D2' := Lib.hid (D2.out _ _ _ Kw7.out (HM.out.below Bw7.out))
  clear D2 D1'
  go_wp2_with fail
  refine D2'.out.mono ?_
  rintro e w8 ⟨rfl, on2, of2, k1, k2, k3⟩
  have Fw8 := Lib.hid (far_own Fw7.out k2 (fun b hb => (⟨by have := Bw7.out.size; omega, .inr (by have := hzw7; omega)⟩ : w.heap.size ≤ b ∧ (b < w3.heap.size ∨ w5.heap.size < b))))
  have Ww8 := Lib.hid (Kept.blk Ww7.out k3 (fun hm => by have := Fw7.out _ hm; omega))
  have Mw8 := Lib.hid (Kept.blk Mw7.out k3 (fun hm => by have := Fw7.out _ hm; omega))
  have Bw8 := Lib.hid (Bw7.out.trans (k3.down (fun b hb => (Fw7.out b hb).1) Bw7.out.size))
  have hzw8 : w5.heap.size < w8.heap.size := Mw8.out.lt
  have Kw8 := Lib.hid k1
  clear k1 k2 k3
  have D3' := Lib.hid (D3.out _ _ _ Kw8.out (HM.out.below Bw8.out))
  clear D3 D2'
  go_wp2_with fail
  refine (PN.out _).mono ?_
  rintro e w' ⟨rfl, hw⟩
  subst w'
  go_wp2_with fail
  refine D3'.out.mono ?_
  rintro e w9 ⟨rfl, on3, of3, k1, k2, k3⟩
  have Fw9 := Lib.hid (far_own Fw8.out k2 (fun b hb => (⟨by have := Bw8.out.size; omega, .inr (by have := hzw8; omega)⟩ : w.heap.size ≤ b ∧ (b < w3.heap.size ∨ w5.heap.size < b))))
  have Ww9 := Lib.hid (Kept.blk Ww8.out k3 (fun hm => by have := Fw8.out _ hm; omega))
  have Mw9 := Lib.hid (Kept.blk Mw8.out k3 (fun hm => by have := Fw8.out _ hm; omega))
  have Bw9 := Lib.hid (Bw8.out.trans (k3.down (fun b hb => (Fw8.out b hb).1) Bw8.out.size))
  have hzw9 : w5.heap.size < w9.heap.size := Mw9.out.lt
  have Kw9 := Lib.hid k1
  clear k1 k2 k3
  clear D3'
  have EQ1 := Lib.hid (fun w => node_same ⟨m0, q, u, gd, sc, y, m6, m7, m8, m9⟩ w)
  have EQ2 := Lib.hid (fun w => node_same ⟨m0, m1, m2, m3, m4, m5, m6, m7, m8, m9⟩ w)
  unfold ndv ndc at EQ1 EQ2 G2
  simp only at EQ1 EQ2 G2
  cases mine with
  | true =>
    have hfl : C3.1.file kc = ⟨m0, q, u, gd, sc, y, m6, m7, m8, m9⟩ := by rw [HFL.out, if_pos rfl]
    rw [hfl] at G2
    simp only at G2
    clear hfl HFL EQ2
    have hww := Ww9.out.lt
    have hne : w4.heap.size ≠ w5.heap.size := by omega
    have me := Mw9.out
    have _g2 : w9.cell? ⟨w5.heap.size, 2, none⟩ = some (.int .i64 u) := me.cell 2
    have _g3 : w9.cell? ⟨w5.heap.size, 3, none⟩ = some (.int .i64 gd) := me.cell 3
    have _g4 : w9.cell? ⟨w5.heap.size, 4, none⟩ = some (.int .i64 sc) := me.cell 4
    have _g5 : w9.cell? ⟨w5.heap.size, 5, none⟩ = some (.int .i64 y) := me.cell 5
    have wa := Ww9.out
    have _h1 : w9.cell? ⟨w4.heap.size, 1, none⟩ = some (.int .i64 m1) := wa.cell 1
    have _h2 : w9.cell? ⟨w4.heap.size, 2, none⟩ = some (.int .i64 m2) := wa.cell 2
    have _h3 : w9.cell? ⟨w4.heap.size, 3, none⟩ = some (.int .i64 m3) := wa.cell 3
    have _h4 : w9.cell? ⟨w4.heap.size, 4, none⟩ = some (.int .i64 m4) := wa.cell 4
    have _h5 : w9.cell? ⟨w4.heap.size, 5, none⟩ = some (.int .i64 m5) := wa.cell 5
    have fr1 := wa.frozen 1
    have fr2 := wa.frozen 2
    have fr3 := wa.frozen 3
    have fr4 := wa.frozen 4
    have fr5 := wa.frozen 5
    clear me wa
    repeat' ((fail_if_success (with_reducible refine halt_at 16 ?_)); first | go_values | go_skip | go_guarded | go_step | go_upon | go_back | (simp only [Int.not_lt, Int.not_le] at *; go_simp) | (go_values <;> (try go_simp)) | (go_ite <;> go_prune <;> (try go_simp)) | (split <;> (first | (rename_i hx; exact (hx _ rfl).elim) | go_prune)))
    go_cut [] (fun wx => Blk wx w4.heap.size 35 #[.int .u8 m0, .int .i64 q, .int .i64 u, .int .i64 gd, .int .i64 sc, .int .i64 y, .string (bs m6), .string (bs m7), .int .i64 m8, .int .i64 m9] ∧ Below w.heap.size w wx ∧ TreeAt wx g on3 of3 C3.1)
    case first =>
      go_region_held3 (fun w' => w'.cell? ⟨w5.heap.size, 2, none⟩ = some (.int .i64 u) ∧ w'.cell? ⟨w5.heap.size, 3, none⟩ = some (.int .i64 gd) ∧ w'.cell? ⟨w5.heap.size, 4, none⟩ = some (.int .i64 sc) ∧ w'.cell? ⟨w5.heap.size, 5, none⟩ = some (.int .i64 y)) (go_keep)
        (first
          | (go_at_call 13; (with_reducible refine (PN.out _).mono ?_); rintro e w' ⟨rfl, hw⟩; subst w')
          | fail)
      all_goals go_wp2_with fail
      all_goals go_meet
      all_goals
        have hP : w.heap.size ≤ w4.heap.size := by omega
        have hQ : ∀ b ∈ own g on3 of3, b ≠ w4.heap.size := fun b hb e => by have := Fw9.out b hb; omega
        have hbw := ((((Ww9.out.set_ 2 (.int .i64 u)).set_ 3 (.int .i64 gd)).set_ 4 (.int .i64 sc)).set_ 5 (.int .i64 y)).set_ 1 (.int .i64 q)
        exact ⟨hbw.drew, (((((Bw9.out.setCell hP _).setCell hP _).setCell hP _).setCell hP _).setCell hP _).drew, (((((Kw9.out.far hQ _).far hQ _).far hQ _).far hQ _).far hQ _).drew⟩
    obtain ⟨hbw, hbb, hbt⟩ := hcut
    have HBW := Lib.hid hbw
    have HBB := Lib.hid hbb
    have HBT := Lib.hid hbt
    clear hbw hbb hbt
    have hEQ := EQ1.out
    clear _g2 _g3 _g4 _g5 _h1 _h2 _h3 _h4 _h5 fr1 fr2 fr3 fr4 fr5 hww hne
    go_wp2_with fail
    refine (G2.out _ _ _ HBT.out).mono ?_
    rintro e w10 ⟨rfl, h10⟩
    have B10 := thenB HBB.out h10
    have bb := HBW.out.below h10 HBW.out.lt
    have hl10 := bb.lt
    have _h0 : w10.cell? ⟨w4.heap.size, 0, none⟩ = some (.int .u8 m0) := bb.cell 0
    have _h1 : w10.cell? ⟨w4.heap.size, 1, none⟩ = some (.int .i64 q) := bb.cell 1
    have _h2 : w10.cell? ⟨w4.heap.size, 2, none⟩ = some (.int .i64 u) := bb.cell 2
    have _h3 : w10.cell? ⟨w4.heap.size, 3, none⟩ = some (.int .i64 gd) := bb.cell 3
    have _h4 : w10.cell? ⟨w4.heap.size, 4, none⟩ = some (.int .i64 sc) := bb.cell 4
    have _h5 : w10.cell? ⟨w4.heap.size, 5, none⟩ = some (.int .i64 y) := bb.cell 5
    have _h6 : w10.cell? ⟨w4.heap.size, 6, none⟩ = some (.string (bs m6)) := bb.cell 6
    have _h7 : w10.cell? ⟨w4.heap.size, 7, none⟩ = some (.string (bs m7)) := bb.cell 7
    have _h8 : w10.cell? ⟨w4.heap.size, 8, none⟩ = some (.int .i64 m8) := bb.cell 8
    have _h9 : w10.cell? ⟨w4.heap.size, 9, none⟩ = some (.int .i64 m9) := bb.cell 9
    clear h10 bb
    go_wp2_with fail
    go_ret
    exact ⟨rfl, B10.alloc B10.size _⟩
  | false =>
    have hfl : C3.1.file kc = ⟨m0, m1, m2, m3, m4, m5, m6, m7, m8, m9⟩ := by rw [HFL.out, if_neg (by simp)]
    rw [hfl] at G2
    simp only at G2
    clear hfl HFL EQ1
    have hEQ := EQ2.out
    go_wp2_with fail
    refine (G2.out _ _ _ Kw9.out).mono ?_
    rintro e w10 ⟨rfl, h10⟩
    have B10 := thenB Bw9.out h10
    have bb := Ww9.out.below h10 Ww9.out.lt
    have hl10 := bb.lt
    have _h0 : w10.cell? ⟨w4.heap.size, 0, none⟩ = some (.int .u8 m0) := bb.cell 0
    have _h1 : w10.cell? ⟨w4.heap.size, 1, none⟩ = some (.int .i64 m1) := bb.cell 1
    have _h2 : w10.cell? ⟨w4.heap.size, 2, none⟩ = some (.int .i64 m2) := bb.cell 2
    have _h3 : w10.cell? ⟨w4.heap.size, 3, none⟩ = some (.int .i64 m3) := bb.cell 3
    have _h4 : w10.cell? ⟨w4.heap.size, 4, none⟩ = some (.int .i64 m4) := bb.cell 4
    have _h5 : w10.cell? ⟨w4.heap.size, 5, none⟩ = some (.int .i64 m5) := bb.cell 5
    have _h6 : w10.cell? ⟨w4.heap.size, 6, none⟩ = some (.string (bs m6)) := bb.cell 6
    have _h7 : w10.cell? ⟨w4.heap.size, 7, none⟩ = some (.string (bs m7)) := bb.cell 7
    have _h8 : w10.cell? ⟨w4.heap.size, 8, none⟩ = some (.int .i64 m8) := bb.cell 8
    have _h9 : w10.cell? ⟨w4.heap.size, 9, none⟩ = some (.int .i64 m9) := bb.cell 9
    clear h10 bb
    go_wp2_with fail
    go_ret
    exact ⟨rfl, B10.alloc B10.size _⟩

set_option maxRecDepth 100000 in
theorem treeOwns_walk {H : Type} {enc : TypeId × Value → H} {w : World} {d : DataW H} {ps : List MemPlace} {base : Nat} (v : Value) (hok : Value.okWide Tryd.prog w .any base 22 v)
    (h : DataW.Trod enc Tryd.prog w 0 (fun _ => true) true 22 v d ps) (hz : ∀ n ∈ d.weights Tryd.prog 22, n ≤ reachBytes) (which : Int) (_h1 : (Lit.int .i64 which).wf = true) (look : Int) (_h2 : (Lit.int .i64 look).wf = true) (uid : Int) (_h3 : (Lit.int .i64 uid).wf = true) (gid : Int) (_h4 : (Lit.int .i64 gid).wf = true) (n : Int) (_h5 : (Lit.int .i64 n).wf = true) (sec : Int) (_h6 : (Lit.int .i64 sec).wf = true) (hsh : ML w) :
    Calls Tryd.prog 4 #[v, .int .i64 which, .int .i64 look, .int .i64 uid, .int .i64 gid, .int .i64 n, .int .i64 sec] w fun e w' => e = .returned (.bool true) ∧ Below w.heap.size w w' := by
  obtain ⟨l, hl⟩ := deeds_of hok h hz
  exact treeOwns_main v l which look uid gid n sec w hl hsh

end Go.Proofs.YtehooifcgfkngaaDoor
