/-
  member.Read where the first header is the member's own.
-/
import Derived.Test.YtkhkjacnoiopcaaGreatDoorZbf
import Derived.Test.YtkhkjacnoiopcaaGreatDoorZay
import Derived.Test.YtkhkjacnoiopcaaGreatDoorZbg
set_option linter.unusedVariables false
set_option linter.unusedSimpArgs false

set_option linter.unusedVariables false
set_option linter.unusedSimpArgs false
namespace Go.Proofs.YtkhkjacnoiopcaaGreatDoor
open Go.RowKit Tre Pk

theorem HasR.offN {w : World} {B : Nat} {v : Value} {l : List Px.Rec} (h : HasR w B v l) : offE w.heap.size v := by
  rcases h.ways with ⟨rfl, _⟩ | ⟨g, cap, rfl, _, hg, _⟩
  · exact offE_nil _ 0 0
  · intro b o n c e
    injection e with e1 _ _
    have e2 := Option.some.inj e1
    injection e2 with e3 _ _
    omega
theorem HasR.keepE {w w' : World} {B E : Nat} {v : Value} {l : List Px.Rec} (h : HasR w B v l) (k : KeepE E w.heap.size w w') (hE : E < B) : HasR w' B v l := by
  refine ⟨h.1, ?_⟩
  rcases h.2 with hn | ⟨g, cap, cur, e, hb, hg, rest⟩
  · exact .inl hn
  · exact .inr ⟨g, cap, cur, e, hb, (k.block g (Array.getElem?_eq_some_iff.1 hg).1 (by omega)).trans hg, rest⟩

set_option maxRecDepth 100000 in
set_option maxHeartbeats 4000000 in
/-- An error at the reader's header. -/
theorem wrong_any {W : World} {R : Nat} {s : Bl} {st : Rd} {ov gv : Value} (h : RdAt W R s st ov gv) (n : Int) (hE : ErrT W) :
    Calls Tryz.prog 47 #[.pointer (some ⟨R, 0, none⟩), .iface 63 (.int .i64 n)] W fun x w' => (∃ p, x = .returned (.iface 106 (.pointer (some ⟨p, 0, none⟩))) ∧ w'.cell? ⟨p, 0, none⟩ = some (.int .i64 n)) ∧ Below W.heap.size W w' := by
  have TE := Lib.hid (fun w' (hb : Below W.heap.size W w') => tell_errno n w' (hE.below hb))
  have c1 : W.cell? ⟨R, 1, none⟩ = some (.int .i64 st.off) := h.blk.cell 1
  have KC := Lib.hid (fun w' (hb : Below W.heap.size W w') => (show w'.cell? ⟨R, 1, none⟩ = some (.int .i64 st.off) ∧ Below W.heap.size W w' from ⟨(hb.cell (p := ⟨R, 1, none⟩) h.blk.lt).trans c1, hb⟩))
  have lR := h.blk.lt
  have bw := Below.refl W.heap.size W
  clear h hE
  go_enter Tryz.func47, Tryz.ntmps47
  go_wp2_with fail
  refine wp_region_held_drew (S := fun w' => w'.cell? ⟨R, 1, none⟩ = some (.int .i64 st.off) ∧ Below W.heap.size W w') (by kernel_rfl) (KC.out _ (Below.drew bw)) (fun hHeld => ?_)
  refine wpAnyH_takeD (i := 0) (d := 5) (listed' := #[true, false, false, false, false, false, false, false, false, false]) (v := ?_) rfl (by kernel_rfl) (by kernel_rfl) (by kernel_rfl) (by kernel_rfl) (by kernel_rfl) (fun _ _ _ h => h) (Or.inl ⟨by kernel_rfl, ?_⟩) (by assumption) ?_; rotate_left; (focus (intro w hSw; (try dsimp only at hSw); go_simp; (try with_reducible rfl))); (try simp only [List.foldl_cons, List.foldl_nil, Act.put, List.setIfInBounds_toArray, List.set_cons_zero, List.set_cons_succ])
  refine wpAnyH_takeD (i := 2) (d := 7) (listed' := #[true, false, true, false, false, false, false, false, false, false]) (v := ?_) rfl (by kernel_rfl) (by kernel_rfl) (by kernel_rfl) (by kernel_rfl) (by kernel_rfl) (fun _ _ _ h => h) (Or.inl ⟨by kernel_rfl, ?_⟩) (by assumption) ?_; rotate_left; (focus (intro w hSw; (try dsimp only at hSw); go_simp; (try with_reducible rfl))); (try simp only [List.foldl_cons, List.foldl_nil, Act.put, List.setIfInBounds_toArray, List.set_cons_zero, List.set_cons_succ])
  refine wpAnyH_takeD (i := 3) (d := 8) (listed' := #[true, false, true, true, false, false, false, false, false, false]) (v := ?_) rfl (by kernel_rfl) (by kernel_rfl) (by kernel_rfl) (by kernel_rfl) (by kernel_rfl) (fun _ _ _ h => h) (Or.inl ⟨by kernel_rfl, ?_⟩) (by assumption) ?_; rotate_left; (focus (intro w hSw; (try dsimp only at hSw); go_simp; (try with_reducible rfl))); (try simp only [List.foldl_cons, List.foldl_nil, Act.put, List.setIfInBounds_toArray, List.set_cons_zero, List.set_cons_succ])
  refine wpAnyH_takeD (i := 4) (d := 9) (listed' := #[true, false, true, true, true, false, false, false, false, false]) (v := ?_) rfl (by kernel_rfl) (by kernel_rfl) (by kernel_rfl) (by kernel_rfl) (by kernel_rfl) (fun _ _ _ h => h) (Or.inl ⟨by kernel_rfl, ?_⟩) (by assumption) ?_; rotate_left; (focus (intro w hSw; (try dsimp only at hSw); go_simp; (try with_reducible rfl))); (try simp only [List.foldl_cons, List.foldl_nil, Act.put, List.setIfInBounds_toArray, List.set_cons_zero, List.set_cons_succ])
  refine wpAnyH_takeD (i := 5) (d := 10) (listed' := #[true, false, true, true, true, true, false, false, false, false]) (v := ?_) rfl (by kernel_rfl) (by kernel_rfl) (by kernel_rfl) (by kernel_rfl) (by kernel_rfl) (fun _ _ _ h => h) (Or.inl ⟨by kernel_rfl, ?_⟩) (by assumption) ?_; rotate_left; (focus (intro w hSw; (try dsimp only at hSw); go_simp; (try with_reducible rfl))); (try simp only [List.foldl_cons, List.foldl_nil, Act.put, List.setIfInBounds_toArray, List.set_cons_zero, List.set_cons_succ])
  obtain ⟨x0, hx0⟩ : ∃ x, x = W.drew := ⟨_, rfl⟩
  have BD := Lib.hid (show Below W.heap.size W x0 by rw [hx0]; exact Below.drew bw)
  rw [← hx0]
  clear hx0 hHeld
  refine wpAnyH_ready (rs := [1]) (by kernel_rfl) (by simp) ?_
  refine AllReadyH.cons rfl (fun K hK => ?_) AllReadyH.nil
  go_simp
  refine (TE.out _ BD.out).mono ?_
  rintro r x1 ⟨rfl, hx⟩
  have B1 := Lib.hid (thenB BD.out hx)
  clear hx
  refine hK.out _ _ (KC.out _ B1.out) (fun hHeld1 => ?_)
  clear hK K
  (try simp only [List.foldl_cons, List.foldl_nil, Act.put, List.setIfInBounds_toArray, List.set_cons_zero, List.set_cons_succ])
  refine wpAnyH_takeD (i := 6) (d := 11) (listed' := #[true, true, true, true, true, true, true, false, false, false]) (v := ?_) rfl (by kernel_rfl) (by kernel_rfl) (by kernel_rfl) (by kernel_rfl) (by kernel_rfl) (fun _ _ _ h => h) (Or.inl ⟨by kernel_rfl, ?_⟩) (by assumption) ?_; rotate_left; (focus (intro w hSw; (try dsimp only at hSw); go_simp; (try with_reducible rfl))); (try simp only [List.foldl_cons, List.foldl_nil, Act.put, List.setIfInBounds_toArray, List.set_cons_zero, List.set_cons_succ])
  refine wpAnyH_ready (rs := [7]) (by kernel_rfl) (by simp) ?_
  refine AllReadyH.cons rfl (fun K hK => ?_) AllReadyH.nil
  go_simp
  obtain ⟨x2, hx2⟩ : ∃ x, x = x1.alloc (.cells #[.int .i64 n, .int .i64 st.off] 108) := ⟨_, rfl⟩
  have hx : Below x1.heap.size x1 x2 := by rw [hx2]; exact (Below.refl _ _).alloc (Nat.le_refl _) _
  have G2 := Lib.hid (show Blk x2 x1.heap.size 108 #[.int .i64 n, .int .i64 st.off] by rw [hx2]; exact Blk.new x1 108 _)
  have B2 := Lib.hid (thenB B1.out hx)
  rw [← hx2]
  obtain ⟨E, hE⟩ : ∃ E, E = x1.heap.size := ⟨_, rfl⟩
  rw [← hE] at G2 ⊢
  clear hx hx2 hE
  refine hK.out _ _ (KC.out _ B2.out) (fun hHeld2 => ?_)
  clear hK K
  (try simp only [List.foldl_cons, List.foldl_nil, Act.put, List.setIfInBounds_toArray, List.set_cons_zero, List.set_cons_succ])
  refine wpAnyH_takeD (i := 8) (d := 13) (listed' := #[true, true, true, true, true, true, true, true, true, false]) (v := ?_) rfl (by kernel_rfl) (by kernel_rfl) (by kernel_rfl) (by kernel_rfl) (by kernel_rfl) (fun _ _ _ h => h) (Or.inl ⟨by kernel_rfl, ?_⟩) (by assumption) ?_; rotate_left; (focus (intro w hSw; (try dsimp only at hSw); go_simp; (try with_reducible rfl))); (try simp only [List.foldl_cons, List.foldl_nil, Act.put, List.setIfInBounds_toArray, List.set_cons_zero, List.set_cons_succ])
  refine wpAnyH_takeD (i := 9) (d := 4) (listed' := #[true, true, true, true, true, true, true, true, true, true]) (v := ?_) rfl (by kernel_rfl) (by kernel_rfl) (by kernel_rfl) (by kernel_rfl) (by kernel_rfl) (fun _ _ _ h => h) (Or.inl ⟨by kernel_rfl, ?_⟩) (by assumption) ?_; rotate_left; (focus (intro w hSw; (try dsimp only at hSw); go_simp; (try with_reducible rfl))); (try simp only [List.foldl_cons, List.foldl_nil, Act.put, List.setIfInBounds_toArray, List.set_cons_zero, List.set_cons_succ])
  refine wpAnyH_done (by kernel_rfl) ?_ _
  go_wp2_with fail
  go_ret
  exact ⟨⟨E, rfl, G2.out.cell 0⟩, B2.out⟩

set_option maxRecDepth 100000 in
set_option maxHeartbeats 16000000 in
theorem read_own {W : World} {s : Bl} {a : Nat} {gv : Value} {g : List Px.Rec} (hg : PairsIn W gv g) (hgn : g = [] → ∃ n c, gv = .slice none n c) (hEnv : PxEnv W) (hEr : ErrT W) (hs : s.length ≤ 100000000) (hgl : g.length ≤ 1000)
    (r : HRaw) (hr : hdrB (fld s a 512) = some r) (hk : isMore r.kind = false) (ha : a + 512 ≤ s.length) (hfn : r.name.length ≤ 1000000 ∧ r.front.length ≤ 1000000)
    {e1 : Ent} {data : Bl} (hap : applyP (recsP ⟨a, none, none, [], g⟩) (firstE ⟨a, none, none, [], g⟩ r) = some e1) (hk83 : e1.kind ≠ 83) (hmap : e1.map = []) (hnl1 : e1.name.length ≤ 1000000) (hlim : r.size ≤ 14240) (hby : bytesP s (a + 512) r.size = some data)
    (hnol : ¬ (e1.kind = 48 ∧ (Px.getV (recsP ⟨a, none, none, [], g⟩) kMajor).1 = [49])) (hk8 : e1.kind ≤ 255) (hz8 : e1.size ≤ 9223372036854775807) :
    Calls Tryz.prog 20 #[.string (bs s), .int .i64 (a : Nat), gv] W fun x w' => ((rightE (settledP { e1 with data := data }) = true ∧ ∃ v', HasR w' W.heap.size v' g ∧ x = .returned (.tuple #[ev (settledP { e1 with data := data }) (.slice none 0 0), .int .i64 (((a + 512 : Nat) : Int) + r.size + (Bk.pad r.size.toNat : Nat)), v', .nilIface])) ∨
      (rightE (settledP { e1 with data := data }) = false ∧ ∃ p, x = .returned (.tuple #[.agg #[.string ⟨#[]⟩, .int .u8 0, .int .i64 0, .int .i64 0, .int .i64 0, .int .i64 0, .int .i64 0, .int .i64 0, .string ⟨#[]⟩, .string ⟨#[]⟩, .string ⟨#[]⟩, .int .i64 0, .int .i64 0, .string ⟨#[]⟩, .slice none 0 0], .int .i64 0, .slice none 0 0, .iface 106 (.pointer (some ⟨p, 0, none⟩))]))) ∧ Below W.heap.size W w' := by
  obtain ⟨st, hst⟩ : ∃ st : Rd, st = ⟨a, none, none, [], g⟩ := ⟨_, rfl⟩
  have hoff : st.off = a := by rw [hst]
  have hglo : st.glob = g := by rw [hst]
  have hown : st.own = [] := by rw [hst]
  rw [← hst] at hap hnol
  have HDR := Lib.hid (fun (w : World) (R : Nat) (ov gv : Value) (h : RdAt w R s st ov gv) => header_any h true r hs (by rw [hoff]; exact ha) (by rw [hoff]; exact hr))
  have MBC := Lib.hid (fun (w : World) (R : Nat) (ov gv : Value) (h : RdAt w R s st ov gv) (hEw : PxEnv w) => member_any h r hEw hfn hs (by rw [hglo, hown]; simp; omega) hap hk83 hmap hnl1 hlim (by rw [hoff]; exact hby) hnol hk8 hz8)
  rw [hoff] at MBC
  obtain ⟨e3, he3⟩ : ∃ e3, e3 = settledP { e1 with data := data } := ⟨_, rfl⟩
  rw [← he3] at MBC ⊢
  obtain ⟨RE3, hRE3⟩ : ∃ b, b = rightE e3 := ⟨_, rfl⟩
  rw [← hRE3] at MBC ⊢
  obtain ⟨FIN, hFIN⟩ : ∃ FIN : Int, FIN = ((a + 512 : Nat) : Int) + r.size + (Bk.pad r.size.toNat : Nat) := ⟨_, rfl⟩
  rw [← hFIN] at MBC ⊢
  have WRC := Lib.hid (fun (w : World) (R : Nat) (ov gv : Value) (h : RdAt w R s st ov gv) (n : Int) (hEw : ErrT w) => wrong_any h n hEw)
  have HST := Lib.hid hst
  clear hap hnol hby hr he3 hRE3 hFIN hoff hglo hown hst hk83 hmap hnl1 hlim hk8 hz8 hfn
  obtain ⟨a0, a1, a2, a3, a4, a5, a6, a7, a8, a9, a10, a11, a12⟩ := r
  unfold rv at HDR MBC
  simp only at HDR MBC hk
  have t76 : ((a5.toNat : Int) == 76) = false := by
    rw [beq_eq_false_iff_ne]; intro h
    have : a5 = 76 := UInt8.toNat_inj.1 (by have : (76 : UInt8).toNat = 76 := rfl; omega)
    rw [this] at hk; exact absurd hk (by decide)
  have t75 : ((a5.toNat : Int) == 75) = false := by
    rw [beq_eq_false_iff_ne]; intro h
    have : a5 = 75 := UInt8.toNat_inj.1 (by have : (75 : UInt8).toNat = 75 := rfl; omega)
    rw [this] at hk; exact absurd hk (by decide)
  have t120 : ((a5.toNat : Int) == 120) = false := by
    rw [beq_eq_false_iff_ne]; intro h
    have : a5 = 120 := UInt8.toNat_inj.1 (by have : (120 : UInt8).toNat = 120 := rfl; omega)
    rw [this] at hk; exact absurd hk (by decide)
  have t103 : ((a5.toNat : Int) == 103) = false := by
    rw [beq_eq_false_iff_ne]; intro h
    have : a5 = 103 := UInt8.toNat_inj.1 (by have : (103 : UInt8).toNat = 103 := rfl; omega)
    rw [this] at hk; exact absurd hk (by decide)
  obtain ⟨W0, hW0⟩ : ∃ W0, W0 = W.alloc (.cells #[.string ⟨#[]⟩, .int .u8 0, .int .i64 0, .int .i64 0, .int .i64 0, .int .i64 0, .int .i64 0, .int .i64 0, .string ⟨#[]⟩, .string ⟨#[]⟩, .string ⟨#[]⟩, .int .i64 0, .int .i64 0, .string ⟨#[]⟩, .slice none 0 0] 26) := ⟨_, rfl⟩
  have HB0 := Lib.hid (show Below W.heap.size W W0 by rw [hW0]; exact (Below.refl _ _).alloc (Nat.le_refl _) _)
  have KQ := Lib.hid (show Blk W0 W.heap.size 26 #[.string ⟨#[]⟩, .int .u8 0, .int .i64 0, .int .i64 0, .int .i64 0, .int .i64 0, .int .i64 0, .int .i64 0, .string ⟨#[]⟩, .string ⟨#[]⟩, .string ⟨#[]⟩, .int .i64 0, .int .i64 0, .string ⟨#[]⟩, .slice none 0 0] by rw [hW0]; exact Blk.new W 26 _)
  have lW : W0.heap.size = W.heap.size + 1 := by rw [hW0]; simp
  have HW0 := Lib.hid hW0
  obtain ⟨Q, hQ⟩ : ∃ Q, Q = W.heap.size := ⟨_, rfl⟩
  have HQ := Lib.hid hQ
  have CLN := Lib.hid (clone_pairs (hg.below HB0.out) (by omega) hgn)
  have ENV := Lib.hid hEnv
  have ERT := Lib.hid hEr
  have hgv : ∃ X n c, gv = .slice X n c := by obtain ⟨X, c, e⟩ := hg.form; exact ⟨X, _, c, e⟩
  obtain ⟨X, n, c, rfl⟩ := hgv
  have hz : (bs s).size = s.length := bs_size _
  obtain ⟨S, hS⟩ : ∃ S, S = bs s := ⟨_, rfl⟩
  rw [← hS] at hz ⊢
  have HS := Lib.hid hS
  have k0 : ¬ (a : Int) < 0 := by omega
  have k1 : ¬ (S.size : Int) < (a : Int) := by omega
  have hWQ := HB0.out.size
  rw [← hQ] at KQ lW
  clear hQ hW0 hg hgn hEnv hEr hS hs ha hk hz
  go_enter Tryz.func20, Tryz.ntmps20
  repeat' ((fail_if_success (with_reducible refine halt_at 1 ?_)); first | go_values | go_skip | go_guarded | go_step | go_upon | go_back | (simp only [Int.not_lt, Int.not_le] at *; go_simp) | (go_values <;> (try go_simp)) | (go_ite <;> go_prune <;> (try go_simp)) | (split <;> (first | (rename_i hx; exact (hx _ rfl).elim) | go_prune)))
  rw [← HW0.out, ← HQ.out]
  go_wp2_with fail
  refine CLN.out.mono ?_
  rintro x w1 ⟨v1, rfl, hH, hP, h1⟩
  obtain ⟨Y, c1, rfl⟩ := hP.form
  have B1 := Lib.hid h1
  have H1 := Lib.hid hH
  have P1 := Lib.hid hP
  have KQ1 := Lib.hid (KQ.out.below h1 KQ.out.lt)
  clear hH hP h1 CLN HW0
  obtain ⟨w2, hw2⟩ : ∃ w2, w2 = w1.alloc (.cells #[.string S, .int .i64 (a : Nat), .string ⟨#[]⟩, .bool false, .string ⟨#[]⟩, .bool false, .slice none 0 0, .slice Y g.length c1] 85) := ⟨_, rfl⟩
  have hb2 : Below w1.heap.size w1 w2 := by rw [hw2]; exact (Below.refl _ _).alloc (Nat.le_refl _) _
  have B2 := Lib.hid (thenB B1.out hb2)
  have H2 := Lib.hid (H1.out.later hb2)
  have KR2 := Lib.hid (show Blk w2 w1.heap.size 85 #[.string S, .int .i64 (a : Nat), .string ⟨#[]⟩, .bool false, .string ⟨#[]⟩, .bool false, .slice none 0 0, .slice Y g.length c1] by rw [hw2]; exact Blk.new w1 85 _)
  have KQ2 := Lib.hid (KQ1.out.below hb2 KQ1.out.lt)
  obtain ⟨R, hR⟩ : ∃ R, R = w1.heap.size := ⟨_, rfl⟩
  have RD2 := Lib.hid (show RdAt w2 R s st (.slice none 0 0) (.slice Y g.length c1) from by
    rw [HST.out]
    refine ⟨by rw [hR]; rw [HS.out] at KR2; exact KR2.out, ⟨none, 0, rfl, Nat.le_refl _, Nat.zero_le _, fun _ h => absurd h (by simp), .inl rfl⟩, P1.out.below hb2, offE_nil _ _ _, ?_⟩
    rw [hR]; exact H1.out.offN)
  have HW2 := Lib.hid hw2
  have HR := Lib.hid hR
  have hQR : Q < R := by rw [hR]; have := B1.out.size; omega
  rw [← hR] at KR2
  clear hb2 hw2 KQ1 B1 H1 P1 hR
  repeat' ((fail_if_success (with_reducible refine halt_at 4 ?_)); first | go_values | go_skip | go_guarded | go_step | go_upon | go_back | (simp only [Int.not_lt, Int.not_le] at *; go_simp) | (go_values <;> (try go_simp)) | (go_ite <;> go_prune <;> (try go_simp)) | (split <;> (first | (rename_i hx; exact (hx _ rfl).elim) | go_prune)))
  rw [← HW2.out, ← HR.out]
  clear HW2
  go_wp2_with fail
  refine wp_loop_rounds 1 ?_
  rw [rounds_succ]
  go_wp2_with fail
  refine (HDR.out _ _ _ _ RD2.out).mono ?_
  rintro x w3 ⟨rfl, h3⟩
  have B3 := Lib.hid (thenB B2.out h3)
  have H3 := Lib.hid (H2.out.later h3)
  have RD3 := Lib.hid (RD2.out.below h3)
  have KQ3 := Lib.hid (KQ2.out.below h3 KQ2.out.lt)
  clear h3 HDR RD2 H2 B2 KQ2 KR2
  obtain ⟨w4, hw4⟩ : ∃ w4, w4 = w3.alloc (.cells #[.string (bs a0), .string (bs a1), .string (bs a2), .string (bs a3), .string (bs a4), .int .u8 a5.toNat, .int .i64 a6, .int .i64 a7, .int .i64 a8, .int .i64 a9, .int .i64 a10, .int .i64 a11, .int .i64 a12] 72) := ⟨_, rfl⟩
  have hb4 : Below w3.heap.size w3 w4 := by rw [hw4]; exact (Below.refl _ _).alloc (Nat.le_refl _) _
  have B4 := Lib.hid (thenB B3.out hb4)
  have H4 := Lib.hid (H3.out.later hb4)
  have RD4 := Lib.hid (RD3.out.below hb4)
  have KQ4 := Lib.hid (KQ3.out.below hb4 KQ3.out.lt)
  have KK4 := Lib.hid (show Blk w4 w3.heap.size 72 #[.string (bs a0), .string (bs a1), .string (bs a2), .string (bs a3), .string (bs a4), .int .u8 a5.toNat, .int .i64 a6, .int .i64 a7, .int .i64 a8, .int .i64 a9, .int .i64 a10, .int .i64 a11, .int .i64 a12] by rw [hw4]; exact Blk.new w3 72 _)
  obtain ⟨K, hK⟩ : ∃ K, K = w3.heap.size := ⟨_, rfl⟩
  have HW4 := Lib.hid hw4
  have HK := Lib.hid hK
  rw [← hK] at KK4
  clear hb4 hw4 hK H3 RD3 KQ3 B3
  have c0 : w4.cell? ⟨K, 0, none⟩ = some (.string (bs a0)) := KK4.out.cell 0
  have c1 : w4.cell? ⟨K, 1, none⟩ = some (.string (bs a1)) := KK4.out.cell 1
  have c2 : w4.cell? ⟨K, 2, none⟩ = some (.string (bs a2)) := KK4.out.cell 2
  have c3 : w4.cell? ⟨K, 3, none⟩ = some (.string (bs a3)) := KK4.out.cell 3
  have c4 : w4.cell? ⟨K, 4, none⟩ = some (.string (bs a4)) := KK4.out.cell 4
  have c5 : w4.cell? ⟨K, 5, none⟩ = some (.int .u8 a5.toNat) := KK4.out.cell 5
  have c6 : w4.cell? ⟨K, 6, none⟩ = some (.int .i64 a6) := KK4.out.cell 6
  have c7 : w4.cell? ⟨K, 7, none⟩ = some (.int .i64 a7) := KK4.out.cell 7
  have c8 : w4.cell? ⟨K, 8, none⟩ = some (.int .i64 a8) := KK4.out.cell 8
  have c9 : w4.cell? ⟨K, 9, none⟩ = some (.int .i64 a9) := KK4.out.cell 9
  have c10 : w4.cell? ⟨K, 10, none⟩ = some (.int .i64 a10) := KK4.out.cell 10
  have c11 : w4.cell? ⟨K, 11, none⟩ = some (.int .i64 a11) := KK4.out.cell 11
  have c12 : w4.cell? ⟨K, 12, none⟩ = some (.int .i64 a12) := KK4.out.cell 12
  have lK := KK4.out.lt
  repeat' ((fail_if_success (with_reducible refine halt_at 7 ?_)); first | go_values | go_skip | go_guarded | go_step | go_upon | go_back | (simp only [Int.not_lt, Int.not_le] at *; go_simp) | (go_values <;> (try go_simp)) | (go_ite <;> go_prune <;> (try go_simp)) | (split <;> (first | (rename_i hx; exact (hx _ rfl).elim) | go_prune)))
  rw [← HW4.out, ← HK.out]
  clear HW4
  go_wp2_with fail
  refine (MBC.out _ _ _ _ RD4.out (EnvB.px (E := W.heap.size) ⟨W, ENV.out, thenB HB0.out B4.out, Nat.le_refl _⟩)).mono ?_
  rintro x w5 ⟨hx, h5⟩
  have B5 := Lib.hid (thenB B4.out h5)
  have H5 := Lib.hid (H4.out.later h5)
  have RD5 := Lib.hid (RD4.out.below h5)
  have KQ5 := Lib.hid (KQ4.out.below h5 KQ4.out.lt)
  clear h5 MBC H4 RD4 KQ4 B4 KK4 lK c0 c1 c2 c3 c4 c5 c6 c7 c8 c9 c10 c11 c12
  rcases hx with ⟨hre, rfl⟩ | ⟨hre, rfl⟩
  · obtain ⟨w6, hw6⟩ : ∃ w6, w6 = w5.alloc (.cells #[.string (bs e3.name), .int .u8 e3.kind, .int .i64 e3.mode, .int .i64 e3.uid, .int .i64 e3.gid, .int .i64 e3.size, .int .i64 e3.sec, .int .i64 e3.nano, .string (bs e3.link), .string (bs e3.user), .string (bs e3.group), .int .i64 e3.major, .int .i64 e3.minor, .string (bs e3.data), .slice none 0 0] 26) := ⟨_, rfl⟩
    have hb6 : Below w5.heap.size w5 w6 := by rw [hw6]; exact (Below.refl _ _).alloc (Nat.le_refl _) _
    have B6 := Lib.hid (thenB B5.out hb6)
    have H6 := Lib.hid (H5.out.later hb6)
    have RD6 := Lib.hid (RD5.out.below hb6)
    have KQ6 := Lib.hid (KQ5.out.below hb6 KQ5.out.lt)
    have KE6 := Lib.hid (show Blk w6 w5.heap.size 26 #[.string (bs e3.name), .int .u8 e3.kind, .int .i64 e3.mode, .int .i64 e3.uid, .int .i64 e3.gid, .int .i64 e3.size, .int .i64 e3.sec, .int .i64 e3.nano, .string (bs e3.link), .string (bs e3.user), .string (bs e3.group), .int .i64 e3.major, .int .i64 e3.minor, .string (bs e3.data), .slice none 0 0] by rw [hw6]; exact Blk.new w5 26 _)
    obtain ⟨E, hE⟩ : ∃ E, E = w5.heap.size := ⟨_, rfl⟩
    have hEQ : Q < E := by rw [hE]; exact KQ5.out.lt
    have HW6 := Lib.hid hw6
    have HE := Lib.hid hE
    have HRE := Lib.hid hre
    rw [← hE] at KE6
    unfold ev evc
    clear hb6 hw6 hE H5 RD5 KQ5 B5 hre
    repeat' ((fail_if_success (with_reducible refine halt_at 20 ?_)); first | go_values | go_skip | go_guarded | go_step | go_upon | go_back | (simp only [Int.not_lt, Int.not_le] at *; go_simp) | (go_values <;> (try go_simp)) | (go_ite <;> go_prune <;> (try go_simp)) | (split <;> (first | (rename_i hx; exact (hx _ rfl).elim) | go_prune)))
    rw [← HW6.out, ← HE.out]
    clear HW6
    have lE6 := KE6.out.lt
    have lR6 := RD6.out.blk.lt
    have bf := Below.refl w6.heap.size w6
    have KF := Lib.hid (fun w' (hb : Below w6.heap.size w6 w') => (show w'.cell? ⟨E, 0, none⟩ = some (.string (bs e3.name)) ∧ w'.cell? ⟨E, 1, none⟩ = some (.int .u8 e3.kind) ∧ w'.cell? ⟨E, 2, none⟩ = some (.int .i64 e3.mode) ∧ w'.cell? ⟨E, 3, none⟩ = some (.int .i64 e3.uid) ∧ w'.cell? ⟨E, 4, none⟩ = some (.int .i64 e3.gid) ∧ w'.cell? ⟨E, 5, none⟩ = some (.int .i64 e3.size) ∧ w'.cell? ⟨E, 6, none⟩ = some (.int .i64 e3.sec) ∧ w'.cell? ⟨E, 7, none⟩ = some (.int .i64 e3.nano) ∧ w'.cell? ⟨E, 8, none⟩ = some (.string (bs e3.link)) ∧ w'.cell? ⟨E, 9, none⟩ = some (.string (bs e3.user)) ∧ w'.cell? ⟨E, 10, none⟩ = some (.string (bs e3.group)) ∧ w'.cell? ⟨E, 11, none⟩ = some (.int .i64 e3.major) ∧ w'.cell? ⟨E, 12, none⟩ = some (.int .i64 e3.minor) ∧ w'.cell? ⟨E, 13, none⟩ = some (.string (bs e3.data)) ∧ w'.cell? ⟨E, 14, none⟩ = some (.slice none 0 0) ∧ w'.cell? ⟨R, 7, none⟩ = some (.slice Y g.length c1) from ⟨(KE6.out.below hb lE6).cell 0, (KE6.out.below hb lE6).cell 1, (KE6.out.below hb lE6).cell 2, (KE6.out.below hb lE6).cell 3, (KE6.out.below hb lE6).cell 4, (KE6.out.below hb lE6).cell 5, (KE6.out.below hb lE6).cell 6, (KE6.out.below hb lE6).cell 7, (KE6.out.below hb lE6).cell 8, (KE6.out.below hb lE6).cell 9, (KE6.out.below hb lE6).cell 10, (KE6.out.below hb lE6).cell 11, (KE6.out.below hb lE6).cell 12, (KE6.out.below hb lE6).cell 13, (KE6.out.below hb lE6).cell 14, (RD6.out.blk.below hb lR6).cell 7⟩))
    refine wp_region_held_drew (S := fun w' => w'.cell? ⟨E, 0, none⟩ = some (.string (bs e3.name)) ∧ w'.cell? ⟨E, 1, none⟩ = some (.int .u8 e3.kind) ∧ w'.cell? ⟨E, 2, none⟩ = some (.int .i64 e3.mode) ∧ w'.cell? ⟨E, 3, none⟩ = some (.int .i64 e3.uid) ∧ w'.cell? ⟨E, 4, none⟩ = some (.int .i64 e3.gid) ∧ w'.cell? ⟨E, 5, none⟩ = some (.int .i64 e3.size) ∧ w'.cell? ⟨E, 6, none⟩ = some (.int .i64 e3.sec) ∧ w'.cell? ⟨E, 7, none⟩ = some (.int .i64 e3.nano) ∧ w'.cell? ⟨E, 8, none⟩ = some (.string (bs e3.link)) ∧ w'.cell? ⟨E, 9, none⟩ = some (.string (bs e3.user)) ∧ w'.cell? ⟨E, 10, none⟩ = some (.string (bs e3.group)) ∧ w'.cell? ⟨E, 11, none⟩ = some (.int .i64 e3.major) ∧ w'.cell? ⟨E, 12, none⟩ = some (.int .i64 e3.minor) ∧ w'.cell? ⟨E, 13, none⟩ = some (.string (bs e3.data)) ∧ w'.cell? ⟨E, 14, none⟩ = some (.slice none 0 0) ∧ w'.cell? ⟨R, 7, none⟩ = some (.slice Y g.length c1)) (by kernel_rfl) (KF.out _ (Below.drew bf)) (fun hHeld => ?_)
    refine wpAnyH_takeD (i := 0) (d := 70) (listed' := #[true, false, false, false, false, false, false, false, false, false]) (v := ?_) rfl (by kernel_rfl) (by kernel_rfl) (by kernel_rfl) (by kernel_rfl) (by kernel_rfl) (fun _ _ _ h => h) (Or.inl ⟨by kernel_rfl, ?_⟩) (by assumption) ?_; rotate_left; (focus (intro w hSw; (try dsimp only at hSw); go_simp; (try with_reducible rfl))); (try simp only [List.foldl_cons, List.foldl_nil, Act.put, List.setIfInBounds_toArray, List.set_cons_zero, List.set_cons_succ])
    refine wpAnyH_takeD (i := 1) (d := 71) (listed' := #[true, true, false, false, false, false, false, false, false, false]) (v := ?_) rfl (by kernel_rfl) (by kernel_rfl) (by kernel_rfl) (by kernel_rfl) (by kernel_rfl) (fun _ _ _ h => h) (Or.inl ⟨by kernel_rfl, ?_⟩) (by assumption) ?_; rotate_left; (focus (intro w hSw; (try dsimp only at hSw); go_simp; (try with_reducible rfl))); (try simp only [List.foldl_cons, List.foldl_nil, Act.put, List.setIfInBounds_toArray, List.set_cons_zero, List.set_cons_succ])
    refine wpAnyH_takeD (i := 2) (d := 72) (listed' := #[true, true, true, false, false, false, false, false, false, false]) (v := ?_) rfl (by kernel_rfl) (by kernel_rfl) (by kernel_rfl) (by kernel_rfl) (by kernel_rfl) (fun _ _ _ h => h) (Or.inl ⟨by kernel_rfl, ?_⟩) (by assumption) ?_; rotate_left; (focus (intro w hSw; (try dsimp only at hSw); go_simp; (try with_reducible rfl))); (try simp only [List.foldl_cons, List.foldl_nil, Act.put, List.setIfInBounds_toArray, List.set_cons_zero, List.set_cons_succ])
    refine wpAnyH_takeD (i := 3) (d := 73) (listed' := #[true, true, true, true, false, false, false, false, false, false]) (v := ?_) rfl (by kernel_rfl) (by kernel_rfl) (by kernel_rfl) (by kernel_rfl) (by kernel_rfl) (fun _ _ _ h => h) (Or.inl ⟨by kernel_rfl, ?_⟩) (by assumption) ?_; rotate_left; (focus (intro w hSw; (try dsimp only at hSw); go_simp; (try with_reducible rfl))); (try simp only [List.foldl_cons, List.foldl_nil, Act.put, List.setIfInBounds_toArray, List.set_cons_zero, List.set_cons_succ])
    refine wpAnyH_takeD (i := 4) (d := 74) (listed' := #[true, true, true, true, true, false, false, false, false, false]) (v := ?_) rfl (by kernel_rfl) (by kernel_rfl) (by kernel_rfl) (by kernel_rfl) (by kernel_rfl) (fun _ _ _ h => h) (Or.inl ⟨by kernel_rfl, ?_⟩) (by assumption) ?_; rotate_left; (focus (intro w hSw; (try dsimp only at hSw); go_simp; (try with_reducible rfl))); (try simp only [List.foldl_cons, List.foldl_nil, Act.put, List.setIfInBounds_toArray, List.set_cons_zero, List.set_cons_succ])
    refine wpAnyH_takeD (i := 5) (d := 75) (listed' := #[true, true, true, true, true, true, false, false, false, false]) (v := ?_) rfl (by kernel_rfl) (by kernel_rfl) (by kernel_rfl) (by kernel_rfl) (by kernel_rfl) (fun _ _ _ h => h) (Or.inl ⟨by kernel_rfl, ?_⟩) (by assumption) ?_; rotate_left; (focus (intro w hSw; (try dsimp only at hSw); go_simp; (try with_reducible rfl))); (try simp only [List.foldl_cons, List.foldl_nil, Act.put, List.setIfInBounds_toArray, List.set_cons_zero, List.set_cons_succ])
    obtain ⟨x0, hx0⟩ : ∃ x, x = w6.drew := ⟨_, rfl⟩
    have BD := Lib.hid (show Below w6.heap.size w6 x0 by rw [hx0]; exact Below.drew bf)
    rw [← hx0]
    clear hx0 hHeld
    refine wpAnyH_ready (rs := [6]) (by kernel_rfl) (by simp) ?_
    refine AllReadyH.cons rfl (fun K hK => ?_) AllReadyH.nil
    have KQx := Lib.hid (KQ6.out.below BD.out KQ6.out.lt)
    have KEx := Lib.hid (KE6.out.below BD.out KE6.out.lt)
    have KRx := Lib.hid (RD6.out.blk.below BD.out lR6)
    have Hx := Lib.hid (H6.out.later BD.out)
    have d0 : x0.cell? ⟨Q, 0, none⟩ = some (.string ⟨#[]⟩) := KQx.out.cell 0
    have g0 := KQx.out.frozen 0
    have d1 : x0.cell? ⟨Q, 1, none⟩ = some (.int .u8 0) := KQx.out.cell 1
    have g1 := KQx.out.frozen 1
    have d2 : x0.cell? ⟨Q, 2, none⟩ = some (.int .i64 0) := KQx.out.cell 2
    have g2 := KQx.out.frozen 2
    have d3 : x0.cell? ⟨Q, 3, none⟩ = some (.int .i64 0) := KQx.out.cell 3
    have g3 := KQx.out.frozen 3
    have d4 : x0.cell? ⟨Q, 4, none⟩ = some (.int .i64 0) := KQx.out.cell 4
    have g4 := KQx.out.frozen 4
    have d5 : x0.cell? ⟨Q, 5, none⟩ = some (.int .i64 0) := KQx.out.cell 5
    have g5 := KQx.out.frozen 5
    have d6 : x0.cell? ⟨Q, 6, none⟩ = some (.int .i64 0) := KQx.out.cell 6
    have g6 := KQx.out.frozen 6
    have d7 : x0.cell? ⟨Q, 7, none⟩ = some (.int .i64 0) := KQx.out.cell 7
    have g7 := KQx.out.frozen 7
    have d8 : x0.cell? ⟨Q, 8, none⟩ = some (.string ⟨#[]⟩) := KQx.out.cell 8
    have g8 := KQx.out.frozen 8
    have d9 : x0.cell? ⟨Q, 9, none⟩ = some (.string ⟨#[]⟩) := KQx.out.cell 9
    have g9 := KQx.out.frozen 9
    have d10 : x0.cell? ⟨Q, 10, none⟩ = some (.string ⟨#[]⟩) := KQx.out.cell 10
    have g10 := KQx.out.frozen 10
    have d11 : x0.cell? ⟨Q, 11, none⟩ = some (.int .i64 0) := KQx.out.cell 11
    have g11 := KQx.out.frozen 11
    have d12 : x0.cell? ⟨Q, 12, none⟩ = some (.int .i64 0) := KQx.out.cell 12
    have g12 := KQx.out.frozen 12
    have d13 : x0.cell? ⟨Q, 13, none⟩ = some (.string ⟨#[]⟩) := KQx.out.cell 13
    have g13 := KQx.out.frozen 13
    have d14 : x0.cell? ⟨Q, 14, none⟩ = some (.slice none 0 0) := KQx.out.cell 14
    have g14 := KQx.out.frozen 14
    have lQ := KQx.out.lt
    go_simp
    have hX := set15 KQx.out (.string (bs e3.name)) (.int .u8 e3.kind) (.int .i64 e3.mode) (.int .i64 e3.uid) (.int .i64 e3.gid) (.int .i64 e3.size) (.int .i64 e3.sec) (.int .i64 e3.nano) (.string (bs e3.link)) (.string (bs e3.user)) (.string (bs e3.group)) (.int .i64 e3.major) (.int .i64 e3.minor) (.string (bs e3.data)) (.slice none 0 0)
    have hkX := ((((((((((((((((KeepE.refl Q x0.heap.size x0).set_ 0 (.string (bs e3.name))).set_ 1 (.int .u8 e3.kind)).set_ 2 (.int .i64 e3.mode)).set_ 3 (.int .i64 e3.uid)).set_ 4 (.int .i64 e3.gid)).set_ 5 (.int .i64 e3.size)).set_ 6 (.int .i64 e3.sec)).set_ 7 (.int .i64 e3.nano)).set_ 8 (.string (bs e3.link))).set_ 9 (.string (bs e3.user))).set_ 10 (.string (bs e3.group))).set_ 11 (.int .i64 e3.major)).set_ 12 (.int .i64 e3.minor)).set_ 13 (.string (bs e3.data))).set_ 14 (.slice none 0 0))
    generalize hX0 : World.setCell _ ⟨Q, 14, none⟩ (.slice none 0 0) = X at hX hkX ⊢
    have hEX := KEx.out.keepE hkX KEx.out.lt (by omega)
    have hRX := KRx.out.keepE hkX KRx.out.lt (by omega)
    have hHX := Hx.out.keepE hkX (by omega)
    refine hK.out _ _ ⟨hEX.cell 0, hEX.cell 1, hEX.cell 2, hEX.cell 3, hEX.cell 4, hEX.cell 5, hEX.cell 6, hEX.cell 7, hEX.cell 8, hEX.cell 9, hEX.cell 10, hEX.cell 11, hEX.cell 12, hEX.cell 13, hEX.cell 14, hRX.cell 7⟩ (fun hHeldZ => ?_)
    clear hK K
    (try simp only [List.foldl_cons, List.foldl_nil, Act.put, List.setIfInBounds_toArray, List.set_cons_zero, List.set_cons_succ])
    refine wpAnyH_takeD (i := 7) (d := 7) (listed' := #[true, true, true, true, true, true, true, true, false, false]) (v := ?_) rfl (by kernel_rfl) (by kernel_rfl) (by kernel_rfl) (by kernel_rfl) (by kernel_rfl) (fun _ _ _ h => h) (Or.inl ⟨by kernel_rfl, ?_⟩) (by assumption) ?_; rotate_left; (focus (intro w hSw; (try dsimp only at hSw); go_simp; (try with_reducible rfl))); (try simp only [List.foldl_cons, List.foldl_nil, Act.put, List.setIfInBounds_toArray, List.set_cons_zero, List.set_cons_succ])
    refine wpAnyH_takeD (i := 8) (d := 8) (listed' := #[true, true, true, true, true, true, true, true, true, false]) (v := ?_) rfl (by kernel_rfl) (by kernel_rfl) (by kernel_rfl) (by kernel_rfl) (by kernel_rfl) (fun _ _ _ h => h) (Or.inl ⟨by kernel_rfl, ?_⟩) (by assumption) ?_; rotate_left; (focus (intro w hSw; (try dsimp only at hSw); go_simp; (try with_reducible rfl))); (try simp only [List.foldl_cons, List.foldl_nil, Act.put, List.setIfInBounds_toArray, List.set_cons_zero, List.set_cons_succ])
    refine wpAnyH_takeD (i := 9) (d := 9) (listed' := #[true, true, true, true, true, true, true, true, true, true]) (v := ?_) rfl (by kernel_rfl) (by kernel_rfl) (by kernel_rfl) (by kernel_rfl) (by kernel_rfl) (fun _ _ _ h => h) (Or.inl ⟨by kernel_rfl, ?_⟩) (by assumption) ?_; rotate_left; (focus (intro w hSw; (try dsimp only at hSw); go_simp; (try with_reducible rfl))); (try simp only [List.foldl_cons, List.foldl_nil, Act.put, List.setIfInBounds_toArray, List.set_cons_zero, List.set_cons_succ])
    refine wpAnyH_done (by kernel_rfl) ?_ _
    have t0 : X.cell? ⟨Q, 0, none⟩ = some (.string (bs e3.name)) := hX.cell 0
    have t1 : X.cell? ⟨Q, 1, none⟩ = some (.int .u8 e3.kind) := hX.cell 1
    have t2 : X.cell? ⟨Q, 2, none⟩ = some (.int .i64 e3.mode) := hX.cell 2
    have t3 : X.cell? ⟨Q, 3, none⟩ = some (.int .i64 e3.uid) := hX.cell 3
    have t4 : X.cell? ⟨Q, 4, none⟩ = some (.int .i64 e3.gid) := hX.cell 4
    have t5 : X.cell? ⟨Q, 5, none⟩ = some (.int .i64 e3.size) := hX.cell 5
    have t6 : X.cell? ⟨Q, 6, none⟩ = some (.int .i64 e3.sec) := hX.cell 6
    have t7 : X.cell? ⟨Q, 7, none⟩ = some (.int .i64 e3.nano) := hX.cell 7
    have t8 : X.cell? ⟨Q, 8, none⟩ = some (.string (bs e3.link)) := hX.cell 8
    have t9 : X.cell? ⟨Q, 9, none⟩ = some (.string (bs e3.user)) := hX.cell 9
    have t10 : X.cell? ⟨Q, 10, none⟩ = some (.string (bs e3.group)) := hX.cell 10
    have t11 : X.cell? ⟨Q, 11, none⟩ = some (.int .i64 e3.major) := hX.cell 11
    have t12 : X.cell? ⟨Q, 12, none⟩ = some (.int .i64 e3.minor) := hX.cell 12
    have t13 : X.cell? ⟨Q, 13, none⟩ = some (.string (bs e3.data)) := hX.cell 13
    have t14 : X.cell? ⟨Q, 14, none⟩ = some (.slice none 0 0) := hX.cell 14
    have hXb : Below W.heap.size W X := ((KeepE.of (thenB HB0.out (thenB B6.out BD.out)) : KeepE Q W.heap.size W x0).step hkX (thenB HB0.out (thenB B6.out BD.out)).size).below (by rw [HQ.out]; exact Nat.le_refl _)
    go_wp2_with fail
    try simp only [Exit.inBlock, Exit.then]
    refine bodyPost_ret (v := .tuple #[.agg #[.string (bs e3.name), .int .u8 e3.kind, .int .i64 e3.mode, .int .i64 e3.uid, .int .i64 e3.gid, .int .i64 e3.size, .int .i64 e3.sec, .int .i64 e3.nano, .string (bs e3.link), .string (bs e3.user), .string (bs e3.group), .int .i64 e3.major, .int .i64 e3.minor, .string (bs e3.data), .slice none 0 0], .int .i64 FIN, .slice Y g.length c1, .nilIface]) ?_ rfl (by first | exact ⟨.inl ⟨HRE.out, _, hHX.mono hWQ, rfl⟩, hXb⟩ | exact ⟨.inl ⟨rfl, _, hHX.mono hWQ, rfl⟩, hXb⟩)
    simp [results, Tryz.results20, go_sem, t0, t1, t2, t3, t4, t5, t6, t7, t8, t9, t10, t11, t12, t13, t14]
  · obtain ⟨w6, hw6⟩ : ∃ w6, w6 = w5.alloc (.cells #[.string ⟨#[]⟩, .int .u8 0, .int .i64 0, .int .i64 0, .int .i64 0, .int .i64 0, .int .i64 0, .int .i64 0, .string ⟨#[]⟩, .string ⟨#[]⟩, .string ⟨#[]⟩, .int .i64 0, .int .i64 0, .string ⟨#[]⟩, .slice none 0 0] 26) := ⟨_, rfl⟩
    have hb6 : Below w5.heap.size w5 w6 := by rw [hw6]; exact (Below.refl _ _).alloc (Nat.le_refl _) _
    have B6 := Lib.hid (thenB B5.out hb6)
    have RD6 := Lib.hid (RD5.out.below hb6)
    have KQ6 := Lib.hid (KQ5.out.below hb6 KQ5.out.lt)
    have HW6 := Lib.hid hw6
    have HRE := Lib.hid hre
    clear hb6 hw6 H5 RD5 KQ5 B5 hre
    repeat' ((fail_if_success (with_reducible refine halt_at 18 ?_)); first | go_values | go_skip | go_guarded | go_step | go_upon | go_back | (simp only [Int.not_lt, Int.not_le] at *; go_simp) | (go_values <;> (try go_simp)) | (go_ite <;> go_prune <;> (try go_simp)) | (split <;> (first | (rename_i hx; exact (hx _ rfl).elim) | go_prune)))
    rw [← HW6.out]
    clear HW6
    go_wp2_with fail
    refine (WRC.out _ _ _ _ RD6.out 1 (ERT.out.below (thenB HB0.out B6.out))).mono ?_
    rintro x w7 ⟨⟨p, rfl, hp⟩, h7⟩
    have B7 := Lib.hid (thenB B6.out h7)
    have KQ7 := Lib.hid (KQ6.out.below h7 KQ6.out.lt)
    clear h7 hp RD6 KQ6 B6
    have d0 : w7.cell? ⟨Q, 0, none⟩ = some (.string ⟨#[]⟩) := KQ7.out.cell 0
    have g0 := KQ7.out.frozen 0
    have d1 : w7.cell? ⟨Q, 1, none⟩ = some (.int .u8 0) := KQ7.out.cell 1
    have g1 := KQ7.out.frozen 1
    have d2 : w7.cell? ⟨Q, 2, none⟩ = some (.int .i64 0) := KQ7.out.cell 2
    have g2 := KQ7.out.frozen 2
    have d3 : w7.cell? ⟨Q, 3, none⟩ = some (.int .i64 0) := KQ7.out.cell 3
    have g3 := KQ7.out.frozen 3
    have d4 : w7.cell? ⟨Q, 4, none⟩ = some (.int .i64 0) := KQ7.out.cell 4
    have g4 := KQ7.out.frozen 4
    have d5 : w7.cell? ⟨Q, 5, none⟩ = some (.int .i64 0) := KQ7.out.cell 5
    have g5 := KQ7.out.frozen 5
    have d6 : w7.cell? ⟨Q, 6, none⟩ = some (.int .i64 0) := KQ7.out.cell 6
    have g6 := KQ7.out.frozen 6
    have d7 : w7.cell? ⟨Q, 7, none⟩ = some (.int .i64 0) := KQ7.out.cell 7
    have g7 := KQ7.out.frozen 7
    have d8 : w7.cell? ⟨Q, 8, none⟩ = some (.string ⟨#[]⟩) := KQ7.out.cell 8
    have g8 := KQ7.out.frozen 8
    have d9 : w7.cell? ⟨Q, 9, none⟩ = some (.string ⟨#[]⟩) := KQ7.out.cell 9
    have g9 := KQ7.out.frozen 9
    have d10 : w7.cell? ⟨Q, 10, none⟩ = some (.string ⟨#[]⟩) := KQ7.out.cell 10
    have g10 := KQ7.out.frozen 10
    have d11 : w7.cell? ⟨Q, 11, none⟩ = some (.int .i64 0) := KQ7.out.cell 11
    have g11 := KQ7.out.frozen 11
    have d12 : w7.cell? ⟨Q, 12, none⟩ = some (.int .i64 0) := KQ7.out.cell 12
    have g12 := KQ7.out.frozen 12
    have d13 : w7.cell? ⟨Q, 13, none⟩ = some (.string ⟨#[]⟩) := KQ7.out.cell 13
    have g13 := KQ7.out.frozen 13
    have d14 : w7.cell? ⟨Q, 14, none⟩ = some (.slice none 0 0) := KQ7.out.cell 14
    have g14 := KQ7.out.frozen 14
    have lQ := KQ7.out.lt
    go_wp2_with fail
    have hX := set15 KQ7.out (.string ⟨#[]⟩) (.int .u8 0) (.int .i64 0) (.int .i64 0) (.int .i64 0) (.int .i64 0) (.int .i64 0) (.int .i64 0) (.string ⟨#[]⟩) (.string ⟨#[]⟩) (.string ⟨#[]⟩) (.int .i64 0) (.int .i64 0) (.string ⟨#[]⟩) (.slice none 0 0)
    have hXb := below15 (thenB HB0.out B7.out) (show W.heap.size ≤ Q by rw [HQ.out]; exact Nat.le_refl _) (.string ⟨#[]⟩) (.int .u8 0) (.int .i64 0) (.int .i64 0) (.int .i64 0) (.int .i64 0) (.int .i64 0) (.int .i64 0) (.string ⟨#[]⟩) (.string ⟨#[]⟩) (.string ⟨#[]⟩) (.int .i64 0) (.int .i64 0) (.string ⟨#[]⟩) (.slice none 0 0)
    generalize hX0 : World.setCell _ ⟨Q, 14, none⟩ (.slice none 0 0) = X at hX hXb ⊢
    have t0 : X.cell? ⟨Q, 0, none⟩ = some (.string ⟨#[]⟩) := hX.cell 0
    have t1 : X.cell? ⟨Q, 1, none⟩ = some (.int .u8 0) := hX.cell 1
    have t2 : X.cell? ⟨Q, 2, none⟩ = some (.int .i64 0) := hX.cell 2
    have t3 : X.cell? ⟨Q, 3, none⟩ = some (.int .i64 0) := hX.cell 3
    have t4 : X.cell? ⟨Q, 4, none⟩ = some (.int .i64 0) := hX.cell 4
    have t5 : X.cell? ⟨Q, 5, none⟩ = some (.int .i64 0) := hX.cell 5
    have t6 : X.cell? ⟨Q, 6, none⟩ = some (.int .i64 0) := hX.cell 6
    have t7 : X.cell? ⟨Q, 7, none⟩ = some (.int .i64 0) := hX.cell 7
    have t8 : X.cell? ⟨Q, 8, none⟩ = some (.string ⟨#[]⟩) := hX.cell 8
    have t9 : X.cell? ⟨Q, 9, none⟩ = some (.string ⟨#[]⟩) := hX.cell 9
    have t10 : X.cell? ⟨Q, 10, none⟩ = some (.string ⟨#[]⟩) := hX.cell 10
    have t11 : X.cell? ⟨Q, 11, none⟩ = some (.int .i64 0) := hX.cell 11
    have t12 : X.cell? ⟨Q, 12, none⟩ = some (.int .i64 0) := hX.cell 12
    have t13 : X.cell? ⟨Q, 13, none⟩ = some (.string ⟨#[]⟩) := hX.cell 13
    have t14 : X.cell? ⟨Q, 14, none⟩ = some (.slice none 0 0) := hX.cell 14
    try simp only [Exit.inBlock, Exit.then]
    refine bodyPost_ret (v := .tuple #[.agg #[.string ⟨#[]⟩, .int .u8 0, .int .i64 0, .int .i64 0, .int .i64 0, .int .i64 0, .int .i64 0, .int .i64 0, .string ⟨#[]⟩, .string ⟨#[]⟩, .string ⟨#[]⟩, .int .i64 0, .int .i64 0, .string ⟨#[]⟩, .slice none 0 0], .int .i64 0, .slice none 0 0, .iface 106 (.pointer (some ⟨p, 0, none⟩))]) ?_ rfl (by first | exact ⟨.inr ⟨HRE.out, p, rfl⟩, hXb⟩ | exact ⟨.inr ⟨rfl, p, rfl⟩, hXb⟩)
    simp [results, Tryz.results20, go_sem, t0, t1, t2, t3, t4, t5, t6, t7, t8, t9, t10, t11, t12, t13, t14]

end Go.Proofs.YtkhkjacnoiopcaaGreatDoor
