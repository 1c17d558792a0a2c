/-
  The pattern reader: a token.
-/
import Derived.Test.YtpoofienimigaaaGlobB
import Derived.Deep.RegionHeld3
import Derived.Deep.DrawnRows
attribute [local go_sem ↓] Go.wp_at_zero Go.wp_at_succ
namespace Go.Proofs.Ytpoofienimigaaa
open Go.RowKit

/-- The state of a token that is being made. -/
structure TokSt (w0 w : World) (b : Nat) (s : ByteArray) (k : Nat) (m d : Bool) (acc : UInt8 → Bool) : Prop where
  rdr : Rdr w b s k
  res : Blk w w0.heap.size 60 (tokArr false false (fun _ => false))
  tok : Blk w (w0.heap.size + 1) 60 (tokArr m d acc)
  only : w0.grownBy w (some b)
  lt : b < w0.heap.size
theorem SetSt.toTok {w0 w : World} {b : Nat} {s : ByteArray} {k : Nat} {acc : UInt8 → Bool} (h : SetSt w0 w b s k acc) : TokSt w0 w b s k false false acc := ⟨h.rdr, h.res, h.tok, h.only, h.lt⟩
theorem tokArr_set0 (m d v : Bool) (f : UInt8 → Bool) : (tokArr m d f).setIfInBounds 0 (.bool v) = tokArr v d f := by simp [tokArr]
theorem tokArr_set1 (m d v : Bool) (f : UInt8 → Bool) : (tokArr m d f).setIfInBounds 1 (.bool v) = tokArr m v f := by simp [tokArr]
theorem TokSt.many {w0 w : World} {b : Nat} {s : ByteArray} {k : Nat} {m d : Bool} {acc : UInt8 → Bool} (h : TokSt w0 w b s k m d acc) (v : Bool) : TokSt w0 (w.setCell ⟨w0.heap.size + 1, 0, none⟩ (.bool v)) b s k v d acc :=
  ⟨h.rdr.far (by have := h.lt; simp; omega) _, h.res.far (by simp) _, by have := h.tok.set_ 0 (.bool v); rwa [tokArr_set0] at this, only_setCell h.only (.inr (by simp)) _, h.lt⟩
theorem TokSt.deep {w0 w : World} {b : Nat} {s : ByteArray} {k : Nat} {m d : Bool} {acc : UInt8 → Bool} (h : TokSt w0 w b s k m d acc) (v : Bool) : TokSt w0 (w.setCell ⟨w0.heap.size + 1, 1, none⟩ (.bool v)) b s k m v acc :=
  ⟨h.rdr.far (by have := h.lt; simp; omega) _, h.res.far (by simp) _, by have := h.tok.set_ 1 (.bool v); rwa [tokArr_set1] at this, only_setCell h.only (.inr (by simp)) _, h.lt⟩
theorem TokSt.step {w0 w w' : World} {b : Nat} {s : ByteArray} {k k' : Nat} {m d : Bool} {acc : UInt8 → Bool} (h : TokSt w0 w b s k m d acc) (hr : Rdr w' b s k') (ho : w.grownBy w' (some b)) : TokSt w0 w' b s k' m d acc :=
  ⟨hr, h.res.grown ho (by have := h.lt; simp; omega), h.tok.grown ho (by have := h.lt; simp; omega), only_trans h.only ho, h.lt⟩
theorem TokSt.drewN {w0 w : World} {b : Nat} {s : ByteArray} {k : Nat} {m d : Bool} {acc : UInt8 → Bool} (h : TokSt w0 w b s k m d acc) (n : Nat) : TokSt w0 (w.drewN n) b s k m d acc :=
  h.step (h.rdr.drewN n) (only_drewN (only_refl _ _) n)
theorem TokSt.drew {w0 w : World} {b : Nat} {s : ByteArray} {k : Nat} {m d : Bool} {acc : UInt8 → Bool} (h : TokSt w0 w b s k m d acc) : TokSt w0 w.drew b s k m d acc :=
  h.step h.rdr.drew (only_drew (only_refl _ _))
theorem TokSt.at_ {w0 w : World} {b : Nat} {s : ByteArray} {k : Nat} {m d : Bool} {acc : UInt8 → Bool} (h : TokSt w0 w b s k m d acc) (q : Int) (j : Nat) (hq : q = j) : TokSt w0 (w.setCell ⟨b, 1, none⟩ (.int .i64 q)) b s j m d acc :=
  h.step (rdr_set h.rdr q j hq) (only_setCell (only_refl _ _) (.inl rfl) _)
theorem TokSt.end_ {w w' : World} {b : Nat} {s : ByteArray} {k k' : Nat} {m d : Bool} {acc : UInt8 → Bool} (h : TokSt w w' b s k' m d acc) (h1 : k < k') (h2 : k' ≤ s.size) :
    SetPost w b s k (some (⟨m, d, acc⟩, s.data.toList.drop k')) (.returned (.tuple #[.agg (tokArr m d acc), .bool true])) (w'.setRow w.heap.size (tokArr m d acc)) :=
  ⟨rfl, k', h1, h2, rfl, h.rdr.farRow (by have := h.lt; omega) _, only_setRow h.only (.inr (Nat.le_refl _)) _⟩

set_option maxRecDepth 100000 in
set_option maxHeartbeats 4000000 in
theorem next_walk (b : Nat) (s : ByteArray) (k : Nat) (w : World) (hr : Rdr w b s k) (hs : s.size ≤ 1000) (hk : k < s.size) :
    Calls Try.prog 29 #[.pointer (some ⟨b, 0, none⟩)] w fun e w' => SetPost w b s k (Glb.next (s.data.toList.drop k)) e w' := by
  have hz := zeroTok
  have hlt := hr.lt
  have HR := Lib.hid hr
  obtain ⟨res, hres⟩ : ∃ res, res = Glb.next (s.data.toList.drop k) := ⟨_, rfl⟩
  rw [← hres]
  have hdr := drop_at s k hk
  rw [hdr] at hres
  have Hres := Lib.hid hres
  clear hr hres hdr
  go_enter Try.func29, Try.ntmps29
  go_wp2_with fail
  obtain ⟨w1, hw1⟩ : ∃ w1, w1 = (w.alloc (Obj.cells (tokArr false false fun x => false) 60)).alloc (Obj.cells (tokArr false false fun x => false) 60) := ⟨_, rfl⟩
  rw [← hw1]
  have S : SetSt w w1 b s k (fun _ => false) := by
    rw [hw1]
    exact ⟨(HR.out.alloc _).alloc _, (Blk.new _ _ _).alloc _, by simpa using Blk.new (w.alloc _) _ _, only_alloc (only_alloc (only_refl _ _) _) _, hlt⟩
  have HS := Lib.hid S
  have c0 := S.rdr.cell 0
  have c1 := S.rdr.cell 1
  have f1 := S.rdr.frozen 1
  have t0 := S.tok.cell 0
  have t1 := S.tok.cell 1
  have u0 := S.tok.frozen 0
  have u1 := S.tok.frozen 1
  rw [tokArr_0] at t0
  rw [tokArr_1] at t1
  simp at c0 c1
  clear hw1 HR S
  have ew : IntKind.i64.wrap (k : Int) = (k : Int) := IntWalk.i64_in _ (by omega)
  have hk1 : (k : Int) < s.size := by omega
  go_quiet (fail)
  clear ew
  by_cases h42 : s[k] = 42
  · have h42' : ((s[k].toNat : Int) == 42) = true := u8_eq (d := 42) h42
    have H42 := Lib.hid h42
    clear h42
    go_wp2_with fail
    obtain ⟨w2, hw2⟩ : ∃ w2, w2 = (w1.drewN nq).setCell ⟨b, 1, none⟩ (.int .i64 ((k : Int) + 1)) := ⟨_, rfl⟩
    rw [← hw2]
    have S2 : SetSt w w2 b s (k + 1) (fun _ => false) := by rw [hw2]; exact (HS.out.drewN nq).at_ _ _ (by omega)
    clear hw2 HS c0 c1 f1 t0 t1 u0 u1
    have c0 := S2.rdr.cell 0
    have c1 := S2.rdr.cell 1
    have t0 := S2.tok.cell 0
    have t1 := S2.tok.cell 1
    have u0 := S2.tok.frozen 0
    have u1 := S2.tok.frozen 1
    rw [tokArr_0] at t0
    rw [tokArr_1] at t1
    simp at c0 c1
    have HS := Lib.hid S2
    clear S2
    have ew : IntKind.i64.wrap ((k : Int) + 1) = (k : Int) + 1 := IntWalk.i64_in _ (by omega)
    have en : (0 : Int) ≤ (k : Int) + 1 := by omega
    have et : ((k : Int) + 1).toNat = k + 1 := by omega
    have hbne : b ≠ w.heap.size + 1 := by omega
    have hbne2 : w.heap.size + 1 ≠ b := by omega
    go_cut [] (fun wx => ∃ dp : Bool, TokSt w wx b s (k + 1) true dp (fun _ => false) ∧ (dp = true → k + 1 < s.size ∧ res = some (⟨true, true, fun _ => false⟩, s.data.toList.drop (k + 2))) ∧
      (dp = false → res = some (⟨true, false, fun _ => false⟩, s.data.toList.drop (k + 1))))
    case first =>
      by_cases hk2 : k + 1 < s.size
      · have hk3 : (k : Int) + 1 < s.size := by omega
        --[
        by_cases h2 : s[k+1] = 42
        · have h2' : ((s[k+1].toNat : Int) == 42) = true := u8_eq (d := 42) h2
          have H2 := Lib.hid h2
          clear h2
          go_region_held3 (fun w' => w'.cell? ⟨b, 0, none⟩ = some (.string s) ∧ w'.cell? ⟨b, 1, none⟩ = some (.int .i64 ((k : Int) + 1))) (go_keep) (fail)
          all_goals go_wp2_with fail
          all_goals go_meet
          all_goals
            refine ⟨true, ((HS.out.toTok.many true).deep true).drew, fun _ => ⟨hk2, ?_⟩, (fun h => by cases h)⟩
            rw [Hres.out, drop_at s (k + 1) hk2, H42.out, H2.out]
            rfl
        · have h2' : ((s[k+1].toNat : Int) == 42) = false := u8_ne (d := 42) h2
          have H2 := Lib.hid h2
          clear h2
          go_region_held3 (fun w' => w'.cell? ⟨b, 0, none⟩ = some (.string s) ∧ w'.cell? ⟨b, 1, none⟩ = some (.int .i64 ((k : Int) + 1))) (go_keep) (fail)
          all_goals go_wp2_with fail
          all_goals go_meet
          all_goals
            refine ⟨false, ((HS.out.toTok.many true).deep false).drew, (fun h => by cases h), fun _ => ?_⟩
            rw [Hres.out, drop_at s (k + 1) hk2, H42.out]
            simp [Glb.next, H2.out]
        --]
      · have hd : decide ((k : Int) + 1 < s.size) = false := by simp; omega
        have Hk2 := Lib.hid hk2
        clear hk2
        go_region
        all_goals go_wp2_with fail
        all_goals go_meet
        all_goals
          refine ⟨false, ((HS.out.toTok.many true).deep false).drew, (fun h => by cases h), fun _ => ?_⟩
          have hk2 := Hk2.out
          rw [Hres.out, drop_over s (k + 1) (by omega), H42.out]
          simp [Glb.next]
    case rest =>
      obtain ⟨dp, S3, hdt, hdf⟩ := hcut
      clear HS c0 c1 t0 t1 u0 u1 ew en et
      have c1 := S3.rdr.cell 1
      have f1 := S3.rdr.frozen 1
      have t1 := S3.tok.cell 1
      rw [tokArr_1] at t1
      simp at c1
      cases dp
      · have Hr := Lib.hid (hdf rfl)
        have hT := Lib.hid S3.tok
        have hRs := Lib.hid S3.res
        have HS := Lib.hid S3
        clear hdt hdf S3
        go_wp2_with (first
          | (refine wpList_load_row rfl 60 (.tmp 4) rfl (w.heap.size + 1) rfl 60 _ (0, 0) _ hT.out Try.underlying60 rfl (infoTok' _ _ _) ?_)
          | (refine wpList_store_row rfl 60 (.tmp 2) (.tmp 103) rfl w.heap.size _ rfl rfl 60 _ hRs.out (infoTok' _ _ _) (by rw [tokArr_size, tokArr_size]) (tokArr_all _ _ _) ?_))
        refine bodyPost_ret (results_tok (p := 2) (u := 3) rfl _ _ w.heap.size _ _ _ rfl (hRs.out.row _)) rfl ?_
        rw [Hr.out]
        exact HS.out.end_ (by omega) (by omega)
      · obtain ⟨hk2, hr⟩ := hdt rfl
        have Hr := Lib.hid hr
        have S4 := S3.at_ ((k : Int) + 1 + 1) (k + 2) (by omega)
        have hT := Lib.hid S4.tok
        have hRs := Lib.hid S4.res
        have HS := Lib.hid S4
        clear hdt hdf S3 S4 hr
        go_wp2_with (first
          | (refine wpList_load_row rfl 60 (.tmp 4) rfl (w.heap.size + 1) rfl 60 _ (0, 0) _ hT.out Try.underlying60 rfl (infoTok' _ _ _) ?_)
          | (refine wpList_store_row rfl 60 (.tmp 2) (.tmp 103) rfl w.heap.size _ rfl rfl 60 _ hRs.out (infoTok' _ _ _) (by rw [tokArr_size, tokArr_size]) (tokArr_all _ _ _) ?_))
        refine bodyPost_ret (results_tok (p := 2) (u := 3) rfl _ _ w.heap.size _ _ _ rfl (hRs.out.row _)) rfl ?_
        rw [Hr.out]
        exact HS.out.end_ (by omega) (by omega)
  · have h42' : ((s[k].toNat : Int) == 42) = false := u8_ne (d := 42) h42
    by_cases h63 : s[k] = 63
    · have h63' : ((s[k].toNat : Int) == 63) = true := u8_eq (d := 63) h63
      have hr1 : res = some (⟨false, false, fun x => x != 47⟩, s.data.toList.drop (k + 1)) := by rw [Hres.out, h63]; simp [Glb.next]
      have Hr := Lib.hid hr1
      clear h42 h63 hr1 t0 t1 u0 u1
      go_wp2_with fail
      obtain ⟨w2, hw2⟩ : ∃ w2, w2 = (w1.drewN nq).setCell ⟨b, 1, none⟩ (.int .i64 ((k : Int) + 1)) := ⟨_, rfl⟩
      rw [← hw2]
      have S2 : Hid (SetSt w w2 b s (k + 1) (fun _ => false)) := by rw [hw2]; exact (HS.out.drewN nq).at_ _ _ (by omega)
      clear hw2 HS c0 c1 f1
      go_loopg [81] (257) (fun g iv wr => ∃ i : Nat, iv = .int .i64 i ∧ i ≤ 256 ∧ g + i = 257 ∧ SetSt w wr b s (k + 1) (fun x => if x.toNat < i then x != 47 else false))
      case atStart => exact ⟨0, rfl, by omega, by omega, by simpa using S2.out⟩
      case round =>
        obtain ⟨i, rfl, hi, hgi, hS⟩ := hrel
        by_cases hi2 : i < 256
        · have cT := (hS.tok.cell (2 + i)).trans (tokArr_at _ _ _ i hi2)
          have fT := hS.tok.frozen (2 + i)
          have e : (UInt8.ofNat i).toNat = i := by simp [UInt8.toNat_ofNat']; omega
          rw [e, if_neg (by omega)] at cT
          have HS := Lib.hid hS
          have He := Lib.hid e
          have Hg := Lib.hid hgi
          have hi3 : (i : Int) < 256 := by omega
          clear hS e hgi
          have fin : ∀ u, u = ((i : Int) != 47) → SetSt w (wr.setCell ⟨w.heap.size + 1, 2 + i, none⟩ (.bool u)) b s (k + 1) (fun x => if x.toNat < i + 1 then x != 47 else false) := by
            intro u hu
            refine HS.out.put i u hi2 (fun x => ?_)
            by_cases hx : x.toNat = i
            · have hx' : x = UInt8.ofNat i := UInt8.toNat_inj.1 (by rw [hx, He.out])
              rw [if_pos hx, if_pos (by omega), hu, hx']
              have e47 : (((UInt8.ofNat i).toNat : Int) != 47) = (UInt8.ofNat i != 47) := by
                unfold bne
                exact congrArg _ (u8_beq _ 47)
              rw [← e47, He.out]
            · rw [if_neg hx]
              by_cases h1 : x.toNat < i
              · rw [if_pos h1, if_pos (by omega)]
              · rw [if_neg h1, if_neg (by omega)]
          have Fin := Lib.hid fin
          clear fin
          go_wp2_with fail
          go_roundg (256 - i)
          case measure => have := Hg.out; omega
          case rel => exact ⟨i + 1, by go_num, by omega, by omega, Fin.out _ (by simp)⟩
        · obtain rfl : i = 256 := by omega
          have hfin : SetSt w wr b s (k + 1) (fun x => x != 47) := by
            refine ⟨hS.rdr, hS.res, ?_, hS.only, hS.lt⟩
            have := hS.tok
            rwa [show (fun x : UInt8 => if x.toNat < 256 then x != 47 else false) = (fun x => x != 47) from funext fun x => if_pos x.toNat_lt] at this
          have hT := Lib.hid hfin.tok
          have hRs := Lib.hid hfin.res
          have HS := Lib.hid hfin.toTok
          clear hfin hS hgi hi2 hi
          go_wp2_with (first
            | (refine wpList_load_row rfl 60 (.tmp 4) rfl (w.heap.size + 1) rfl 60 _ (0, 0) _ hT.out Try.underlying60 rfl (infoTok' _ _ _) ?_)
            | (refine wpList_store_row rfl 60 (.tmp 2) (.tmp 103) rfl w.heap.size _ rfl rfl 60 _ hRs.out (infoTok' _ _ _) (by rw [tokArr_size, tokArr_size]) (tokArr_all _ _ _) ?_))
          refine bodyPost_ret (results_tok (p := 2) (u := 3) rfl _ _ w.heap.size _ _ _ rfl (hRs.out.row _)) rfl ?_
          rw [Hr.out]
          exact HS.out.end_ (by omega) (by omega)
    · have h63' : ((s[k].toNat : Int) == 63) = false := u8_ne (d := 63) h63
      by_cases h91 : s[k] = 91
      · have h91' : ((s[k].toNat : Int) == 91) = true := u8_eq (d := 91) h91
        have hr1 : res = Glb.setP (s.data.toList.drop (k + 1)) := by rw [Hres.out, h91]; simp [Glb.next]
        have Hr := Lib.hid hr1
        clear h42 h63 h91 hr1 t0 t1 u0 u1
        have S2 := Lib.hid ((HS.out.drewN nq).at_ ((k : Int) + 1) (k + 1) (by omega))
        go_wp2_with fail
        refine (set_walk b s (k + 1) _ S2.out.rdr hs (by omega)).mono ?_
        rintro e w4 hpost
        rw [← Hr.out] at hpost
        clear Hr c0 c1 f1 HS
        cases res with
        | none =>
          obtain ⟨rfl, ho⟩ := hpost
          have hRs := Lib.hid (S2.out.res.grown ho (by have := S2.out.lt; simp; omega))
          have hO := Lib.hid (only_trans S2.out.only ho)
          clear ho
          go_wp2_with (refine wpList_store_row rfl 60 (.tmp 2) (.tmp 101) rfl w.heap.size _ rfl rfl 60 _ hRs.out (infoTok' _ _ _) (by rw [tokArr_size]) (tokArr_all _ _ _) ?_)
          refine bodyPost_ret (results_tok (p := 2) (u := 3) rfl _ _ w.heap.size _ _ _ rfl (hRs.out.row _)) rfl ?_
          exact ⟨rfl, only_setRow hO.out (.inr (Nat.le_refl _)) _⟩
        | some p =>
          obtain ⟨⟨m, d, f⟩, r⟩ := p
          obtain ⟨rfl, k2, hk2a, hk2b, rfl, hrd, ho⟩ := hpost
          have S5 := S2.out.step hrd ho
          have hRs := Lib.hid S5.res
          have HS := Lib.hid S5
          clear ho hrd S5
          go_wp2_with (refine wpList_store_row rfl 60 (.tmp 2) (.tmp 101) rfl w.heap.size _ rfl rfl 60 _ hRs.out (infoTok' _ _ _) (by rw [tokArr_size, tokArr_size]) (tokArr_all _ _ _) ?_)
          refine bodyPost_ret (results_tok (p := 2) (u := 3) rfl _ _ w.heap.size _ _ _ rfl (hRs.out.row _)) rfl ?_
          exact ⟨rfl, k2, by omega, hk2b, rfl, HS.out.rdr.farRow (by have := HS.out.lt; omega) _, only_setRow HS.out.only (.inr (Nat.le_refl _)) _⟩
      · have h91' : ((s[k].toNat : Int) == 91) = false := u8_ne (d := 91) h91
        have hres2 : res = match Glb.one (s.data.toList.drop k) with | none => none | some (d, r') => some (⟨false, false, fun x => x == d⟩, r') := by
          rw [Hres.out, drop_at s k hk]; simp [Glb.next, h42, h63, h91]; rcases Glb.one (s[k] :: s.data.toList.drop (k + 1)) with _ | ⟨d, r'⟩ <;> rfl
        have S2 := Lib.hid (HS.out.drewN nq)
        go_wp2_with fail
        cases hone : Glb.one (s.data.toList.drop k) with
        | none =>
          rw [hone] at hres2
          refine (one_none b s k _ S2.out.rdr hs (by omega) hone).mono ?_
          rintro e w4 ⟨rfl, ho⟩
          have hRs := Lib.hid (S2.out.res.grown ho (by have := S2.out.lt; simp; omega))
          have hO := Lib.hid (only_trans S2.out.only ho)
          have Hr := Lib.hid hres2
          clear hone ho hres2 h42 h63 h91 HS c0 c1 f1 t0 t1 u0 u1
          go_wp2_with (first
            | (refine wpList_build_tok rfl rfl ?_)
            | (refine wpList_store_row rfl 60 (.tmp 2) (.tmp 26) rfl w.heap.size _ rfl rfl 60 _ hRs.out (infoTok' _ _ _) (by rw [tokArr_size]) (tokArr_all _ _ _) ?_))
          refine bodyPost_ret (results_tok (p := 2) (u := 3) rfl _ _ w.heap.size _ _ _ rfl (hRs.out.row _)) rfl ?_
          rw [Hr.out]
          exact ⟨rfl, only_setRow hO.out (.inr (Nat.le_refl _)) _⟩
        | some p =>
          obtain ⟨c, r1⟩ := p
          rw [hone] at hres2
          refine (one_some b s k _ c r1 S2.out.rdr hs hone).mono ?_
          rintro e w4 ⟨rfl, k2, hk2a, hk2b, rfl, hrd, ho⟩
          have S4 := S2.out.step hrd ho
          have hc := u8_nat_lt c
          have hc5 : (c.toNat : Int) < 256 := u8_lt c
          have cT := (S4.tok.cell (2 + c.toNat)).trans (tokArr_at _ _ _ c.toNat hc)
          have fT := S4.tok.frozen (2 + c.toNat)
          have S5 : SetSt w (w4.setCell ⟨w.heap.size + 1, 2 + c.toNat, none⟩ (.bool true)) b s k2 (fun x => x == c) := by
            refine S4.put c.toNat true hc (fun x => ?_)
            by_cases hx : x.toNat = c.toNat
            · rw [if_pos hx, UInt8.toNat_inj.1 hx]; simp
            · rw [if_neg hx]
              rw [beq_eq_false_iff_ne]
              intro h; exact hx (by rw [h])
          have hT := Lib.hid S5.tok
          have hRs := Lib.hid S5.res
          have HS5 := Lib.hid S5.toTok
          have Hr := Lib.hid hres2
          clear hone ho hres2 h42 h63 h91 HS c0 c1 f1 t0 t1 u0 u1 hrd S4 S5
          go_wp2_with (first
            | (refine wpList_load_row rfl 60 (.tmp 4) rfl (w.heap.size + 1) rfl 60 _ (0, 0) _ hT.out Try.underlying60 rfl (infoTok' _ _ _) ?_)
            | (refine wpList_store_row rfl 60 (.tmp 2) (.tmp 103) rfl w.heap.size _ rfl rfl 60 _ hRs.out (infoTok' _ _ _) (by rw [tokArr_size, tokArr_size]) (tokArr_all _ _ _) ?_))
          refine bodyPost_ret (results_tok (p := 2) (u := 3) rfl _ _ w.heap.size _ _ _ rfl (hRs.out.row _)) rfl ?_
          rw [Hr.out]
          exact HS5.out.end_ (by omega) (by omega)

end Go.Proofs.Ytpoofienimigaaa
