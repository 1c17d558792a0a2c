/-
  The pattern reader: a set.
-/
import Derived.Test.YtpoofienimigaaaGlobA
import Derived.Deep.LoopGhost
import Derived.Deep.DeepCutAuto
import Derived.Deep.MidRow
namespace Go.Proofs.Ytpoofienimigaaa
open Go.RowKit

/-- A token's cells. -/
def tokArr (m d : Bool) (f : UInt8 → Bool) : Array Value := ((Value.bool m :: Value.bool d :: (List.range 256).map (fun i => Value.bool (f (UInt8.ofNat i))))).toArray

theorem tokArr_size (m d : Bool) (f : UInt8 → Bool) : (tokArr m d f).size = 258 := by simp [tokArr]
theorem tokArr_at (m d : Bool) (f : UInt8 → Bool) (i : Nat) (h : i < 256) : (tokArr m d f)[2 + i]? = some (.bool (f (UInt8.ofNat i))) := by
  rw [Nat.add_comm]; simp [tokArr, h]
theorem tokArr_0 (m d : Bool) (f : UInt8 → Bool) : (tokArr m d f)[0]? = some (.bool m) := rfl
theorem tokArr_1 (m d : Bool) (f : UInt8 → Bool) : (tokArr m d f)[1]? = some (.bool d) := rfl
theorem tokArr_set (m d : Bool) (f g : UInt8 → Bool) (i : Nat) (v : Bool) (h : i < 256) (hg : ∀ x : UInt8, g x = if x.toNat = i then v else f x) : (tokArr m d f).setIfInBounds (2 + i) (.bool v) = tokArr m d g := by
  apply Array.ext_getElem?
  intro j
  rw [Array.getElem?_setIfInBounds]
  rcases j with _ | _ | j
  · rw [if_neg (by omega), tokArr_0, tokArr_0]
  · rw [if_neg (by omega), tokArr_1, tokArr_1]
  · by_cases hj : j < 256
    · rw [show j + 1 + 1 = 2 + j by omega, tokArr_at m d g j hj, tokArr_at m d f j hj, tokArr_size, hg]
      have e : (UInt8.ofNat j).toNat = j := by simp [UInt8.toNat_ofNat']; omega
      rw [e]
      by_cases hij : i = j
      · subst hij; rw [if_pos rfl, if_pos (by omega), if_pos rfl]
      · rw [if_neg (by omega), if_neg (by omega)]
    · rw [if_neg (by omega)]
      rw [Array.getElem?_eq_none (by rw [tokArr_size]; omega), Array.getElem?_eq_none (by rw [tokArr_size]; omega)]
theorem tokArr_all (m d : Bool) (f : UInt8 → Bool) : (tokArr m d f).all (·.oneCell') = true := by
  rw [Array.all_eq_true_iff_forall_mem]
  intro v hv
  simp [tokArr] at hv
  rcases hv with rfl | rfl | ⟨i, _, rfl⟩ <;> rfl

theorem zeroTok (w : World) : (zeroValue 60).run Try.prog w = .ok (.agg (tokArr false false (fun _ => false))) w := by kernel_rfl
theorem infoTok : (Try.prog.info? 60).map (·.size) = some 258 := by kernel_rfl
theorem infoTok' (m d : Bool) (f : UInt8 → Bool) : (Try.prog.info? 60).map (·.size) = some (tokArr m d f).size := by rw [tokArr_size]; exact infoTok
theorem builtTok : (Try.prog.built 60 []) = some (tokArr false false (fun _ => false)) := by kernel_rfl

theorem results_tok {fn : Func} {p u : Tmp} (h : fn.results = #[.cell p 60, .tmp u]) (tmps : Array Value) (w : World) (g : Nat) (m d : Bool) (f : UInt8 → Bool)
    (hp : tmps.getD p undef = .pointer (some ⟨g, 0, none⟩)) (hb : Blk w g 60 (tokArr m d f)) : (results fn tmps).run Try.prog w = .ok (.tuple #[.agg (tokArr m d f), tmps.getD u undef]) w := by
  rw [results_cell_tmp h, hp]
  simp only [asAddr, Sem.run_pure, Result.andThen_ok]
  rw [run_loadVar_row w g _ _ _ _ _ hb Try.underlying60 rfl (infoTok' m d f)]
  rfl

theorem wpList_build_tok {ops : Array Oper} {rest : List Oper} {o : Oper} {a : Act} {w : World} {Q : Exit → Act → World → Prop} (hg : o.guard = none) (ho : o.op = .build 60 #[])
    (h : wpList Try.prog ops Q rest (a.put o.dst (.agg (tokArr false false fun _ => false))) w) : wpList Try.prog ops Q (o :: rest) a w := by
  refine wpList_build hg 60 #[] ho (by kernel_rfl) ?_
  have e : ((Try.prog.built 60 ((#[] : Array (Nat × Operand)).map fun (i, x) => (i, a.eval x)).toList).getD #[]) = tokArr false false fun _ => false := by
    simp [builtTok]
  rw [e]
  exact h

/-- The state in the middle of reading a set: the reader, the two blocks of the call's own. -/
structure SetSt (w0 w : World) (b : Nat) (s : ByteArray) (k : Nat) (acc : UInt8 → Bool) : Prop where
  rdr : Rdr w b s k
  res : Blk w w0.heap.size 60 (tokArr false false (fun _ => false))
  tok : Blk w (w0.heap.size + 1) 60 (tokArr false false acc)
  only : w0.grownBy w (some b)
  lt : b < w0.heap.size

theorem SetSt.step {w0 w w' : World} {b : Nat} {s : ByteArray} {k k' : Nat} {acc : UInt8 → Bool} (h : SetSt w0 w b s k acc) (hr : Rdr w' b s k') (ho : w.grownBy w' (some b)) : SetSt w0 w' b s k' acc :=
  ⟨hr, h.res.grown ho (by have := h.lt; simp; omega), h.tok.grown ho (by have := h.lt; simp; omega), only_trans h.only ho, h.lt⟩
theorem SetSt.drewN {w0 w : World} {b : Nat} {s : ByteArray} {k : Nat} {acc : UInt8 → Bool} (h : SetSt w0 w b s k acc) (n : Nat) : SetSt w0 (w.drewN n) b s k acc :=
  h.step (h.rdr.drewN n) (only_drewN (only_refl _ _) n)
theorem SetSt.at_ {w0 w : World} {b : Nat} {s : ByteArray} {k : Nat} {acc : UInt8 → Bool} (h : SetSt w0 w b s k acc) (q : Int) (j : Nat) (hq : q = j) : SetSt w0 (w.setCell ⟨b, 1, none⟩ (.int .i64 q)) b s j acc :=
  h.step (rdr_set h.rdr q j hq) (only_setCell (only_refl _ _) (.inl rfl) _)
theorem SetSt.put {w0 w : World} {b : Nat} {s : ByteArray} {k : Nat} {acc g : UInt8 → Bool} (h : SetSt w0 w b s k acc) (i : Nat) (v : Bool) (hi : i < 256) (hg : ∀ x : UInt8, g x = if x.toNat = i then v else acc x) :
    SetSt w0 (w.setCell ⟨w0.heap.size + 1, 2 + i, none⟩ (.bool v)) b s k g :=
  ⟨h.rdr.far (by have := h.lt; simp; omega) _, h.res.far (by simp) _, by have := h.tok.set_ (2 + i) (.bool v); rwa [tokArr_set false false acc g i v hi hg] at this,
   only_setCell h.only (.inr (by simp)) _, h.lt⟩

/-- What reading a set comes to. -/
def SetPost (w : World) (b : Nat) (s : ByteArray) (k : Nat) : Option (Glb.Tok × List UInt8) → Ending → World → Prop
  | none, e, w' => e = .returned (.tuple #[.agg (tokArr false false fun _ => false), .bool false]) ∧ w.grownBy w' (some b)
  | some (t, r), e, w' => e = .returned (.tuple #[.agg (tokArr t.many t.deep t.set), .bool true]) ∧ OneAt w w' b s k r

def SetIs (neg : Bool) (res : Option (Glb.Tok × List UInt8)) : Option ((UInt8 → Bool) × List UInt8) → Prop
  | none => res = none
  | some (acc, r) => res = some (⟨false, false, fun x => (acc x != neg) && x != 47⟩, r)

theorem setIs_of (l : List UInt8) (neg : Bool) (hn : neg = Glb.negB l) : SetIs neg (Glb.setP l) (Glb.setLoop ((if neg = true then l.tail else l).length + 1) true (fun _ => false) (if neg = true then l.tail else l)) := by
  subst hn
  unfold Glb.setP
  cases h : Glb.setLoop ((if Glb.negB l = true then l.tail else l).length + 1) true (fun _ => false) (if Glb.negB l = true then l.tail else l) with
  | none => rfl
  | some p => obtain ⟨acc, r⟩ := p; rfl

set_option maxRecDepth 100000 in
set_option maxHeartbeats 4000000 in
theorem set_walk (b : Nat) (s : ByteArray) (k : Nat) (w : World) (hr : Rdr w b s k) (hs : s.size ≤ 1000) (hk : k ≤ s.size) :
    Calls Try.prog 37 #[.pointer (some ⟨b, 0, none⟩)] w fun e w' => SetPost w b s k (Glb.setP (s.data.toList.drop k)) e w' := by
  have hz := zeroTok
  have hlt := hr.lt
  have HR := Lib.hid hr
  obtain ⟨res, hres⟩ : ∃ res, res = Glb.setP (s.data.toList.drop k) := ⟨_, rfl⟩
  rw [← hres]
  have Hres := Lib.hid hres
  clear hr hres
  go_enter Try.func37, Try.ntmps37
  go_wp2_with fail
  obtain ⟨w1, hw1⟩ : ∃ w1, w1 = (w.alloc (Obj.cells (tokArr false false fun x => false) 60)).alloc (Obj.cells (tokArr false false fun x => false) 60) := ⟨_, rfl⟩
  rw [← hw1]
  have S : SetSt w w1 b s k (fun _ => false) := by
    rw [hw1]
    exact ⟨(HR.out.alloc _).alloc _, (Blk.new _ _ _).alloc _, by simpa using Blk.new (w.alloc _) _ _, only_alloc (only_alloc (only_refl _ _) _) _, hlt⟩
  clear hw1 HR
  go_cut [5] (fun t wx => t = .bool (Glb.negB (s.data.toList.drop k)) ∧ SetSt w wx b s k (fun _ => false))
  case first =>
    --[
    have c0 := S.rdr.cell 0
    have c1 := S.rdr.cell 1
    simp at c0 c1
    have S' := Lib.hid S
    clear S
    by_cases hk0 : k < s.size
    · have hdr := drop_at s k hk0
      by_cases h33 : s[k] = 33
      · have HF := Lib.hid (show Glb.negB (s.data.toList.drop k) = true by rw [hdr]; simp [Glb.negB, h33])
        have h33' : ((s[k].toNat : Int) == 33) = true := u8_eq (d := 33) h33
        clear h33 hdr
        go_quiet (fail)
        go_wp2_with fail
        go_meet
        exact ⟨by rw [HF.out], S'.out.rdr.drewN _, S'.out.res.drewN _, S'.out.tok.drewN _, only_drewN S'.out.only _, S'.out.lt⟩
      · have h33' : ((s[k].toNat : Int) == 33) = false := u8_ne (d := 33) h33
        have HF := Lib.hid (show Glb.negB (s.data.toList.drop k) = ((s[k].toNat : Int) == 94) by rw [hdr, show ((s[k].toNat : Int) == 94) = (s[k] == 94) from u8_beq s[k] 94]; simp [Glb.negB, h33])
        clear h33 hdr
        go_quiet (fail)
        go_wp2_with fail
        go_meet
        exact ⟨by rw [HF.out], S'.out.rdr.drewN _, S'.out.res.drewN _, S'.out.tok.drewN _, only_drewN S'.out.only _, S'.out.lt⟩
    · have HF := Lib.hid (show Glb.negB (s.data.toList.drop k) = false by rw [drop_over s k (by omega)]; rfl)
      have hd : decide (k < s.size) = false := by simp; omega
      clear hk0
      go_quiet (fail)
      go_wp2_with fail
      go_meet
      exact ⟨by rw [HF.out], S'.out.rdr.drewN _, S'.out.res.drewN _, S'.out.tok.drewN _, only_drewN S'.out.only _, S'.out.lt⟩
    --]
  case rest =>
    obtain ⟨rfl, S'⟩ := hcut
    clear S
    obtain ⟨neg, hneg⟩ : ∃ neg, neg = Glb.negB (s.data.toList.drop k) := ⟨_, rfl⟩
    rw [← hneg]
    have c0 := S'.rdr.cell 0
    have c1 := S'.rdr.cell 1
    have f1 := S'.rdr.frozen 1
    simp at c0 c1
    have S := Lib.hid S'
    have Hn := Lib.hid hneg
    clear S' hneg
    obtain ⟨k1, hk1⟩ : ∃ k1, k1 = if neg = true then k + 1 else k := ⟨_, rfl⟩
    have hk1r : k1 ≤ s.size := by
      rw [hk1]; split
      · rename_i hn; rw [Hn.out] at hn
        by_cases hk0 : k < s.size
        · omega
        · rw [drop_over s k (by omega)] at hn; simp [Glb.negB] at hn
      · exact hk
    have Hk := Lib.hid hk1
    clear hk1
    go_upto_if 46 with (fail)
    go_cut [] (fun wx => SetSt w wx b s k1 (fun _ => false))
    case first =>
      --[
      cases neg
      · go_wp2_with fail
        go_meet
        rw [show k1 = k from Hk.out]
        exact S.out
      · go_wp2_with fail
        go_meet
        rw [show k1 = k + 1 from Hk.out]
        exact ⟨rdr_set S.out.rdr _ _ (by omega), S.out.res.far (by have := S.out.lt; simp; omega) _, S.out.tok.far (by have := S.out.lt; simp; omega) _, only_setCell S.out.only (.inl rfl) _, S.out.lt⟩
      --]
    case rest =>
      obtain ⟨lres, hl⟩ : ∃ lres, lres = Glb.setLoop ((s.data.toList.drop k1).length + 1) true (fun _ => false) (s.data.toList.drop k1) := ⟨_, rfl⟩
      have Hset : Hid (SetIs neg res lres) := by
        have := setIs_of (s.data.toList.drop k) neg Hn.out
        rw [← Hres.out] at this
        have e : (if neg = true then (s.data.toList.drop k).tail else s.data.toList.drop k) = s.data.toList.drop k1 := by
          rw [Hk.out]; split <;> simp
        rw [e, ← hl] at this
        exact this
      have hkk : k ≤ k1 := by rw [Hk.out]; split <;> omega
      have Hl := Lib.hid hl
      have S := Lib.hid hcut
      clear hl hcut c0 c1 f1
      go_wp2_with fail
      go_loopg [6] ((s.data.toList.drop k1).length + 1) (fun g fv wr => ∃ (first : Bool) (kk : Nat) (acc : UInt8 → Bool), fv = .bool first ∧ k ≤ kk ∧ kk ≤ s.size ∧ SetSt w wr b s kk acc ∧ (s.data.toList.drop kk).length < g ∧ lres = Glb.setLoop g first acc (s.data.toList.drop kk))
      case atStart => exact ⟨true, k1, _, rfl, hkk, hk1r, S.out, by omega, Hl.out⟩
      case round =>
        obtain ⟨first, kk, acc, rfl, hkk1, hkk2, hS, hg, hl⟩ := hrel
        obtain ⟨n, hn⟩ : ∃ n, gk = n + 1 := ⟨gk - 1, by omega⟩
        rw [hn] at hl
        have c0 := hS.rdr.cell 0
        have c1 := hS.rdr.cell 1
        simp at c0 c1
        have HS := Lib.hid hS
        have HL := Lib.hid hl
        have Hg := Lib.hid hn
        clear hS hl hn S
        go_wp2_with fail
        go_cut [79] (fun t wx => t = .bool (Glb.endB first (s.data.toList.drop kk)) ∧ SetSt w wx b s kk acc)
        case first =>
          --[
          by_cases hk0 : kk < s.size
          · have hdr := drop_at s kk hk0
            by_cases h93 : s[kk] = 93
            · have HF := Lib.hid (show Glb.endB first (s.data.toList.drop kk) = !first by rw [hdr]; simp [Glb.endB, h93])
              have h93' : ((s[kk].toNat : Int) == 93) = true := u8_eq (d := 93) h93
              clear h93 hdr
              cases first
              all_goals
                go_quiet (fail)
                go_wp2_with fail
                go_meet
                exact ⟨by rw [HF.out]; rfl, HS.out.drewN _⟩
            · have HF := Lib.hid (show Glb.endB first (s.data.toList.drop kk) = false by rw [hdr]; simp [Glb.endB, h93])
              have h93' : ((s[kk].toNat : Int) == 93) = false := u8_ne (d := 93) h93
              clear h93 hdr
              go_quiet (fail)
              go_wp2_with fail
              go_meet
              exact ⟨by rw [HF.out], HS.out.drewN _⟩
          · have HF := Lib.hid (show Glb.endB first (s.data.toList.drop kk) = false by rw [drop_over s kk (by omega)]; rfl)
            have hd : decide (kk < s.size) = false := by simp; omega
            clear hk0
            go_quiet (fail)
            go_wp2_with fail
            go_meet
            exact ⟨by rw [HF.out], HS.out.drewN _⟩
          --]
        case rest =>
          obtain ⟨rfl, hS⟩ := hcut
          clear HS c0 c1
          have c0 := hS.rdr.cell 0
          have c1 := hS.rdr.cell 1
          have f1 := hS.rdr.frozen 1
          simp at c0 c1
          have HS := Lib.hid hS
          clear hS
          by_cases hE : Glb.endB first (s.data.toList.drop kk) = true
          · have HL0 : lres = some (acc, (s.data.toList.drop kk).tail) := by rw [HL.out]; simp only [Glb.setLoop]; rw [if_pos hE]
            have hk0 : kk < s.size := by
              rcases Nat.lt_or_ge kk s.size with h | h
              · exact h
              · rw [drop_over s kk h] at hE; simp [Glb.endB] at hE
            have hrest : (s.data.toList.drop kk).tail = s.data.toList.drop (kk + 1) := by simp
            rw [hrest] at HL0
            have HL' := Lib.hid HL0
            rw [hE]
            clear HL hE hrest HL0
            go_wp2_with fail
            obtain ⟨w3, hw3⟩ : ∃ w3, w3 = wc.setCell ⟨b, 1, none⟩ (.int .i64 ((kk : Int) + 1)) := ⟨_, rfl⟩
            rw [← hw3]
            have S3 : Hid (SetSt w w3 b s (kk + 1) acc) := by rw [hw3]; exact HS.out.at_ _ _ (by omega)
            clear hw3 HS c0 c1 f1
            go_loopg [124] (257) (fun g iv wr => ∃ i : Nat, iv = .int .i64 i ∧ i ≤ 256 ∧ g + i = 257 ∧ SetSt w wr b s (kk + 1) (fun x => if x.toNat < i then (acc x != neg) && x != 47 else acc x))
            case atStart => exact ⟨0, rfl, by omega, by omega, by simpa using S3.out⟩
            case round =>
              obtain ⟨i, rfl, hi, hgi, hS⟩ := hrel
              by_cases hi2 : i < 256
              · have cT := (hS.tok.cell (2 + i)).trans (tokArr_at _ _ _ i hi2)
                have fT := hS.tok.frozen (2 + i)
                have e : (UInt8.ofNat i).toNat = i := by simp [UInt8.toNat_ofNat']; omega
                rw [e, if_neg (by omega)] at cT
                obtain ⟨v, hv⟩ : ∃ v, v = acc (UInt8.ofNat i) := ⟨_, rfl⟩
                rw [← hv] at cT
                have HS := Lib.hid hS
                have He := Lib.hid e
                have Hv := Lib.hid hv
                have Hg := Lib.hid hgi
                have hi3 : (i : Int) < 256 := by omega
                clear hS e hgi hv
                have fin : ∀ u, u = ((v != neg) && (i : Int) != 47) → SetSt w (wr.setCell ⟨w.heap.size + 1, 2 + i, none⟩ (.bool u)) b s (kk + 1) (fun x => if x.toNat < i + 1 then (acc x != neg) && x != 47 else acc x) := by
                  intro u hu
                  refine HS.out.put i u hi2 (fun x => ?_)
                  by_cases hx : x.toNat = i
                  · have hx' : x = UInt8.ofNat i := UInt8.toNat_inj.1 (by rw [hx, He.out])
                    rw [if_pos hx, if_pos (by omega), hu, Hv.out, hx']
                    congr 1
                    have e47 : (((UInt8.ofNat i).toNat : Int) != 47) = (UInt8.ofNat i != 47) := by
                      unfold bne
                      exact congrArg _ (u8_beq _ 47)
                    rw [← e47, He.out]
                  · rw [if_neg hx]
                    by_cases h1 : x.toNat < i
                    · rw [if_pos h1, if_pos (by omega)]
                    · rw [if_neg h1, if_neg (by omega)]
                have Fin := Lib.hid fin
                clear fin
                cases v <;> cases neg
                all_goals
                  go_wp2_with fail
                  go_roundg (256 - i)
                  case measure => have := Hg.out; omega
                  case rel => exact ⟨i + 1, by go_num, by omega, by omega, Fin.out _ (by simp)⟩
              · obtain rfl : i = 256 := by omega
                have hfin : SetSt w wr b s (kk + 1) (fun x => (acc x != neg) && x != 47) := by
                  refine ⟨hS.rdr, hS.res, ?_, hS.only, hS.lt⟩
                  have := hS.tok
                  rwa [show (fun x : UInt8 => if x.toNat < 256 then (acc x != neg) && x != 47 else acc x) = (fun x => (acc x != neg) && x != 47) from funext fun x => if_pos x.toNat_lt] at this
                have hT := Lib.hid hfin.tok
                have hRs := Lib.hid hfin.res
                have HS := Lib.hid hfin
                clear hfin hS hgi hi2 hi
                go_wp2_with (first
                  | (refine wpList_load_row rfl 60 (.tmp 4) rfl (w.heap.size + 1) rfl 60 _ (0, 0) _ hT.out Try.underlying60 rfl (infoTok' _ _ _) ?_)
                  | (refine wpList_store_row rfl 60 (.tmp 2) (.tmp 141) rfl w.heap.size _ rfl rfl 60 _ hRs.out (infoTok' _ _ _) (by rw [tokArr_size, tokArr_size]) (tokArr_all _ _ _) ?_))
                refine bodyPost_ret (results_tok (p := 2) (u := 3) rfl _ _ w.heap.size _ _ _ rfl (hRs.out.row _)) rfl ?_
                have hr1 : res = some (⟨false, false, fun x => (acc x != neg) && x != 47⟩, s.data.toList.drop (kk + 1)) := by
                  have := Hset.out
                  rw [HL'.out] at this
                  exact this
                rw [hr1]
                exact ⟨rfl, kk + 1, by omega, by omega, rfl, HS.out.rdr.farRow (by have := HS.out.lt; omega) _, only_setRow HS.out.only (.inr (Nat.le_refl _)) _⟩
          · have hE' : Glb.endB first (s.data.toList.drop kk) = false := by simpa using hE
            rw [hE']
            have HE := Lib.hid hE'
            clear hE hE'
            go_wp2_with fail
            cases hone : Glb.one (s.data.toList.drop kk) with
            | none =>
              have hl0 : lres = none := by rw [HL.out]; simp only [Glb.setLoop]; rw [if_neg (by rw [HE.out]; simp), hone]
              refine (one_none b s kk _ HS.out.rdr hs (by omega) hone).mono ?_
              rintro e w4 ⟨rfl, ho⟩
              have hRs := Lib.hid (HS.out.res.grown ho (by have := HS.out.lt; simp; omega))
              have hO := Lib.hid (only_trans HS.out.only ho)
              have Hl0 := Lib.hid hl0
              clear hone ho hl0 HL HE c0 c1 f1
              go_wp2_with (first
                | (refine wpList_build_tok rfl rfl ?_)
                | (refine wpList_store_row rfl 60 (.tmp 2) (.tmp 112) rfl w.heap.size _ rfl rfl 60 _ hRs.out (infoTok' _ _ _) (by rw [tokArr_size]) (tokArr_all _ _ _) ?_))
              refine bodyPost_ret (results_tok (p := 2) (u := 3) rfl _ _ w.heap.size _ _ _ rfl (hRs.out.row _)) rfl ?_
              have hr1 : res = none := by
                have := Hset.out
                rw [Hl0.out] at this
                exact this
              rw [hr1]
              exact ⟨rfl, only_setRow hO.out (.inr (Nat.le_refl _)) _⟩
            | some p =>
              obtain ⟨low, r1⟩ := p
              refine (one_some b s kk _ low r1 HS.out.rdr hs hone).mono ?_
              rintro e w4 ⟨rfl, k2, hk2a, hk2b, rfl, hrd, ho⟩
              have S4 := Lib.hid (HS.out.step hrd ho)
              have Hone := Lib.hid hone
              clear hone hrd ho HS c0 c1 f1
              go_wp2_with fail
              refine (ranged_any b s k2 _ S4.out.rdr hs (by omega)).mono ?_
              rintro e w5 ⟨rfl, nq, rfl⟩
              obtain ⟨w6, hw6⟩ : ∃ w6, w6 = w4.drewN nq := ⟨_, rfl⟩
              rw [← hw6]
              have S6 : Hid (SetSt w w6 b s k2 acc) := by rw [hw6]; exact S4.out.drewN nq
              clear hw6 S4
              go_upto_if 97 with (fail)
              go_cut [8, 9] (fun s8 s9 wx => ∃ (ok : Bool) (high : UInt8), s8 = .bool ok ∧ s9 = .int .u8 high.toNat ∧ Blk wx w.heap.size 60 (tokArr false false fun _ => false) ∧ w.grownBy wx (some b) ∧
                (ok = false → lres = none) ∧ (ok = true → ∃ k3, kk < k3 ∧ k3 ≤ s.size ∧ SetSt w wx b s k3 acc ∧
                  lres = Glb.setLoop n false (fun x => acc x || (decide (low.toNat ≤ x.toNat) && decide (x.toNat ≤ high.toNat))) (s.data.toList.drop k3)))
              case first =>
                by_cases hR : Glb.ranged (s.data.toList.drop k2) = true
                · have hk2c : k2 < s.size := by
                    rcases Nat.lt_or_ge k2 s.size with h | h
                    · exact h
                    · rw [drop_over s k2 h] at hR; simp [Glb.ranged] at hR
                  have htl : (s.data.toList.drop k2).tail = s.data.toList.drop (k2 + 1) := by simp
                  have HR := Lib.hid hR
                  have c1 := S6.out.rdr.cell 1
                  have f1 := S6.out.rdr.frozen 1
                  simp at c1
                  rw [hR]
                  clear hR
                  go_wp2_with fail
                  have S7 := Lib.hid (S6.out.at_ ((k2 : Int) + 1) (k2 + 1) (by omega))
                  cases hone : Glb.one (s.data.toList.drop (k2 + 1)) with
                  | none =>
                    have hl0 : lres = none := by
                      rw [HL.out]; simp only [Glb.setLoop]; rw [if_neg (by rw [HE.out]; simp), Hone.out]; simp only []; rw [if_pos HR.out, htl, hone]
                    refine (one_none b s (k2 + 1) _ S7.out.rdr hs (by omega) hone).mono ?_
                    rintro e w8 ⟨rfl, ho⟩
                    have hRs := Lib.hid (S7.out.res.grown ho (by have := S7.out.lt; simp; omega))
                    have hO := Lib.hid (only_trans S7.out.only ho)
                    have Hl0 := Lib.hid hl0
                    clear hone ho hl0 S7 c1 f1 htl
                    go_wp2_with fail
                    go_meet
                    exact ⟨false, 0, rfl, rfl, hRs.out, hO.out, fun _ => Hl0.out, (fun h => by cases h)⟩
                  | some p =>
                    obtain ⟨high, r2⟩ := p
                    refine (one_some b s (k2 + 1) _ high r2 S7.out.rdr hs hone).mono ?_
                    rintro e w8 ⟨rfl, k3, hk3a, hk3b, rfl, hrd, ho⟩
                    have hl0 : lres = Glb.setLoop n false (fun x => acc x || (decide (low.toNat ≤ x.toNat) && decide (x.toNat ≤ high.toNat))) (s.data.toList.drop k3) := by
                      rw [HL.out]; simp only [Glb.setLoop]; rw [if_neg (by rw [HE.out]; simp), Hone.out]; simp only []; rw [if_pos HR.out, htl, hone]
                    have S8 := Lib.hid (S7.out.step hrd ho)
                    have Hl0 := Lib.hid hl0
                    clear hone hrd ho hl0 S7 c1 f1 htl
                    go_wp2_with fail
                    go_meet
                    exact ⟨true, high, rfl, rfl, S8.out.res, S8.out.only, (fun h => by cases h), fun _ => ⟨k3, by omega, hk3b, S8.out, Hl0.out⟩⟩
                · have hR' : Glb.ranged (s.data.toList.drop k2) = false := by simpa using hR
                  have hl0 : lres = Glb.setLoop n false (fun x => acc x || (decide (low.toNat ≤ x.toNat) && decide (x.toNat ≤ low.toNat))) (s.data.toList.drop k2) := by
                    rw [HL.out]; simp only [Glb.setLoop]; rw [if_neg (by rw [HE.out]; simp), Hone.out]; simp only []; rw [if_neg hR]
                  have Hl0 := Lib.hid hl0
                  rw [hR']
                  clear hR hR' hl0
                  go_wp2_with fail
                  go_meet
                  exact ⟨true, low, rfl, rfl, S6.out.res, S6.out.only, (fun h => by cases h), fun _ => ⟨k2, by omega, hk2b, S6.out, Hl0.out⟩⟩
              case rest =>
                obtain ⟨ok, high, rfl, rfl, hRs, hO, hno, hyes⟩ := hcut
                clear S6 HL HE Hone
                cases ok
                · have hr1 : res = none := by
                    have := Hset.out
                    rw [hno rfl] at this
                    exact this
                  have Hr1 := Lib.hid hr1
                  clear hno hyes hr1
                  go_wp2_with (first
                    | (refine wpList_build_tok rfl rfl ?_)
                    | (refine wpList_store_row rfl 60 (.tmp 2) (.tmp 112) rfl w.heap.size _ rfl rfl 60 _ hRs (infoTok' _ _ _) (by rw [tokArr_size]) (tokArr_all _ _ _) ?_))
                  refine bodyPost_ret (results_tok (p := 2) (u := 3) rfl _ _ w.heap.size _ _ _ rfl (hRs.row _)) rfl ?_
                  rw [Hr1.out]
                  exact ⟨rfl, only_setRow hO (.inr (Nat.le_refl _)) _⟩
                · obtain ⟨k3, hk3a, hk3b, S8, hl8⟩ := hyes rfl
                  have HL8 := Lib.hid hl8
                  have S8 := Lib.hid S8
                  clear hno hyes hl8 hRs hO
                  have hlo := u8_nat_lt low
                  have hhi := u8_nat_lt high
                  go_wp2_with fail
                  go_loopg [10] (257 - low.toNat) (fun g cv wr => ∃ c : Nat, cv = .int .i64 c ∧ low.toNat ≤ c ∧ c ≤ 256 ∧ g + c = 257 ∧ (c ≤ high.toNat + 1 ∨ c = low.toNat) ∧
                    SetSt w wr b s k3 (fun x => acc x || (decide (low.toNat ≤ x.toNat) && decide (x.toNat < c))))
                  case atStart =>
                    refine ⟨low.toNat, rfl, Nat.le_refl _, by omega, by omega, .inr rfl, ?_⟩
                    have e : (fun x : UInt8 => acc x || (decide (low.toNat ≤ x.toNat) && decide (x.toNat < low.toNat))) = acc := by
                      funext x
                      have : (decide (low.toNat ≤ x.toNat) && decide (x.toNat < low.toNat)) = false := by simp
                      rw [this, Bool.or_false]
                    rw [e]
                    exact S8.out
                  case round =>
                    obtain ⟨c, rfl, hc1, hc2, hc3, hc4, hS⟩ := hrel
                    by_cases hc : c ≤ high.toNat
                    · have cT := (hS.tok.cell (2 + c)).trans (tokArr_at _ _ _ c (by omega))
                      have fT := hS.tok.frozen (2 + c)
                      have HS := Lib.hid hS
                      have hci : (c : Int) ≤ high.toNat := by omega
                      have hc5 : (c : Int) < 256 := by omega
                      have Fin : Hid (SetSt w (wr.setCell ⟨w.heap.size + 1, 2 + c, none⟩ (.bool true)) b s k3 (fun x => acc x || (decide (low.toNat ≤ x.toNat) && decide (x.toNat < c + 1)))) := by
                        refine HS.out.put c true (by omega) (fun x => ?_)
                        by_cases hx : x.toNat = c
                        · rw [if_pos hx]; simp; right; omega
                        · rw [if_neg hx]
                          have e : decide (x.toNat < c + 1) = decide (x.toNat < c) := by
                            rw [Bool.eq_iff_iff]; simp; omega
                          rw [e]
                      clear hS
                      go_wp2_with fail
                      go_roundg (256 - c)
                      case measure => omega
                      case rel => exact ⟨c + 1, by go_num, by omega, by omega, by omega, .inl (by omega), Fin.out⟩
                    · have Fin : Hid (SetSt w wr b s k3 (fun x => acc x || (decide (low.toNat ≤ x.toNat) && decide (x.toNat ≤ high.toNat)))) := by
                        have e : (fun x : UInt8 => acc x || (decide (low.toNat ≤ x.toNat) && decide (x.toNat < c))) = (fun x => acc x || (decide (low.toNat ≤ x.toNat) && decide (x.toNat ≤ high.toNat))) := by
                          funext x
                          have : (decide (low.toNat ≤ x.toNat) && decide (x.toNat < c)) = (decide (low.toNat ≤ x.toNat) && decide (x.toNat ≤ high.toNat)) := by
                            rw [Bool.eq_iff_iff]; simp; omega
                          rw [this]
                        rw [← e]
                        exact hS
                      have hci : (high.toNat : Int) < c := by omega
                      have Hor := Lib.hid hc4
                      clear hS hc4
                      go_wp2_with fail
                      go_roundg n
                      case measure => have := Hg.out; omega
                      case rel =>
                        refine ⟨false, k3, _, rfl, by omega, hk3b, Fin.out, ?_, HL8.out⟩
                        have := Hg.out
                        have hg' := hg
                        simp only [List.length_drop, Array.length_toList] at hg' ⊢
                        have e : s.data.size = s.size := rfl
                        omega

end Go.Proofs.Ytpoofienimigaaa
