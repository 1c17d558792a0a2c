/-
  Which places of a name can be reached, token by token.
-/
import Derived.Test.YtpoofienimigaaaGlobD
namespace Go.Proofs.Ytpoofienimigaaa
open Go.RowKit

theorem reach_snoc (name : List UInt8) (l : List Glb.Tok) (t : Glb.Tok) (f : Nat → Bool) : Glb.reach name (l ++ [t]) f = Glb.step t name (Glb.reach name l f) := by
  induction l generalizing f with
  | nil => rfl
  | cons x l ih => simp only [List.cons_append, Glb.reach]; exact ih _

abbrev boolRow (n : Nat) (f : Nat → Bool) : Array Value := rowArr n fun i => .bool (f i)

theorem infoBool : (Try.prog.info? 4).map (fun i => (i.zero, i.size, i.bytes)) = some (some (.bool false), 1, 1) := by kernel_rfl

/-- The token list's cells, as the walk reads them. -/
theorem HasToks.form {w : World} {B : Nat} {v : Value} {l : List Glb.Tok} (h : HasToks w B v l) : ∃ A cap, v = .slice A l.length cap ∧
    ∀ i, (hi : i < l.length) → ∃ g, A = some ⟨g, 0, none⟩ ∧ g < w.heap.size ∧ ∀ j, j < 258 → w.cell? ⟨g, i * 258 + j, none⟩ = (tokArr l[i].many l[i].deep l[i].set)[j]? := by
  rcases h.2 with ⟨rfl, h0⟩ | ⟨g, cap, cur, rfl, hb, hg, hn, hc, hs, ht⟩
  · have hl : l = [] := List.eq_nil_of_length_eq_zero h0
    subst hl
    exact ⟨none, 0, rfl, fun i hi => by simp at hi⟩
  · refine ⟨some ⟨g, 0, none⟩, cap, rfl, fun i hi => ⟨g, rfl, (Array.getElem?_eq_some_iff.1 hg).1, fun j hj => ?_⟩⟩
    rw [cell_of_row w g _ cur _ (0, 0) hg, ← tokCells_get l i j hi hj, ← ht, List.getElem?_take]
    rw [if_pos (by
      have : (i + 1) * 258 ≤ l.length * 258 := Nat.mul_le_mul_right _ hi
      omega)]
    simp

/-- One place more. -/
def upTo (t : Glb.Tok) (name : List UInt8) (R : Nat → Bool) (j : Nat) : Nat → Bool := fun x => if x < j then Glb.step t name R x else false
theorem upTo_zero (t : Glb.Tok) (name : List UInt8) (R : Nat → Bool) : upTo t name R 0 = fun _ => false := by funext x; simp [upTo]

theorem blk_next {w : World} {nb n j : Nat} {t : Glb.Tok} {name : List UInt8} {R : Nat → Bool} {v : Bool} (h : Blk w nb 4 (boolRow n (upTo t name R j))) (hv : v = Glb.step t name R j) :
    Blk (w.setCell ⟨nb, j, none⟩ (.bool v)) nb 4 (boolRow n (upTo t name R (j + 1))) := by
  have := h.set_ j (.bool v)
  rwa [rowArr_set n _ (fun i => .bool (upTo t name R (j + 1) i)) j (.bool v) (fun x _ => by
    by_cases hx : x = j
    · subst hx; rw [if_pos rfl, hv]; simp [upTo]
    · rw [if_neg hx]; simp only [upTo]
      by_cases h1 : x < j
      · rw [if_pos h1, if_pos (by omega)]
      · rw [if_neg h1, if_neg (by omega)])] at this
theorem blk_stay {w : World} {nb n j : Nat} {t : Glb.Tok} {name : List UInt8} {R : Nat → Bool} (h : Blk w nb 4 (boolRow n (upTo t name R j))) (hv : Glb.step t name R j = false) :
    Blk w nb 4 (boolRow n (upTo t name R (j + 1))) := by
  have e : boolRow n (upTo t name R j) = boolRow n (upTo t name R (j + 1)) := rowArr_ext fun x _ => by
    simp only [upTo]
    by_cases h1 : x < j
    · rw [if_pos h1, if_pos (by omega)]
    · rw [if_neg h1]
      by_cases h2 : x = j
      · subst h2; rw [if_pos (by omega), hv]
      · rw [if_neg (by omega)]
  rw [← e]; exact h

theorem getD_at (s : ByteArray) (j : Nat) (h : j < s.size) : s.data.toList.getD j 0 = s[j] := by
  have h' : j < s.data.toList.length := by simpa using h
  rw [List.getD_eq_getElem?_getD, List.getElem?_eq_getElem h']; rfl

/-- The state in the middle of a token: what is reached, what is next, the token. -/
structure MatSt (w0 w : World) (rb nb tb N j : Nat) (t : Glb.Tok) (name : List UInt8) (R : Nat → Bool) : Prop where
  cur : Blk w rb 4 (boolRow N R)
  nxt : Blk w nb 4 (boolRow N (upTo t name R j))
  tok : Blk w tb 60 (tokArr t.many t.deep t.set)
  below : Below w0.heap.size w0 w
  h1 : w0.heap.size ≤ rb
  h2 : w0.heap.size ≤ nb
  h3 : w0.heap.size ≤ tb
  n1 : rb ≠ nb
  n2 : tb ≠ nb
theorem MatSt.put {w0 w : World} {rb nb tb N j : Nat} {t : Glb.Tok} {name : List UInt8} {R : Nat → Bool} (h : MatSt w0 w rb nb tb N j t name R) {v : Bool} (hv : v = Glb.step t name R j) : MatSt w0 (w.setCell ⟨nb, j, none⟩ (.bool v)) rb nb tb N (j + 1) t name R :=
  ⟨h.cur.far (p := ⟨nb, j, none⟩) h.n1 _, blk_next h.nxt hv, h.tok.far (p := ⟨nb, j, none⟩) h.n2 _, h.below.setCell (p := ⟨nb, j, none⟩) h.h2 _, h.h1, h.h2, h.h3, h.n1, h.n2⟩
theorem MatSt.stay {w0 w : World} {rb nb tb N j : Nat} {t : Glb.Tok} {name : List UInt8} {R : Nat → Bool} (h : MatSt w0 w rb nb tb N j t name R) (hv : Glb.step t name R j = false) : MatSt w0 w rb nb tb N (j + 1) t name R :=
  ⟨h.cur, blk_stay h.nxt hv, h.tok, h.below, h.h1, h.h2, h.h3, h.n1, h.n2⟩

set_option maxRecDepth 100000 in
set_option maxHeartbeats 4000000 in
theorem matches_walk (B : Nat) (v : Value) (l : List Glb.Tok) (s : ByteArray) (w : World) (hv : HasToks w B v l) (hs : s.size ≤ 1000) (hl : l.length ≤ 100000) :
    Calls Try.prog 18 #[v, .string s] w fun e w' => e = .returned (.bool (Glb.matchB l s.data.toList)) ∧ Below w.heap.size w w' := by
  have hz := zeroTok
  obtain ⟨A, cap, rfl, hcells⟩ := hv.form
  have HC := Lib.hid hcells
  clear hv hcells
  have hmk := run_make_one (P := Try.prog) 63 4 (.bool false) 1 Try.underlying63 infoBool rfl (s.size + 1) ((s.size : Int) + 1) (by omega) (by omega) (by omega)
  have r0 := rowArr_at (s.size + 1) (fun _ => Value.bool false) 0 (by omega)
  go_enter Try.func18, Try.ntmps18
  go_wp2_with fail
  obtain ⟨w1, hw1⟩ : ∃ w1, w1 = w.alloc (Obj.cells ((rowArr (s.size + 1) fun x => Value.bool false).setIfInBounds 0 (Value.bool true)) 4) := ⟨_, rfl⟩
  rw [← hw1]
  have hb1 : Blk w1 w.heap.size 4 (boolRow (s.size + 1) Glb.start) := by
    rw [hw1, rowArr_set _ _ (fun i => .bool (Glb.start i)) 0 (.bool true) (fun x _ => by
      by_cases hx : x = 0
      · subst hx; rfl
      · rw [if_neg hx]; simp [Glb.start, hx])]
    exact Blk.new _ _ _
  have hbl : Below w.heap.size w w1 := by rw [hw1]; exact (Below.refl _ _).alloc (Nat.le_refl _) _
  clear hw1 r0
  go_loopg [5, 18] (l.length) (fun g s5 s18 wr => ∃ i rb : Nat, s18 = .int .i64 i ∧ i ≤ l.length ∧ g + i = l.length ∧ s5 = .slice (some ⟨rb, 0, none⟩) (s.size + 1) (s.size + 1) ∧ w.heap.size ≤ rb ∧
    Blk wr rb 4 (boolRow (s.size + 1) (Glb.reach s.data.toList (l.take i) Glb.start)) ∧ Below w.heap.size w wr)
  case atStart => exact ⟨0, w.heap.size, rfl, by omega, by omega, rfl, Nat.le_refl _, hb1, hbl⟩
  case round =>
    obtain ⟨i, rb, rfl, hi, hgi, rfl, hrb, hR, hB⟩ := hrel
    clear hb1 hbl
    obtain ⟨R, hReq⟩ : ∃ R, R = Glb.reach s.data.toList (l.take i) Glb.start := ⟨_, rfl⟩
    rw [← hReq] at hR
    by_cases hi2 : i < l.length
    · obtain ⟨g0, rfl, hg0, hcell⟩ := HC.out i hi2
      obtain ⟨t, ht⟩ : ∃ t, t = l[i] := ⟨_, rfl⟩
      rw [← ht] at hcell
      have hi3 : (i : Int) < l.length := by omega
      have hld : wr.rangeAt g0 (i * 258) (tokArr t.many t.deep t.set).toList := by
        intro j v hv
        have hj : j < 258 := by
          rcases Nat.lt_or_ge j 258 with h | h
          · exact h
          · rw [List.getElem?_eq_none (by rw [Array.length_toList, tokArr_size]; omega)] at hv; cases hv
        rw [hB.cell (p := ⟨g0, i * 258 + j, none⟩) (by simpa using hg0), hcell j hj]
        simpa using hv
      have HLD := Lib.hid hld
      have HR := Lib.hid hR
      have HB := Lib.hid hB
      have HT := Lib.hid ht
      have HQ := Lib.hid hReq
      have Hg := Lib.hid hgi
      have hrl := hR.lt
      clear hcell hld hR hB ht hReq hgi
      go_wp2_with (first
        | (refine wpList_load_mid rfl 60 (.tmp 20) rfl g0 (i * 258) rfl _ _ HLD.out Try.underlying60 rfl (by rw [Array.length_toList]; exact infoTok' _ _ _) ?_)
        | (refine wpList_store_row rfl 60 (.tmp 7) (.tmp 21) rfl wr.heap.size _ rfl rfl 60 _ (heap_alloc_new wr _) (infoTok' _ _ _) (by rw [tokArr_size]; rfl) (tokArr_all _ _ _) ?_; rw [World.setRow_alloc_new]))
      obtain ⟨w2, hw2⟩ : ∃ w2, w2 = (wr.alloc (Obj.cells (tokArr t.many t.deep t.set) 60)).alloc (Obj.cells (rowArr (s.size + 1) fun x => Value.bool false) 4) := ⟨_, rfl⟩
      rw [← hw2]
      have hwr := HB.out.size
      have S2 : Hid (MatSt w w2 rb (wr.heap.size + 1) wr.heap.size (s.size + 1) 0 t s.data.toList R) := by
        rw [hw2]
        refine ⟨(HR.out.alloc _).alloc _, ?_, (Blk.new _ _ _).alloc _, (HB.out.alloc hwr _).alloc (by simp; omega) _, hrb, by omega, hwr, by omega, by omega⟩
        rw [upTo_zero]
        have := Blk.new (wr.alloc (Obj.cells (tokArr t.many t.deep t.set) 60)) 4 (rowArr (s.size + 1) fun x => Value.bool false)
        simpa using this
      clear hw2 HR HB HLD
      obtain ⟨wo, hwo⟩ : ∃ wo, wo = wr.heap.size := ⟨_, rfl⟩
      rw [← hwo] at S2 ⊢
      clear hwo hrl hwr
      go_loopg [28] (s.size + 1) (fun g s28 wx => ∃ j : Nat, s28 = .int .i64 j ∧ j ≤ s.size + 1 ∧ g + j = s.size + 1 ∧ MatSt w wx rb (wo + 1) wo (s.size + 1) j t s.data.toList R)
      case atStart => exact ⟨0, rfl, by omega, by omega, S2.out⟩
      case round =>
        obtain ⟨j, rfl, hj, hgj, hS⟩ := hrel
        clear S2
        by_cases hj2 : j < s.size + 1
        · rcases t with ⟨m, d, f⟩
          have cM := (hS.tok.cell 0).trans (tokArr_0 _ _ _)
          have cD := (hS.tok.cell 1).trans (tokArr_1 _ _ _)
          have cN := (hS.nxt.cell j).trans (rowArr_at _ _ j hj2)
          have fN := hS.nxt.frozen j
          have HGJ := Lib.hid hgj
          have hj3 : (j : Int) < s.size + 1 := by omega
          clear hgj
          rcases j with _ | k
          · have cR := (hS.cur.cell 0).trans (rowArr_at _ _ 0 hj2)
            have HS := Lib.hid hS
            clear hS
            obtain ⟨r, hr⟩ : ∃ r, r = R 0 := ⟨_, rfl⟩
            rw [← hr] at cR
            have Hr := Lib.hid hr
            clear hr
            cases m
            · go_wp2_with fail
              go_roundg (s.size)
              case measure => have := HGJ.out; omega
              case rel => exact ⟨1, by go_num, by omega, by omega, HS.out.stay rfl⟩
            · cases r
              all_goals
                go_wp2_with fail
                go_roundg (s.size)
                case measure => have := HGJ.out; omega
                case rel => exact ⟨1, by go_num, by omega, by omega, HS.out.put (by simp [Glb.step, ← Hr.out])⟩
          · have hk : k < s.size := by omega
            have cR := (hS.cur.cell (k + 1)).trans (rowArr_at _ _ (k + 1) hj2)
            have cR0 := (hS.cur.cell k).trans (rowArr_at _ _ k (by omega))
            have cN0 := (hS.nxt.cell k).trans (rowArr_at _ _ k (by omega))
            rw [show upTo ⟨m, d, f⟩ s.data.toList R (k + 1) k = Glb.step ⟨m, d, f⟩ s.data.toList R k by simp [upTo]] at cN0
            have cS := (hS.tok.cell (2 + s[k].toNat)).trans (tokArr_at _ _ _ s[k].toNat (u8_nat_lt _))
            rw [UInt8.ofNat_toNat] at cS
            have hb5 := u8_lt s[k]
            have hk5 : (k : Int) < s.size := by omega
            have HS := Lib.hid hS
            clear hS
            obtain ⟨r0, hr0⟩ : ∃ r, r = R k := ⟨_, rfl⟩
            obtain ⟨r1, hr1⟩ : ∃ r, r = R (k + 1) := ⟨_, rfl⟩
            obtain ⟨n0, hn0⟩ : ∃ r, r = Glb.step ⟨m, d, f⟩ s.data.toList R k := ⟨_, rfl⟩
            obtain ⟨fs, hfs⟩ : ∃ r, r = f s[k] := ⟨_, rfl⟩
            rw [← hr0] at cR0
            rw [← hr1] at cR
            rw [← hn0] at cN0
            have cS' : wr.cell? ⟨wo, 2 + s[k].toNat, none⟩ = some (.bool fs) := by rw [hfs]; exact cS
            have Hr0 := Lib.hid hr0
            have Hr1 := Lib.hid hr1
            have Hn0 := Lib.hid hn0
            have Hfs := Lib.hid hfs
            have Hg0 := Lib.hid (show s.data[k]?.getD 0 = s[k] by have := getD_at s k hk; simpa using this)
            have e47 := Lib.hid (show ((s[k].toNat : Int) != 47) = (s[k] != 47) from by unfold bne; exact congrArg _ (u8_beq s[k] 47))
            clear hr0 hr1 hn0 hfs cS
            cases m
            · cases r0
              all_goals
                go_wp2_with fail
                go_roundg (s.size - (k + 1))
                case measure => have := HGJ.out; omega
                case rel => exact ⟨k + 2, by go_num, by omega, by omega, HS.out.put (by simp [Glb.step, ← Hr0.out, Hg0.out, ← Hfs.out])⟩
            · cases r1
              · cases n0
                · go_wp2_with fail
                  go_roundg (s.size - (k + 1))
                  case measure => have := HGJ.out; omega
                  case rel => exact ⟨k + 2, by go_num, by omega, by omega, HS.out.put (by simp [Glb.step, ← Hr1.out, ← Hn0.out])⟩
                · cases d
                  · go_wp2_with fail
                    go_roundg (s.size - (k + 1))
                    case measure => have := HGJ.out; omega
                    case rel => exact ⟨k + 2, by go_num, by omega, by omega, HS.out.put (by rw [e47.out]; simp [Glb.step, ← Hr1.out, ← Hn0.out, Hg0.out])⟩
                  · go_wp2_with fail
                    go_roundg (s.size - (k + 1))
                    case measure => have := HGJ.out; omega
                    case rel => exact ⟨k + 2, by go_num, by omega, by omega, HS.out.put (by simp [Glb.step, ← Hn0.out])⟩
              · go_wp2_with fail
                go_roundg (s.size - (k + 1))
                case measure => have := HGJ.out; omega
                case rel => exact ⟨k + 2, by go_num, by omega, by omega, HS.out.put (by simp [Glb.step, ← Hr1.out])⟩
        · obtain rfl : j = s.size + 1 := by omega
          have hcur : Blk wr (wo + 1) 4 (boolRow (s.size + 1) (Glb.reach s.data.toList (l.take (i + 1)) Glb.start)) := by
            have e : boolRow (s.size + 1) (upTo t s.data.toList R (s.size + 1)) = boolRow (s.size + 1) (Glb.reach s.data.toList (l.take (i + 1)) Glb.start) := rowArr_ext fun x hx => by
              rw [List.take_succ_eq_append_getElem hi2, reach_snoc, ← HQ.out, ← HT.out]
              simp [upTo, hx]
            rw [← e]; exact hS.nxt
          have HC2 := Lib.hid hcur
          have HS := Lib.hid hS
          clear hcur hS hgj hj
          go_wp2_with fail
          go_roundg (l.length - (i + 1))
          case measure => have := Hg.out; omega
          case rel => exact ⟨i + 1, wo + 1, by go_num, by omega, by omega, rfl, HS.out.h2, HC2.out, HS.out.below⟩
    · obtain rfl : i = l.length := by omega
      have cR := (hR.cell s.size).trans (rowArr_at _ _ s.size (by omega))
      have hfin : R s.size = Glb.matchB l s.data.toList := by rw [hReq, List.take_length]; rfl
      rw [hfin] at cR
      have HB := Lib.hid hB
      clear hR hReq hB hfin hgi hi hi2
      go_wp2_with fail
      go_ret
      exact ⟨rfl, HB.out⟩

end Go.Proofs.Ytpoofienimigaaa
