/-
  A pattern's tokens, in memory.
-/
import Derived.Test.YtpoofienimigaaaGlobC
import Derived.Test.YtpoofienimigaaaSlices
import Derived.OwnWalk
import Derived.Deep.WholeRow
namespace Go.Proofs.Ytpoofienimigaaa
open Go.RowKit

/-- The cells of tokens. -/
def tokCells (l : List Glb.Tok) : List Value := l.flatMap fun t => (tokArr t.many t.deep t.set).toList

theorem tokCells_len (l : List Glb.Tok) : (tokCells l).length = l.length * 258 := by
  induction l with
  | nil => rfl
  | cons t l ih => simp only [tokCells, List.flatMap_cons, List.length_append, List.length_cons] at ih ⊢; rw [ih, Array.length_toList, tokArr_size]; omega
theorem tokCells_snoc (l : List Glb.Tok) (t : Glb.Tok) : tokCells (l ++ [t]) = tokCells l ++ (tokArr t.many t.deep t.set).toList := by simp [tokCells]
theorem tokCells_get (l : List Glb.Tok) (i j : Nat) (hi : i < l.length) (hj : j < 258) : (tokCells l)[i * 258 + j]? = (tokArr l[i].many l[i].deep l[i].set)[j]? := by
  induction l generalizing i with
  | nil => simp at hi
  | cons t l ih =>
    simp only [tokCells, List.flatMap_cons]
    rcases i with _ | i
    · rw [List.getElem?_append_left (by rw [Array.length_toList, tokArr_size]; omega)]
      simp
    · rw [List.getElem?_append_right (by rw [Array.length_toList, tokArr_size]; omega), Array.length_toList, tokArr_size]
      have := ih i (by simpa using hi)
      rw [show (i + 1) * 258 + j - 258 = i * 258 + j by omega]
      exact this

/-- What a slice of tokens is in memory: the tokens in the cells, a row from block B on. -/
def HasToks (w : World) (B : Nat) (v : Value) (l : List Glb.Tok) : Prop := w.ownsRow B 60 258 v l.length (tokCells l)

theorem infoTok3 : (Try.prog.info? 60).map (fun i => (i.zero, i.size, i.bytes)) = some (some (.agg (tokArr false false fun _ => false)), 258, 258) := by kernel_rfl

theorem HasToks.mono {w : World} {B B' : Nat} {v : Value} {l : List Glb.Tok} (h : HasToks w B v l) (hB : B' ≤ B) : HasToks w B' v l := by
  refine ⟨h.1, ?_⟩
  rcases h.2 with hn | ⟨g, cap, cur, e, hb, rest⟩
  · exact .inl hn
  · exact .inr ⟨g, cap, cur, e, by omega, rest⟩
theorem HasToks.grown {w w' : World} {B b : Nat} {v : Value} {l : List Glb.Tok} (h : HasToks w B v l) (hg : w.grownBy w' (some b)) (hb : b < B) : HasToks w' B v l := by
  refine World.ownsRow.kept h hg ?_
  cases hv : v.ownBlock with
  | none => exact .inl rfl
  | some q =>
    right; intro e
    have h1 := World.ownsRow.lt h q hv
    have h2 : q = b := by simpa using e
    omega

/-- What parse comes to. -/
def ParsePost (w : World) : Option (List Glb.Tok) → Ending → World → Prop
  | none, e, w' => e = .returned (.tuple #[.slice none 0 0, .bool false]) ∧ Below w.heap.size w w'
  | some l, e, w' => ∃ v, e = .returned (.tuple #[v, .bool true]) ∧ HasToks w' w.heap.size v l ∧ Below w.heap.size w w'

set_option maxRecDepth 100000 in
set_option maxHeartbeats 1000000 in
theorem parse_walk (s : ByteArray) (w : World) (hs : s.size ≤ 1000) :
    Calls Try.prog 17 #[.string s] w fun e w' => ParsePost w (Glb.toks s.data.toList) e w' := by
  have hz := zeroTok
  obtain ⟨res, hres⟩ : ∃ res, res = Glb.toks s.data.toList := ⟨_, rfl⟩
  rw [← hres]
  have Hres := Lib.hid hres
  clear hres
  go_enter Try.func17, Try.ntmps17
  go_wp2_with fail
  obtain ⟨w1, hw1⟩ : ∃ w1, w1 = w.alloc (Obj.cells #[Value.string s, Value.int IntKind.i64 0] 57) := ⟨_, rfl⟩
  rw [← hw1]
  have hr : Rdr w1 w.heap.size s 0 := by rw [hw1]; exact Blk.new _ _ _
  have hb : Below w.heap.size w w1 := by rw [hw1]; exact (Below.refl _ _).alloc (Nat.le_refl _) _
  have hz1 : w.heap.size + 1 ≤ w1.heap.size := by rw [hw1]; simp
  have HR := Lib.hid hr
  clear hw1 hr
  go_loopg [4] (s.size) (fun g v wr => ∃ (k : Nat) (l : List Glb.Tok), k ≤ s.size ∧ HasToks wr (w.heap.size + 1) v l ∧ Rdr wr w.heap.size s k ∧ Below w.heap.size w wr ∧ s.size - k ≤ g ∧ l.length ≤ k ∧ w.heap.size + 1 ≤ wr.heap.size ∧
    res = (Glb.parse g (s.data.toList.drop k)).map (l ++ ·))
  case atStart => exact ⟨0, [], by omega, World.ownsRow_nil _ _ _ _, HR.out, hb, by omega, by simp, hz1, by rw [Hres.out]; simp [Glb.toks]⟩
  case round =>
    obtain ⟨k, l, hk, hv, hr, hb, hg, hl, hsz, hrs⟩ := hrel
    clear HR
    have c1 := hr.cell 1
    simp at c1
    have HV := Lib.hid hv
    have HR := Lib.hid hr
    have HB := Lib.hid hb
    have HRS := Lib.hid hrs
    clear hv hr hb hrs hz1
    by_cases hk2 : k < s.size
    · have hk3 : (k : Int) < s.size := by omega
      obtain ⟨n, rfl⟩ : ∃ n, gk = n + 1 := ⟨gk - 1, by omega⟩
      go_wp2_with fail
      refine (next_walk w.heap.size s k _ HR.out hs hk2).mono ?_
      rintro e w4 hpost
      have hdr := drop_at s k hk2
      cases hnx : Glb.next (s.data.toList.drop k) with
      | none =>
        rw [hnx] at hpost
        obtain ⟨rfl, ho⟩ := hpost
        have hres : res = none := by rw [HRS.out]; rw [hdr] at hnx ⊢; simp [Glb.parse, hnx]
        have hbb := below_of_only HB.out ho (by omega) (Nat.le_refl _)
        subst hres
        clear hnx hdr ho c1
        go_wp2_with (refine wpList_store_row rfl 60 (.tmp 6) (.tmp 21) rfl w4.heap.size _ rfl rfl 60 _ (heap_alloc_new w4 _) (infoTok' _ _ _) (by rw [tokArr_size]) (tokArr_all _ _ _) ?_; rw [World.setRow_alloc_new])
        go_ret2
        exact ⟨rfl, hbb.alloc (by have := hbb.size; omega) _⟩
      | some p =>
        obtain ⟨⟨m, d, f⟩, r⟩ := p
        rw [hnx] at hpost
        obtain ⟨rfl, k2, hk2a, hk2b, rfl, hrd, ho⟩ := hpost
        have hres : res = (Glb.parse n (s.data.toList.drop k2)).map ((l ++ [⟨m, d, f⟩]) ++ ·) := by
          rw [HRS.out]; rw [hdr] at hnx ⊢; simp [Glb.parse, hnx, Function.comp_def]
        have S : w.heap.size + 1 ≤ w4.heap.size := Nat.le_trans hsz ho.size
        have hv4 := HV.out.grown ho (by omega)
        have hb4 := below_of_only HB.out ho (by omega) (Nat.le_refl _)
        have HV4 := Lib.hid (show HasToks ((w4.alloc (.cells (tokArr m d f) 60)).alloc (.cells (tokArr m d f) 60)) (w.heap.size + 1) u4 l from (World.ownsRow.alloc hv4 _).alloc _)
        obtain ⟨i0, i1, i2, i3, i4⟩ := info_parts infoTok3
        have hi0 := Lib.hid i1
        have hi1 := Lib.hid i2
        have hi2 := Lib.hid i3
        have hi3 := Lib.hid i4
        clear i1 i2 i3 i4
        have HN : Hid (∀ j u, (tokArr m d f).toList[j]? = some u → ((w4.alloc (.cells (tokArr m d f) 60)).alloc (.cells (tokArr m d f) 60)).cell? ((⟨(w4.alloc (.cells (tokArr m d f) 60)).heap.size, 0, none⟩ : Addr).add j) = some u) := by
          intro j u hu
          rw [Addr.add_mid, Nat.zero_add]
          have := (Blk.new (w4.alloc (.cells (tokArr m d f) 60)) 60 (tokArr m d f)).cell j
          rw [this]
          simpa using hu
        have HLT : Hid (∀ q, u4.ownBlock = some q → w.heap.size + 1 ≤ q) := fun q hq => (World.ownsRow.lt hv4 q hq).1
        have HR4 := Lib.hid hrd
        have HB4 := Lib.hid hb4
        have HRES := Lib.hid hres
        clear hnx hdr ho c1 hv4 hb4 hres hrd HRS HV HR HB
        go_wp2_with (first
          | (refine wpList_store_row rfl 60 (.tmp 6) (.tmp 21) rfl w4.heap.size _ rfl rfl 60 _ (heap_alloc_new w4 _) (infoTok' _ _ _) (by rw [tokArr_size, tokArr_size]) (tokArr_all _ _ _) ?_; rw [World.setRow_alloc_new])
          | (refine wpList_load_row rfl 60 (.tmp 6) rfl w4.heap.size rfl 60 _ (0, 0) _ (heap_alloc_new w4 _) Try.underlying60 rfl (infoTok' _ _ _) ?_)
          | (refine wpList_buildSlice_one rfl 37 60 (.tmp 26) rfl (tokArr m d f) _ rfl Try.underlying37 (infoTok' _ _ _) (hz _) (by rw [tokArr_size]; omega) (by rw [tokArr_size]; omega) ?_)
          | (at_builtin; refine wpList_append_own _ rfl (.tmp 25) (.tmp 27) 37 rfl (w.heap.size + 1) 60 i0 _ 258 258 Try.underlying37 hi0.out hi1.out hi2.out hi3.out (by simp [Value.cells, tokArr_size]) (by decide) u4 l.length (tokCells l) rfl HV4.out ⟨(w4.alloc (.cells (tokArr m d f) 60)).heap.size, 0, none⟩ 1 1 (tokArr m d f).toList rfl (by rw [Array.length_toList, tokArr_size]) HN.out (fun u hu => (Array.all_eq_true_iff_forall_mem.1 (tokArr_all m d f)) u (by simpa using hu)) (by unfold maxLen; omega) (by omega) (by simp; omega) ?_; intro v' w7 hown' hgrow _))
        clear HV4 HN
        have HOWN := Lib.hid hown'
        have HGR := Lib.hid hgrow
        clear hown' hgrow
        go_wp2_with fail
        go_roundg n
        case measure => omega
        case rel =>
          refine ⟨k2, l ++ [⟨m, d, f⟩], hk2b, ?_, ?_, ?_, by omega, by simp; omega, ?_, HRES.out⟩
          · unfold HasToks
            rw [tokCells_snoc, List.length_append]
            exact HOWN.out
          · exact Blk.grown ((HR4.out.alloc _).alloc _) HGR.out (fun e => by have := HLT.out w.heap.size e.symm; omega)
          · exact ((HB4.out.alloc (by omega) _).alloc (by simp; omega) _).grown HGR.out (by simp; omega) (fun q hq => by have := HLT.out q hq; omega)
          · have := HGR.out.size
            simp at this
            omega
    · have hr1 : res = some l := by rw [HRS.out, drop_over s k (by omega)]; simp [Glb.parse]
      subst hr1
      clear HRS
      go_wp2_with fail
      go_ret2
      exact ⟨_, rfl, HV.out.mono (by omega), HB.out⟩

end Go.Proofs.Ytpoofienimigaaa
