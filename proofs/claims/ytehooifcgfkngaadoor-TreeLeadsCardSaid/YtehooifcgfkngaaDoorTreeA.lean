/-
  A file tree in memory; the methods that only look.
-/
import Derived.Test.YtehooifcgfkngaaDoorTreePlain3
import Derived.Test.YtehooifcgfkngaaDoorMapO
import Derived.Test.YtehooifcgfkngaaDoorStrs
import Derived.OneCell
namespace Go.Proofs.YtehooifcgfkngaaDoor
open Go.RowKit Go.Maps Tre

/-- A file's value, and its cells. -/
def ndc (n : Nd) : Array Value := #[.int .u8 n.kind, .int .i64 n.mode, .int .i64 n.uid, .int .i64 n.gid, .int .i64 n.sec, .int .i64 n.nano, .string (bs n.data), .string (bs n.link), .int .i64 n.major, .int .i64 n.minor]
def ndv (n : Nd) : Value := .agg (ndc n)
def namesF (E : List (Pth.Bs × Nat)) : Lit → Option Value := strF fun s => (Tre.look E s).map fun (k : Nat) => Value.int .i64 (k : Int)
def filesF (fl : Nat → Option Nd) : Lit → Option Value := intF fun i => if 0 ≤ i then (fl i.toNat).map ndv else none
def errV (c : Int) : Value := if c = 0 then .nilIface else .iface 67 (.int .i64 c)

theorem ndZero : ∀ w, (zeroValue 35).run Tryd.prog w = .ok (ndv zero) w := fun w => by kernel_rfl
theorem intZero : ∀ w, (zeroValue 3).run Tryd.prog w = .ok (.int .i64 0) w := fun w => by kernel_rfl
theorem strK (s : ByteArray) (h : s.size ≤ maxLen) : keyOf Tryd.prog 9 (.string s) = some (.string s.data.toList) := WideMaps.keyOf_string_mk Tryd.underlying9 h
theorem natK (i : Nat) (h : i ≤ 1000000) : keyOf Tryd.prog 3 (.int .i64 i) = some (.int .i64 i) :=
  keyOf_int_mk Tryd.underlying3 (by simp [Lit.wf, IntKind.min, IntKind.max, IntKind.signed, IntKind.bits]; omega)
theorem strL : Keyed Tryd.prog 9 := string_keyed Tryd.underlying9
theorem intL : Keyed Tryd.prog 3 := int_keyed Tryd.underlying3
theorem namesF_at (E : List (Pth.Bs × Nat)) (s : List UInt8) : namesF E (.string s) = (Tre.look E s).map fun (k : Nat) => Value.int .i64 (k : Int) := rfl
theorem filesF_at (fl : Nat → Option Nd) (k : Nat) : filesF fl (.int .i64 k) = (fl k).map ndv := by
  show (if (0 : Int) ≤ (k : Int) then (fl (k : Int).toNat).map ndv else none) = _
  rw [if_pos (by omega)]; rfl
theorem files_get (t : T) (k : Nat) : (filesF t.fl (.int .i64 k)).getD (ndv zero) = ndv (t.file k) := by
  rw [filesF_at]; unfold T.file
  cases t.fl k <;> rfl

/-- Block g is a tree; own are its blocks. -/
structure TreeAt (w : World) (g : Nat) (on : Option Nat) (of : Option Nat) (t : T) : Prop where
  blk : Blk w g 58 #[.map on, .map of, .int .i64 t.nx]
  nm : MapO w Tryd.prog 9 on (namesF t.ents) t.ents.length
  fl : ∃ nf, MapO w Tryd.prog 3 of (filesF t.fl) nf ∧ nf ≤ t.nx
  both : on = none ↔ of = none
  ne : ∀ b, on = some b → of ≠ some b
def own (g : Nat) (on of : Option Nat) : List Nat := g :: (on.toList ++ of.toList)

section
variable {w w' : World} {g : Nat} {on of : Option Nat} {t : T}
theorem TreeAt.lt (h : TreeAt w g on of t) : ∀ b ∈ own g on of, b < w.heap.size := fun b hb => by
  obtain ⟨nf, hf, _⟩ := h.fl
  rcases List.mem_cons.1 hb with rfl | hb
  · exact h.blk.lt
  · rcases List.mem_append.1 hb with hb | hb
    · exact h.nm.lt b (by simpa [eq_comm] using hb)
    · exact hf.lt b (by simpa [eq_comm] using hb)
theorem TreeAt.kept (h : TreeAt w g on of t) (hs : w.heap.size ≤ w'.heap.size) (hb : ∀ b ∈ own g on of, w'.heap[b]? = w.heap[b]?) : TreeAt w' g on of t := by
  obtain ⟨nf, hf, hn⟩ := h.fl
  refine ⟨(hb g (by simp [own])).trans h.blk, h.nm.kept hs fun b e => hb b (by simp [own, e]), ⟨nf, hf.kept hs fun b e => hb b (by simp [own, e]), hn⟩, h.both, h.ne⟩
theorem TreeAt.below (h : TreeAt w g on of t) (hb : Below w.heap.size w w') : TreeAt w' g on of t := h.kept hb.size fun b hm => hb.block b (h.lt b hm)
theorem TreeAt.drew (h : TreeAt w g on of t) : TreeAt w.drew g on of t := h.kept (Nat.le_refl _) fun b _ => rfl
theorem TreeAt.alloc (h : TreeAt w g on of t) (o : Obj) : TreeAt (w.alloc o) g on of t := h.kept (by simp) fun b hm => Below.heap_alloc w o b (h.lt b hm)
end

set_option maxRecDepth 100000 in
theorem of_any (g : Nat) (w : World) {cs : Array Value} (h : Blk w g 58 cs) : Calls Tryd.prog 26 #[.pointer (some ⟨g, 0, none⟩)] w fun e w' => e = .returned (.pointer (some ⟨g, 0, none⟩)) ∧ w' = w := by
  go_enter Tryd.func26, Tryd.ntmps26
  go_wp2_with fail
  go_ret
  exact ⟨rfl, rfl⟩

set_option maxRecDepth 100000 in
theorem thas_any {w : World} {g : Nat} {on of : Option Nat} {t : T} (h : TreeAt w g on of t) (s : ByteArray) (hs : s.size ≤ 1000000) :
    Calls Tryd.prog 30 #[.pointer (some ⟨g, 0, none⟩), .string s] w fun e w' => e = .returned (.bool (t.has s.data.toList)) ∧ w' = w := by
  have c0 := h.blk.cell 0
  have HM := Lib.hid h.nm
  have hk := strK s (by unfold maxLen; omega)
  have e : T.has t s.data.toList = (namesF t.ents (.string s.data.toList)).isSome := by
    rw [namesF_at, Option.isSome_map]; rfl
  rw [e]
  clear h e
  go_enter Tryd.func30, Tryd.ntmps30
  go_wp2_with (first
    | (refine wpList_o_look_ok rfl (.tmp 11) (.tmp 12) 55 rfl 3 strL Tryd.underlying55 intZero HM.out rfl (.string s) (.string s.data.toList) rfl hk (namesF t.ents (.string s.data.toList)) rfl ?_))
  go_ret
  exact ⟨rfl, rfl⟩

set_option maxRecDepth 100000 in
theorem alike_any {w : World} {g : Nat} {on of : Option Nat} {t : T} (h : TreeAt w g on of t) (a b : ByteArray) (ha : a.size ≤ 1000000) (hb : b.size ≤ 1000000) :
    Calls Tryd.prog 14 #[.pointer (some ⟨g, 0, none⟩), .string a, .string b] w fun e w' => e = .returned (.bool (t.alike a.data.toList b.data.toList)) ∧ w' = w := by
  have c0 := h.blk.cell 0
  have OF := Lib.hid (of_any g w h.blk)
  have HM := Lib.hid h.nm
  have hka := strK a (by unfold maxLen; omega)
  have hkb := strK b (by unfold maxLen; omega)
  have ea := namesF_at t.ents a.data.toList
  have eb := namesF_at t.ents b.data.toList
  have e : t.alike a.data.toList b.data.toList = match Tre.look t.ents a.data.toList, Tre.look t.ents b.data.toList with | some i, some k => i == k | _, _ => false := rfl
  rw [e]
  obtain ⟨ra, hra⟩ : ∃ r, r = Tre.look t.ents a.data.toList := ⟨_, rfl⟩
  obtain ⟨rb, hrb⟩ : ∃ r, r = Tre.look t.ents b.data.toList := ⟨_, rfl⟩
  rw [← hra] at ea ⊢
  rw [← hrb] at eb ⊢
  have EA := Lib.hid ea
  have EB := Lib.hid eb
  clear h e ea eb hra hrb
  cases ra with
  | none =>
    go_enter Tryd.func14, Tryd.ntmps14
    go_wp2_with fail
    refine OF.out.mono ?_
    rintro e w' ⟨rfl, hw⟩
    subst hw
    go_wp2_with (first
      | (refine wpList_o_look_ok rfl (.tmp 17) (.tmp 18) 55 rfl 3 strL Tryd.underlying55 intZero HM.out rfl (.string a) (.string a.data.toList) rfl hka none EA.out ?_)
      | (refine wpList_o_look_ok rfl (.tmp 26) (.tmp 27) 55 rfl 3 strL Tryd.underlying55 intZero HM.out rfl (.string b) (.string b.data.toList) rfl hkb _ EB.out ?_))
    go_ret
    exact ⟨rfl, rfl⟩
  | some i =>
    cases rb with
    | none =>
      go_enter Tryd.func14, Tryd.ntmps14
      go_wp2_with fail
      refine OF.out.mono ?_
      rintro e w' ⟨rfl, hw⟩
      subst hw
      go_wp2_with (first
        | (refine wpList_o_look_ok rfl (.tmp 17) (.tmp 18) 55 rfl 3 strL Tryd.underlying55 intZero HM.out rfl (.string a) (.string a.data.toList) rfl hka _ EA.out ?_)
        | (refine wpList_o_look_ok rfl (.tmp 26) (.tmp 27) 55 rfl 3 strL Tryd.underlying55 intZero HM.out rfl (.string b) (.string b.data.toList) rfl hkb none EB.out ?_))
      go_ret
      exact ⟨rfl, rfl⟩
    | some k =>
      obtain ⟨q, hq⟩ : ∃ q : Bool, q = ((i : Int) == (k : Int)) := ⟨_, rfl⟩
      have e2 : (i == k) = q := by
        rw [hq]
        by_cases e : i = k
        · subst e; simp
        · rw [beq_eq_false_iff_ne.2 e, beq_eq_false_iff_ne.2 (by omega)]
      simp only [e2]
      have e3 : ((i : Int) == (k : Int)) = q := hq.symm
      clear hq e2
      go_enter Tryd.func14, Tryd.ntmps14
      go_wp2_with fail
      refine OF.out.mono ?_
      rintro e w' ⟨rfl, hw⟩
      subst hw
      go_wp2_with (first
        | (refine wpList_o_look_ok rfl (.tmp 17) (.tmp 18) 55 rfl 3 strL Tryd.underlying55 intZero HM.out rfl (.string a) (.string a.data.toList) rfl hka _ EA.out ?_)
        | (refine wpList_o_look_ok rfl (.tmp 26) (.tmp 27) 55 rfl 3 strL Tryd.underlying55 intZero HM.out rfl (.string b) (.string b.data.toList) rfl hkb _ EB.out ?_))
      go_ret
      exact ⟨rfl, rfl⟩

/-- What Get returns. -/
def getV (t : T) (s : Pth.Bs) : Value := match Tre.look t.ents s with
  | some k => .tuple #[ndv (t.file k), .nilIface]
  | none => .tuple #[ndv zero, .iface 67 (.int .i64 7)]

set_option maxRecDepth 100000 in
theorem get_any {w : World} {g : Nat} {on of : Option Nat} {t : T} (h : TreeAt w g on of t) (s : ByteArray) (hn : ∀ k, Tre.look t.ents s.data.toList = some k → k ≤ 1000000) (hs : s.size ≤ 1000000) :
    Calls Tryd.prog 15 #[.pointer (some ⟨g, 0, none⟩), .string s] w fun e w' => e = .returned (getV t s.data.toList) ∧ Below w.heap.size w w' := by
  have hg := h.blk.lt
  have c0 := h.blk.cell 0
  have c1 := h.blk.cell 1
  obtain ⟨nf, hf, _⟩ := h.fl
  have HM := Lib.hid h.nm
  have HF := Lib.hid hf
  have HB := Lib.hid h.blk
  have hks := strK s (by unfold maxLen; omega)
  have es := namesF_at t.ents s.data.toList
  unfold getV
  obtain ⟨r, hr⟩ : ∃ r, r = Tre.look t.ents s.data.toList := ⟨_, rfl⟩
  rw [← hr] at es hn ⊢
  have ES := Lib.hid es
  clear h es hr hf
  cases r with
  | none =>
    go_enter Tryd.func15, Tryd.ntmps15
    go_wp2_with fail
    refine (of_any _ _ (HB.out.alloc _)).mono ?_
    rintro e w' ⟨rfl, hw⟩
    subst hw
    go_wp2_with (first
      | (refine wpList_o_look_ok rfl (.tmp 14) (.tmp 15) 55 rfl 3 strL Tryd.underlying55 intZero (HM.out.alloc _) rfl (.string s) (.string s.data.toList) rfl hks none ES.out ?_))
    exact bodyPost_ret (v := .tuple #[.agg #[.int .u8 0, .int .i64 0, .int .i64 0, .int .i64 0, .int .i64 0, .int .i64 0, .string ⟨#[]⟩, .string ⟨#[]⟩, .int .i64 0, .int .i64 0], .iface 67 (.int .i64 7)]) (by simp [results, Tryd.results15, go_sem]) rfl ⟨rfl, (Below.refl _ _).alloc (Nat.le_refl _) _⟩
  | some k =>
    have hk := natK k (hn k rfl)
    have hget := files_get t k
    obtain ⟨n, hN⟩ : ∃ n, n = t.file k := ⟨_, rfl⟩
    rw [← hN] at hget
    simp only [← hN]
    obtain ⟨n0, n1, n2, n3, n4, n5, n6, n7, n8, n9⟩ := n
    have HG := Lib.hid hget
    clear hget hN hn
    go_enter Tryd.func15, Tryd.ntmps15
    go_wp2_with fail
    refine (of_any _ _ (HB.out.alloc _)).mono ?_
    rintro e w' ⟨rfl, hw⟩
    subst hw
    go_wp2_with (first
      | (refine wpList_o_look_ok rfl (.tmp 14) (.tmp 15) 55 rfl 3 strL Tryd.underlying55 intZero (HM.out.alloc _) rfl (.string s) (.string s.data.toList) rfl hks _ ES.out ?_)
      | (refine wpList_o_look rfl (.tmp 26) (.tmp 27) 56 rfl 35 intL Tryd.underlying56 ndZero (HF.out.alloc _) rfl (.int .i64 k) (.int .i64 k) rfl hk _ rfl ?_; rw [HG.out]; unfold ndv ndc))
    exact bodyPost_ret (v := .tuple #[.agg #[.int .u8 n0, .int .i64 n1, .int .i64 n2, .int .i64 n3, .int .i64 n4, .int .i64 n5, .string (bs n6), .string (bs n7), .int .i64 n8, .int .i64 n9], .nilIface]) (by simp [results, Tryd.results15, go_sem]) rfl ⟨rfl, (Below.refl _ _).alloc (Nat.le_refl _) _⟩

set_option maxRecDepth 100000 in
theorem isDir_any {w : World} {g : Nat} {on of : Option Nat} {t : T} (h : TreeAt w g on of t) (s : ByteArray) (hn : ∀ k, Tre.look t.ents s.data.toList = some k → k ≤ 1000000) (hs : s.size ≤ 1000000) :
    Calls Tryd.prog 51 #[.pointer (some ⟨g, 0, none⟩), .string s] w fun e w' => e = .returned (.bool (t.isDir s.data.toList)) ∧ Below w.heap.size w w' := by
  have hg := get_any h s hn hs
  have e : t.isDir s.data.toList = match Tre.look t.ents s.data.toList with | some k => (t.file k).kind == 53 | none => false := by
    unfold T.isDir T.isKind T.get
    cases Tre.look t.ents s.data.toList <;> rfl
  rw [e]
  unfold getV at hg
  obtain ⟨r, hr⟩ : ∃ r, r = Tre.look t.ents s.data.toList := ⟨_, rfl⟩
  rw [← hr] at hg ⊢
  clear e h hn hr
  cases r with
  | none =>
    simp only at hg ⊢
    unfold ndv ndc zero at hg
    have G := Lib.hid hg
    clear hg
    go_enter Tryd.func51, Tryd.ntmps51
    go_wp2_with fail
    refine G.out.mono ?_
    rintro e w1 ⟨rfl, h1⟩
    have B1 := Lib.hid h1
    clear h1
    go_wp2_with fail
    go_ret
    exact ⟨rfl, B1.out.alloc B1.out.size _⟩
  | some k =>
    simp only at hg ⊢
    obtain ⟨n, hN⟩ : ∃ n, n = t.file k := ⟨_, rfl⟩
    rw [← hN] at hg ⊢
    obtain ⟨n0, n1, n2, n3, n4, n5, n6, n7, n8, n9⟩ := n
    unfold ndv ndc at hg
    simp only at hg ⊢
    obtain ⟨q, hq⟩ : ∃ q : Bool, q = ((n0 : Int) == 53) := ⟨_, rfl⟩
    have e2 : (n0 == 53) = q := by
      rw [hq]
      by_cases e : n0 = 53
      · subst e; rfl
      · rw [beq_eq_false_iff_ne.2 e, beq_eq_false_iff_ne.2 (by omega)]
    have e3 := hq.symm
    rw [e2]
    have G := Lib.hid hg
    clear hg hN hq e2
    go_enter Tryd.func51, Tryd.ntmps51
    go_wp2_with fail
    refine G.out.mono ?_
    rintro e w1 ⟨rfl, h1⟩
    have B1 := Lib.hid h1
    clear h1
    go_wp2_with fail
    go_ret
    exact ⟨rfl, B1.out.alloc B1.out.size _⟩

end Go.Proofs.YtehooifcgfkngaaDoor
