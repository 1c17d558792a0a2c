/-
  The walk of HeadBent.
-/
import Derived.Test.YtckdieaglcifeaaDoorHeadArg
import Derived.Test.YtckdieaglcifeaaDoorTell
import Derived.Deep.RegionHeld3
import Derived.Lib.ConvBytes
namespace Go.Proofs.YtckdieaglcifeaaDoor
open Go.RowKit

theorem split_at (l : List UInt8) (k : Nat) (h : k < l.length) : l = l.take k ++ l[k] :: l.drop (k + 1) := by
  have := List.take_append_drop k l
  rw [List.drop_eq_getElem_cons h] at this
  exact this.symm
theorem convert_one (d : UInt8) (w : World) : (convert 39 9 (.slice (some ⟨w.heap.size, 0, none⟩) 1 1)).run Tryd.prog (w.alloc (.cells #[.int .u8 (d.toNat : Int)] 5)).drew = .ok (.string ⟨#[d]⟩) (w.alloc (.cells #[.int .u8 (d.toNat : Int)] 5)).drew :=
  convert_row (P := Tryd.prog) _ 39 9 5 5 w.heap.size 1 1 [d] #[.int .u8 (d.toNat : Int)] Tryd.underlying39 Tryd.underlying5 Tryd.underlying9 rfl rfl (Blk.new w _ _).drew

theorem write_two (d : Nat) (n l u g f : ByteArray) (k : UInt8) (m1 m2 m3 m4 m5 m6 m7 : Int) (hd1 : 1 ≤ d) (hd4 : d ≤ 4) (hw : (hraw n l u g f k m1 m2 m3 m4 m5 m6 m7).wf) (w : World) :
    Calls Tryd.prog 9 #[.int .i64 d, .agg #[.string n, .string l, .string u, .string g, .string f, .int .u8 k.toNat, .int .i64 m1, .int .i64 m2, .int .i64 m3, .int .i64 m4, .int .i64 m5, .int .i64 m6, .int .i64 m7]] w fun e w' => Below w.heap.size w w' ∧ ∃ (s : ByteArray) (E : Value), e = .returned (.tuple #[.string s, E]) ∧ ((E = .nilIface ∧ HWrite d (hraw n l u g f k m1 m2 m3 m4 m5 m6 m7) s.data.toList) ∨ ∃ x : Int, E = .iface 40 (.int .i64 x)) := by
  refine (write_walk d n l u g f k m1 m2 m3 m4 m5 m6 m7 hd1 hd4 hw w).mono ?_
  rintro e w' ⟨hb, ⟨s, rfl, hs⟩ | ⟨s, x, rfl, _⟩⟩
  · exact ⟨hb, s, _, rfl, .inl ⟨rfl, hs⟩⟩
  · exact ⟨hb, s, _, rfl, .inr ⟨x, rfl⟩⟩

/-- a header with one byte put anew: it is the same, or no header. -/
theorem bent_way (d : Nat) (r : HRaw) (s : ByteArray) (hs : HWrite d r s.data.toList) (k : Nat) (hk1 : k < 512) (hk2 : k < 148 ∨ 156 ≤ k) (c : UInt8) (T : ByteArray) (hT : T = s.extract 0 k ++ ⟨#[c]⟩ ++ s.extract (k + 1) s.size) :
    T = s ∨ ((T.toList == s.toList) = false ∧ T.size = 512 ∧ rightL T.data.toList = false) := by
  have hsz : s.data.toList.length = 512 := write_len hs
  have hTl : T.data.toList = s.data.toList.take k ++ c :: s.data.toList.drop (k + 1) := by
    rw [hT, cat_list, cat_list, ext_to, ext_end, List.append_assoc]; rfl
  have hkl : k < s.data.toList.length := by omega
  have hdec := split_at s.data.toList k hkl
  have hlen : (s.data.toList.take k).length = k := by rw [List.length_take]; omega
  by_cases hc : c = s.data.toList[k]
  · left; exact ba_ext (by rw [hTl, hc]; exact hdec.symm)
  · right
    have hne : T.data.toList ≠ s.data.toList := fun e => hc (by
      have e2 := congrArg (fun x : List UInt8 => x[k]?) e
      simp only [hTl] at e2
      rw [List.getElem?_append_right (by rw [hlen]; exact Nat.le_refl _), hlen, Nat.sub_self, List.getElem?_eq_getElem hkl] at e2
      simpa using e2)
    refine ⟨by rw [Lib.toList_data, Lib.toList_data]; exact beq_eq_false_iff_ne.2 hne, ?_, ?_⟩
    · rw [← list_size, hTl]
      simp only [List.length_append, List.length_cons, List.length_drop, hlen]
      omega
    · obtain ⟨_, _, ht, ls, hn, he⟩ := hs
      rw [hTl, right_bent (body r d ls) (s.data.toList.take k) (s.data.toList.drop (k + 1)) s.data.toList[k] c (body_len hn ht) (by rw [← he]; exact hdec) (by rw [hlen]; exact hk2)]
      exact decide_eq_false hc

/-- the sum of five sizes, as the walk reckons it -/
def Sum5 (a b c d e : ByteArray) : Prop := IntKind.i64.wrap ((a.size : Int) + b.size) = (a.size : Int) + b.size ∧ IntKind.i64.wrap ((a.size : Int) + b.size + c.size) = (a.size : Int) + b.size + c.size ∧
  IntKind.i64.wrap ((a.size : Int) + b.size + c.size + d.size) = (a.size : Int) + b.size + c.size + d.size ∧ IntKind.i64.wrap ((a.size : Int) + b.size + c.size + d.size + e.size) = (a.size : Int) + b.size + c.size + d.size + e.size
theorem sum5 (a b c d e : ByteArray) (s1 : a.size ≤ 140737488351232) (s2 : b.size ≤ 140737488351232) (s3 : c.size ≤ 140737488351232) (s4 : d.size ≤ 140737488351232) (s5 : e.size ≤ 140737488351232) : Sum5 a b c d e :=
  ⟨IntWalk.i64_in _ (by omega), IntWalk.i64_in _ (by omega), IntWalk.i64_in _ (by omega), IntWalk.i64_in _ (by omega)⟩

set_option maxRecDepth 100000 in
set_option maxHeartbeats 2000000 in
theorem headBent_big (dialect : Int) (n l u g f : ByteArray) (k : UInt8) (m1 m2 m3 m4 m5 m6 m7 : Int) (at_ c : Int) (z1 : Sum5 n l u g f) (hbig : (600 : Int) < (n.size : Int) + l.size + u.size + g.size + f.size) (w : World) :
    Calls Tryd.prog 6 #[.int .i64 dialect, .agg #[.string n, .string l, .string u, .string g, .string f, .int .u8 k.toNat, .int .i64 m1, .int .i64 m2, .int .i64 m3, .int .i64 m4, .int .i64 m5, .int .i64 m6, .int .i64 m7], .int .i64 at_, .int .u8 c] w fun e w' => e = .returned (.bool true) ∧ Below w.heap.size w w' := by
  obtain ⟨e1, e2, e3, e4⟩ := z1
  go_enter Tryd.func6, Tryd.ntmps6
  go_wp2_with fail
  refine (headed_any _).mono ?_
  rintro e w1 ⟨rfl, h1⟩
  have B1 := Lib.hid (thenB ((Below.refl _ _).alloc (Nat.le_refl _) _) h1)
  have hR : Blk w1 w.heap.size 23 #[.string n, .string l, .string u, .string g, .string f, .int .u8 k.toNat, .int .i64 m1, .int .i64 m2, .int .i64 m3, .int .i64 m4, .int .i64 m5, .int .i64 m6, .int .i64 m7] := (Blk.new w _ _).below h1 (by simp)
  have c0 := hR.cell 0
  have c1 := hR.cell 1
  have c2 := hR.cell 2
  have c3 := hR.cell 3
  have c4 := hR.cell 4
  clear h1 hR
  go_wp2_with fail
  go_ret
  exact ⟨rfl, B1.out⟩

set_option maxRecDepth 100000 in
set_option maxHeartbeats 4000000 in
theorem headBent_small (dialect : Int) (n l u g f : ByteArray) (k : UInt8) (m1 m2 m3 m4 m5 m6 m7 : Int) (hw : (hraw n l u g f k m1 m2 m3 m4 m5 m6 m7).wf) (at_ : Int) (c : UInt8) (z1 : Sum5 n l u g f) (hs : ¬ (600 : Int) < (n.size : Int) + l.size + u.size + g.size + f.size) (w : World) (hE : ErrT w) :
    Calls Tryd.prog 6 #[.int .i64 dialect, .agg #[.string n, .string l, .string u, .string g, .string f, .int .u8 k.toNat, .int .i64 m1, .int .i64 m2, .int .i64 m3, .int .i64 m4, .int .i64 m5, .int .i64 m6, .int .i64 m7], .int .i64 at_, .int .u8 c.toNat] w fun e w' => e = .returned (.bool true) ∧ Below w.heap.size w w' := by
  obtain ⟨e1, e2, e3, e4⟩ := z1
  have p0 := pickN_lo dialect 4 (by omega)
  have p1 := pickN_hi dialect 4 (by omega)
  obtain ⟨p, hp⟩ := Int.eq_ofNat_of_zero_le p0
  have hpick := fun w => pick_any dialect 4 w (by omega) (by omega)
  rw [hp] at hpick p0 p1
  clear hp
  obtain ⟨d, hd⟩ : ∃ d : Nat, d = 1 + p := ⟨_, rfl⟩
  have hdi : (1 : Int) + (p : Int) = (d : Int) := by omega
  have hd1 : 1 ≤ d := by omega
  have hd4 : d ≤ 4 := by omega
  have PK := Lib.hid hpick
  have WR := Lib.hid (fun w => write_two d n l u g f k m1 m2 m3 m4 m5 m6 m7 hd1 hd4 hw w)
  have RD := Lib.hid (fun (s : ByteArray) (h : HWrite d (hraw n l u g f k m1 m2 m3 m4 m5 m6 m7) s.data.toList) w => hread_ok d (hraw n l u g f k m1 m2 m3 m4 m5 m6 m7) s.data.toList hd1 hd4 hw h w)
  have ew : IntKind.i64.wrap (d : Int) = (d : Int) := IntWalk.i64_in _ (by omega)
  have a0 := pickN_lo at_ 504 (by omega)
  have a1 := pickN_hi at_ 504 (by omega)
  obtain ⟨q, hq⟩ := Int.eq_ofNat_of_zero_le a0
  have hpick2 := fun w => pick_any at_ 504 w (by omega) (by omega)
  rw [hq] at hpick2 a0 a1
  have PA := Lib.hid hpick2
  clear hpick hpick2 hw hd p0 p1 hq
  go_enter Tryd.func6, Tryd.ntmps6
  go_wp2_with fail
  refine (headed_any _).mono ?_
  rintro e w1 ⟨rfl, h1⟩
  have B1 := Lib.hid (thenB ((Below.refl _ _).alloc (Nat.le_refl _) _) h1)
  have hR : Blk w1 w.heap.size 23 #[.string n, .string l, .string u, .string g, .string f, .int .u8 k.toNat, .int .i64 m1, .int .i64 m2, .int .i64 m3, .int .i64 m4, .int .i64 m5, .int .i64 m6, .int .i64 m7] := (Blk.new w _ _).below h1 (by simp)
  have c0 := hR.cell 0
  have c1 := hR.cell 1
  have c2 := hR.cell 2
  have c3 := hR.cell 3
  have c4 := hR.cell 4
  have c5 := hR.cell 5
  have c6 := hR.cell 6
  have c7 := hR.cell 7
  have c8 := hR.cell 8
  have c9 := hR.cell 9
  have c10 := hR.cell 10
  have c11 := hR.cell 11
  have c12 := hR.cell 12
  clear h1 hR
  go_wp2_with fail
  go_cut [9, 10] (fun s9 s10 wx => ∃ (s : ByteArray), s9 = .string s ∧ Below w.heap.size w wx ∧ ((s10 = .nilIface ∧ HWrite d (hraw n l u g f k m1 m2 m3 m4 m5 m6 m7) s.data.toList) ∨ ∃ x : Int, s10 = .iface 40 (.int .i64 x)))
  case first =>
    go_region_with (first
      | (go_at_call 8; (with_reducible refine (PK.out _).mono ?_); rintro e wt ⟨rfl, rfl⟩)
      | (go_at_call 9; (with_reducible refine (WR.out _).mono ?_); rintro e wt ⟨TT, s, E, rfl, hE⟩; have OK := Lib.hid hE; have T0 := Lib.hid TT; clear TT hE))
    all_goals go_wp2_with fail
    all_goals go_meet
    all_goals exact ⟨s, rfl, thenB B1.out.drew T0.out, OK.out⟩
  case rest =>
    obtain ⟨s, rfl, hb, hway⟩ := hcut
    have BB := Lib.hid hb
    clear hb B1
    rcases hway with ⟨rfl, hws⟩ | ⟨x, rfl⟩
    · have hs1 : s.size ≤ 512 := by rw [← list_size, write_len hws]; omega
      have hs2 : 512 ≤ s.size := by rw [← list_size, write_len hws]; omega
      have HWS := Lib.hid hws
      by_cases hlow : q < 148
      · skip
        have hlow' : ¬ (148 : Int) ≤ q := by omega
        obtain ⟨T, hT⟩ : ∃ T, T = s.extract 0 q ++ ⟨#[c]⟩ ++ s.extract (q + 1) s.size := ⟨_, rfl⟩
        have hT2 := hT.symm
        have hbw := bent_way d _ s hws q (by omega) (by omega) c T hT
        have HT := Lib.hid hT.symm
        have HBW := Lib.hid hbw
        have c1 := fun w => run_string_add_sum (P := Tryd.prog) w (s.extract 0 q) ⟨#[c]⟩ (by rw [ext_size _ _ _ (by omega)]; show _ + 1 ≤ _; omega)
        have c2 := fun w => run_string_add_sum (P := Tryd.prog) w (s.extract 0 q ++ ⟨#[c]⟩) (s.extract (q + 1) s.size) (by rw [ByteArray.size_append, ext_size _ _ _ (by omega), ext_size _ _ _ (Nat.le_refl _)]; show _ + 1 + _ ≤ _; omega)
        have hcv := convert_one c
        have ew9 : IntKind.i64.wrap ((q : Int) + 1) = (q : Int) + 1 := IntWalk.i64_in _ (by omega)
        have en : (0 : Int) ≤ (q : Int) + 1 := by omega
        have et : ((q : Int) + 1).toNat = q + 1 := by omega
        have g2 : (q : Int) + 1 ≤ s.size := by omega
        have g3 : (q : Int) ≤ s.size := by omega
        have g4 : (0 : Int) ≤ (q : Int) := by omega
        have g5 : ((q : Int)).toNat = q := by omega
        clear hT hT2 hbw hlow
        go_wp2_with fail
        refine (PA.out _).mono ?_
        rintro e w3 ⟨rfl, rfl⟩
        go_wp2_with fail
        go_cut [11] (fun s11 wx => s11 = .string T ∧ Below w.heap.size w wx)
        case first =>
          go_region
          all_goals go_wp2_with fail
          all_goals go_meet
          all_goals rw [HT.out]
          all_goals exact ⟨rfl, (BB.out.alloc (by have := BB.out.size; omega) _).drew⟩
        case rest =>
          obtain ⟨rfl, hb⟩ := hcut
          have BC := Lib.hid hb
          have hbw := HBW.out
          clear hb HBW HT c1 c2 hcv
          rcases hbw with rfl | ⟨hne, hts, htr⟩
          · have hrd := fun w => RD.out T HWS.out w
            rw [bs_of] at hrd
            have HRD := Lib.hid hrd
            clear hrd
            go_wp2_with fail
            refine (HRD.out _).mono ?_
            rintro e w4 ⟨rfl, h4⟩
            have B4 := Lib.hid (thenB BC.out h4)
            clear h4
            go_wp2_with fail
            go_ret
            exact ⟨by first | rfl | simp, B4.out⟩
          · have HRD := Lib.hid (fun w => read_spoilt T (by omega) (by omega) htr w)
            clear htr
            go_wp2_with fail
            refine (HRD.out _).mono ?_
            rintro e w4 ⟨rfl, h4⟩
            have B4 := Lib.hid (thenB BC.out h4)
            have hE4 := hE.below B4.out
            clear h4
            go_wp2_with fail
            refine (tell_errno 15 _ hE4).mono ?_
            rintro e w5 ⟨rfl, h5⟩
            have B5 := Lib.hid (thenB B4.out h5)
            clear h5
            go_wp2_with fail
            go_ret
            exact ⟨by first | rfl | simp, B5.out⟩
      · skip
        have hlow' : (148 : Int) ≤ q := by omega
        have ew8 : IntKind.i64.wrap ((q : Int) + 8) = (q : Int) + 8 := IntWalk.i64_in _ (by omega)
        obtain ⟨T, hT⟩ : ∃ T, T = s.extract 0 (q + 8) ++ ⟨#[c]⟩ ++ s.extract ((q + 8) + 1) s.size := ⟨_, rfl⟩
        have hT2 := hT.symm
        have hbw := bent_way d _ s hws (q + 8) (by omega) (by omega) c T hT
        have HT := Lib.hid hT.symm
        have HBW := Lib.hid hbw
        have c1 := fun w => run_string_add_sum (P := Tryd.prog) w (s.extract 0 (q + 8)) ⟨#[c]⟩ (by rw [ext_size _ _ _ (by omega)]; show _ + 1 ≤ _; omega)
        have c2 := fun w => run_string_add_sum (P := Tryd.prog) w (s.extract 0 (q + 8) ++ ⟨#[c]⟩) (s.extract ((q + 8) + 1) s.size) (by rw [ByteArray.size_append, ext_size _ _ _ (by omega), ext_size _ _ _ (Nat.le_refl _)]; show _ + 1 + _ ≤ _; omega)
        have hcv := convert_one c
        have ew9 : IntKind.i64.wrap (((q : Int) + 8) + 1) = ((q : Int) + 8) + 1 := IntWalk.i64_in _ (by omega)
        have en : (0 : Int) ≤ ((q : Int) + 8) + 1 := by omega
        have et : (((q : Int) + 8) + 1).toNat = (q + 8) + 1 := by omega
        have g2 : ((q : Int) + 8) + 1 ≤ s.size := by omega
        have g3 : ((q : Int) + 8) ≤ s.size := by omega
        have g4 : (0 : Int) ≤ ((q : Int) + 8) := by omega
        have g5 : (((q : Int) + 8)).toNat = (q + 8) := by omega
        clear hT hT2 hbw hlow
        go_wp2_with fail
        refine (PA.out _).mono ?_
        rintro e w3 ⟨rfl, rfl⟩
        go_wp2_with fail
        go_cut [11] (fun s11 wx => s11 = .string T ∧ Below w.heap.size w wx)
        case first =>
          go_region
          all_goals go_wp2_with fail
          all_goals go_meet
          all_goals rw [HT.out]
          all_goals exact ⟨rfl, (BB.out.alloc (by have := BB.out.size; omega) _).drew⟩
        case rest =>
          obtain ⟨rfl, hb⟩ := hcut
          have BC := Lib.hid hb
          have hbw := HBW.out
          clear hb HBW HT c1 c2 hcv
          rcases hbw with rfl | ⟨hne, hts, htr⟩
          · have hrd := fun w => RD.out T HWS.out w
            rw [bs_of] at hrd
            have HRD := Lib.hid hrd
            clear hrd
            go_wp2_with fail
            refine (HRD.out _).mono ?_
            rintro e w4 ⟨rfl, h4⟩
            have B4 := Lib.hid (thenB BC.out h4)
            clear h4
            go_wp2_with fail
            go_ret
            exact ⟨by first | rfl | simp, B4.out⟩
          · have HRD := Lib.hid (fun w => read_spoilt T (by omega) (by omega) htr w)
            clear htr
            go_wp2_with fail
            refine (HRD.out _).mono ?_
            rintro e w4 ⟨rfl, h4⟩
            have B4 := Lib.hid (thenB BC.out h4)
            have hE4 := hE.below B4.out
            clear h4
            go_wp2_with fail
            refine (tell_errno 15 _ hE4).mono ?_
            rintro e w5 ⟨rfl, h5⟩
            have B5 := Lib.hid (thenB B4.out h5)
            clear h5
            go_wp2_with fail
            go_ret
            exact ⟨by first | rfl | simp, B5.out⟩
    · go_wp2_with fail
      go_ret
      exact ⟨rfl, BB.out⟩

set_option maxRecDepth 100000 in
theorem headBent_walk (dialect : Int) (_hd : (Lit.int .i64 dialect).wf = true) {H : Type} {enc : TypeId × Value → H} {d : DataW H} {ps : List MemPlace} {base : Nat} (v : Value) {w : World} (hok : Value.okWide Tryd.prog w .any base 23 v)
    (h : DataW.Trod enc Tryd.prog w 0 (fun _ => true) true 23 v d ps) (hz : ∀ n ∈ d.weights Tryd.prog 23, n ≤ reachBytes) (at_ : Int) (_ha : (Lit.int .i64 at_).wf = true) (c : Int) (hc : (Lit.int .u8 c).wf = true)
    (hL : laidMetH Tryd.prog Rows.headBentRow.laid w) :
    Calls Tryd.prog 6 #[.int .i64 dialect, v, .int .i64 at_, .int .u8 c] w fun e w' => e = .returned (.bool true) ∧ Below w.heap.size w w' := by
  obtain ⟨r, rfl, hw, z1, z2, z3, z4, z5⟩ := raw_open hok h hz
  obtain ⟨n, l, u, g, f, k, m1, m2, m3, m4, m5, m6, m7⟩ := r
  obtain ⟨c, rfl⟩ : ∃ d : UInt8, c = (d.toNat : Int) := by
    have h : 0 ≤ c ∧ c < 256 := by have := bounds_u8 hc; omega
    exact ⟨UInt8.ofNat c.toNat, by simp [UInt8.toNat_ofNat']; omega⟩
  have hE := errT_of_laid hL (by simp [Rows.headBentRow, Rows.laid_errors_errorType])
  have hS := sum5 (bs n) (bs l) (bs u) (bs g) (bs f) z1 z2 z3 z4 z5
  by_cases hb : (600 : Int) < ((bs n).size : Int) + (bs l).size + (bs u).size + (bs g).size + (bs f).size
  · exact headBent_big dialect (bs n) (bs l) (bs u) (bs g) (bs f) k m1 m2 m3 m4 m5 m6 m7 at_ c.toNat hS hb w
  · exact headBent_small dialect (bs n) (bs l) (bs u) (bs g) (bs f) k m1 m2 m3 m4 m5 m6 m7 hw at_ c hS hb w hE

end Go.Proofs.YtckdieaglcifeaaDoor
