/-
  What a valid file is: stamp.Right, tree.within, tree.Right.
-/
import Derived.Test.YtipajekehbpghaaGreatDoorZc
import Derived.Test.YtipajekehbpghaaGreatDoorZs
import Derived.Test.YtipajekehbpghaaGreatDoorZa
import Derived.Deep.DeepCutAuto
import Derived.Lib.Strings
import Derived.Deep.LoopGhost
set_option linter.unusedVariables false
set_option linter.unusedSimpArgs false

namespace Go.Proofs.YtipajekehbpghaaGreatDoor
open Go.RowKit Go.Maps Tre

theorem has_zero' (l : List UInt8) : (Lib.indexByte l 0 < 0) ↔ l.contains 0 = false := by
  have hge := Lib.indexByte_ge l 0
  constructor
  · intro h
    have h1 := Lib.indexByte_none (l := l) (c := 0) (by omega)
    rw [Bool.eq_false_iff]
    intro hc
    obtain ⟨k, hk⟩ := List.getElem?_of_mem (List.contains_iff_mem.1 hc)
    exact h1 k hk
  · intro h
    rcases Int.lt_or_le (Lib.indexByte l 0) 0 with h1 | h1
    · exact h1
    · exfalso
      obtain ⟨i, hi⟩ := Int.eq_ofNat_of_zero_le h1
      have h2 := (Lib.indexByte_some hi).1
      have : l.contains 0 = true := List.contains_iff_mem.2 (List.mem_of_getElem? h2)
      rw [this] at h; cases h

theorem stampR_any (s n : Int) (w : World) : Calls Tryz.prog 58 #[.agg #[.int .i64 s, .int .i64 n]] w fun e w' => e = .returned (.bool (stampR s n)) ∧ Below w.heap.size w w' := by
  have e0 : stampR s n = (decide (-1099511627776 ≤ s) && decide (s ≤ 1099511627776) && decide (0 ≤ n) && decide (n < 1000000000)) := rfl
  obtain ⟨r, hr⟩ : ∃ r, r = stampR s n := ⟨_, rfl⟩
  rw [← hr] at e0 ⊢
  have hways : (¬ -1099511627776 ≤ s ∧ r = false) ∨ (-1099511627776 ≤ s ∧ ¬ s ≤ 1099511627776 ∧ r = false) ∨ (-1099511627776 ≤ s ∧ s ≤ 1099511627776 ∧ ¬ 0 ≤ n ∧ r = false) ∨ (-1099511627776 ≤ s ∧ s ≤ 1099511627776 ∧ 0 ≤ n ∧ ¬ n < 1000000000 ∧ r = false) ∨ (-1099511627776 ≤ s ∧ s ≤ 1099511627776 ∧ 0 ≤ n ∧ n < 1000000000 ∧ r = true) := by
    rw [e0]
    by_cases h1 : -1099511627776 ≤ s
    · by_cases h2 : s ≤ 1099511627776
      · by_cases h3 : 0 ≤ n
        · by_cases h4 : n < 1000000000
          · exact .inr (.inr (.inr (.inr ⟨h1, h2, h3, h4, by rw [decide_eq_true h1, decide_eq_true h2, decide_eq_true h3, decide_eq_true h4]; rfl⟩)))
          · exact .inr (.inr (.inr (.inl ⟨h1, h2, h3, h4, by rw [decide_eq_false h4, Bool.and_false]⟩)))
        · exact .inr (.inr (.inl ⟨h1, h2, h3, by rw [decide_eq_false h3, Bool.and_false, Bool.false_and]⟩))
      · exact .inr (.inl ⟨h1, h2, by rw [decide_eq_false h2, Bool.and_false, Bool.false_and, Bool.false_and]⟩)
    · exact .inl ⟨h1, by rw [decide_eq_false h1, Bool.false_and, Bool.false_and, Bool.false_and]⟩
  clear hr e0
  rcases hways with ⟨k1, rfl⟩ | ⟨k1, k2, rfl⟩ | ⟨k1, k2, k3, rfl⟩ | ⟨k1, k2, k3, k4, rfl⟩ | ⟨k1, k2, k3, k4, rfl⟩
  all_goals
    go_enter Tryz.func58, Tryz.ntmps58
    go_wp2_with fail
    go_ret
    exact ⟨by first | rfl | (simp <;> omega), (Below.refl _ _).alloc (Nat.le_refl _) _⟩

theorem within_any (n lo hi : Int) (w : World) : Calls Tryz.prog 127 #[.int .i64 n, .int .i64 lo, .int .i64 hi] w fun e w' => e = .returned (.bool (inR n lo hi)) ∧ w' = w := by
  have e0 : inR n lo hi = (decide (lo ≤ n) && decide (n ≤ hi)) := rfl
  obtain ⟨r, hr⟩ : ∃ r, r = inR n lo hi := ⟨_, rfl⟩
  rw [← hr] at e0 ⊢
  have hways : (¬ lo ≤ n ∧ r = false) ∨ (lo ≤ n ∧ ¬ n ≤ hi ∧ r = false) ∨ (lo ≤ n ∧ n ≤ hi ∧ r = true) := by
    rw [e0]
    by_cases h1 : lo ≤ n
    · by_cases h2 : n ≤ hi
      · exact .inr (.inr ⟨h1, h2, by simp [h1, h2]⟩)
      · exact .inr (.inl ⟨h1, h2, by simp [h2]⟩)
    · exact .inl ⟨h1, by simp [h1]⟩
  clear hr e0
  rcases hways with ⟨k1, rfl⟩ | ⟨k1, k2, rfl⟩ | ⟨k1, k2, rfl⟩
  all_goals
    go_enter Tryz.func127, Tryz.ntmps127
    go_wp2_with fail
    go_ret
    exact ⟨by first | rfl | (simp <;> omega), rfl⟩

/-- rightN, of its tests' results. -/
def rightB (a k49 m u g st q7 ll lz mj mn dev z8 z9 k48 de dl : Bool) : Bool :=
  (a && !k49) && (m && u && g && st) && (!q7 && ll && !lz) && (mj && mn && (dev || (z8 && z9))) && (if k48 = true then dl else de)
theorem rightN_eq (n : Nd) : rightN n = rightB (inR n.kind 48 54) (n.kind == 49) (inR n.mode 0 4095) (inR n.uid 0 1099511627775) (inR n.gid 0 1099511627775) (stampR n.sec n.nano) ((!(n.link == [])) != (n.kind == 50)) (decide (n.link.length ≤ 120)) (n.link.contains 0)
    (inR n.major 0 2097151) (inR n.minor 0 2097151) (n.kind == 51 || n.kind == 52) (n.major == 0) (n.minor == 0) (n.kind == 48) (n.data == []) (decide (n.data.length ≤ 4000)) := by
  unfold rightN rightB
  simp only [beq_iff_eq, bne, Bool.not_not]
theorem kindB (k c : Nat) : ((k : Int) == (c : Int)) = (k == c) := by
  by_cases e : k = c
  · subst e; simp
  · rw [beq_eq_false_iff_ne.2 e, beq_eq_false_iff_ne.2 (by omega)]
theorem empB (l : List UInt8) : (bs l).toList.isEmpty = (l == []) := by
  rw [show (bs l).toList = l from Lib.toList_data _]; cases l <;> rfl

set_option maxRecDepth 100000 in
set_option maxHeartbeats 4000000 in
theorem treeRight_any (n : Nd) (hk : n.kind ≤ 255) (h1 : n.link.length ≤ 1000000) (h2 : n.data.length ≤ 1000000) (w : World) : Calls Tryz.prog 94 #[ndv n] w fun e w' => e = .returned (.bool (rightN n)) ∧ Below w.heap.size w w' := by
  rw [rightN_eq]
  obtain ⟨k, m, u, g, s, na, d, l, mj, mn⟩ := n
  unfold ndv ndc
  simp only at hk h1 h2 ⊢
  have q49 : ((k : Int) == 49) = (k == 49) := kindB k 49
  have q50 : ((k : Int) == 50) = (k == 50) := kindB k 50
  have q51 : ((k : Int) == 51) = (k == 51) := kindB k 51
  have q52 : ((k : Int) == 52) = (k == 52) := kindB k 52
  have q48 : ((k : Int) == 48) = (k == 48) := kindB k 48
  have qle := empB l
  have qde := empB d
  have hz := has_zero' l
  have hi := fun w => Tryz.strings_IndexByte (bs l) 0 w
  have hix : (0 : Int).toNat.toUInt8 = 0 := rfl
  rw [hix] at hi
  rw [bs_list] at hi
  obtain ⟨x, hx⟩ : ∃ x, x = Lib.indexByte l 0 := ⟨_, rfl⟩
  rw [← hx] at hi hz
  have HI := Lib.hid hi
  have W1 := Lib.hid (fun w => within_any k 48 54 w)
  have W2 := Lib.hid (fun w => within_any m 0 4095 w)
  have W3 := Lib.hid (fun w => within_any u 0 1099511627775 w)
  have W4 := Lib.hid (fun w => within_any g 0 1099511627775 w)
  have W5 := Lib.hid (fun w => stampR_any s na w)
  have W6 := Lib.hid (fun w => within_any mj 0 2097151 w)
  have W7 := Lib.hid (fun w => within_any mn 0 2097151 w)
  have L1 : decide ((120 : Int) < (bs l).size) = !decide (l.length ≤ 120) := by rw [bs_size]; by_cases h : l.length ≤ 120 <;> simp [h] <;> omega
  have L2 : decide (((bs d).size : Int) ≤ 4000) = decide (d.length ≤ 4000) := by rw [bs_size]; by_cases h : d.length ≤ 4000 <;> simp [h] <;> omega
  have Z1 : decide ((0 : Int) ≤ x) = l.contains 0 := by
    cases hc : l.contains 0
    · exact decide_eq_false (by have := hz.2 hc; omega)
    · refine decide_eq_true ?_
      rcases Int.lt_or_le x 0 with h | h
      · rw [hz.1 h] at hc; cases hc
      · exact h
  have k1 : (0 : Int) ≤ k := by omega
  have k2 : (k : Int) ≤ 255 := by omega
  generalize inR k 48 54 = b1 at *
  generalize inR m 0 4095 = b2 at *
  generalize inR u 0 1099511627775 = b3 at *
  generalize inR g 0 1099511627775 = b4 at *
  generalize stampR s na = b5 at *
  generalize inR mj 0 2097151 = b6 at *
  generalize inR mn 0 2097151 = b7 at *
  generalize (k == 49) = c49 at *
  generalize (k == 50) = c50 at *
  generalize (k == 51) = c51 at *
  generalize (k == 52) = c52 at *
  generalize (k == 48) = c48 at *
  generalize (l == []) = le at *
  generalize (d == []) = de at *
  generalize decide (l.length ≤ 120) = ll at *
  generalize decide (d.length ≤ 4000) = dl at *
  generalize l.contains 0 = lz at *
  generalize hz8 : (mj == 0) = z8 at *
  generalize hz9 : (mn == 0) = z9 at *
  have p8 : (mj != 0) = !z8 := by rw [← hz8]; rfl
  have p9 : (mn != 0) = !z9 := by rw [← hz9]; rfl
  have p48 : ((k : Int) != 48) = !c48 := by rw [← q48]; rfl
  obtain ⟨dev, hdev⟩ : ∃ dev, dev = (c51 || c52) := ⟨_, rfl⟩
  obtain ⟨q7, hq7⟩ : ∃ q7, q7 = ((!le) != c50) := ⟨_, rfl⟩
  rw [← hdev, ← hq7]
  have HD := Lib.hid hdev
  have HQ := Lib.hid hq7
  clear hz hi hx hix h1 h2 hk hz8 hz9 hdev hq7
  go_enter Tryz.func94, Tryz.ntmps94
  repeat' ((fail_if_success (with_reducible refine halt_at 1 ?_)); first | go_values | go_skip | go_guarded | go_step | go_upon | go_back | (simp only [Int.not_lt, Int.not_le] at *; go_simp) | (go_values <;> (try go_simp)) | (go_ite <;> go_prune <;> (try go_simp)) | (split <;> (first | (rename_i hx; exact (hx _ rfl).elim) | go_prune)))
  go_cut [3] (fun s3 wx => s3 = .bool dev ∧ wx = w.alloc (.cells (ndc ⟨k, m, u, g, s, na, d, l, mj, mn⟩) 33) ∧ True)
  case first =>
    cases c51
    · cases c52
      all_goals
        go_wp2_with fail
        go_meet
        exact ⟨by rw [HD.out]; rfl, rfl, trivial⟩
    · go_wp2_with fail
      go_meet
      exact ⟨by rw [HD.out]; rfl, rfl, trivial⟩
  case rest =>
  obtain ⟨rfl, rfl, _⟩ := hcut
  clear HD q51 q52
  unfold ndc
  go_wp2_with fail
  refine (W1.out _).mono ?_
  rintro e w' ⟨rfl, hw⟩
  subst hw
  cases b1
  · go_wp2_with fail
    go_ret
    exact ⟨by first | rfl | (cases dev <;> rfl) | (simp [rightB]), (Below.refl _ _).alloc (Nat.le_refl _) _⟩
  cases c49
  rotate_left
  · go_wp2_with fail
    go_ret
    exact ⟨by first | rfl | (cases dev <;> rfl) | (simp [rightB]), (Below.refl _ _).alloc (Nat.le_refl _) _⟩
  go_wp2_with fail
  refine (W2.out _).mono ?_
  rintro e w' ⟨rfl, hw⟩
  subst hw
  cases b2
  · go_wp2_with fail
    go_ret
    exact ⟨by first | rfl | (cases dev <;> rfl) | (simp [rightB]), (Below.refl _ _).alloc (Nat.le_refl _) _⟩
  go_wp2_with fail
  refine (W3.out _).mono ?_
  rintro e w' ⟨rfl, hw⟩
  subst hw
  cases b3
  · go_wp2_with fail
    go_ret
    exact ⟨by first | rfl | (cases dev <;> rfl) | (simp [rightB]), (Below.refl _ _).alloc (Nat.le_refl _) _⟩
  go_wp2_with fail
  refine (W4.out _).mono ?_
  rintro e w' ⟨rfl, hw⟩
  subst hw
  cases b4
  · go_wp2_with fail
    go_ret
    exact ⟨by first | rfl | (cases dev <;> rfl) | (simp [rightB]), (Below.refl _ _).alloc (Nat.le_refl _) _⟩
  go_wp2_with fail
  refine (W5.out _).mono ?_
  rintro e w1 ⟨rfl, h⟩
  have HB := Lib.hid (thenB ((Below.refl _ _).alloc (Nat.le_refl _) _) h)
  have hY := (Blk.new w 33 #[.int .u8 k, .int .i64 m, .int .i64 u, .int .i64 g, .int .i64 s, .int .i64 na, .string (bs d), .string (bs l), .int .i64 mj, .int .i64 mn]).below h (by simp)
  have c0 := hY.cell 0
  have c1 := hY.cell 1
  have c2 := hY.cell 2
  have c3 := hY.cell 3
  have c4 := hY.cell 4
  have c5 := hY.cell 5
  have c6 := hY.cell 6
  have c7 := hY.cell 7
  have c8 := hY.cell 8
  have c9 := hY.cell 9
  clear h hY
  cases b5
  · go_wp2_with fail
    go_ret
    exact ⟨by first | rfl | (cases dev <;> rfl) | (simp [rightB]), HB.out⟩
  repeat' ((fail_if_success (with_reducible refine halt_at 10 ?_)); first | go_values | go_skip | go_guarded | go_step | go_upon | go_back | (simp only [Int.not_lt, Int.not_le] at *; go_simp) | (go_values <;> (try go_simp)) | (go_ite <;> go_prune <;> (try go_simp)) | (split <;> (first | (rename_i hx; exact (hx _ rfl).elim) | go_prune)))
  go_cut [38] (fun s38 wx => s38 = .bool q7 ∧ wx = w1 ∧ True)
  case first =>
    cases le
    all_goals cases c50
    all_goals
      go_wp2_with fail
      go_meet
      exact ⟨by rw [HQ.out]; rfl, rfl, trivial⟩
  case rest =>
  obtain ⟨rfl, rfl, _⟩ := hcut
  clear HQ
  cases q7
  rotate_left
  · go_wp2_with fail
    go_ret
    exact ⟨by first | rfl | (cases dev <;> rfl) | (simp [rightB]), HB.out⟩
  cases ll
  · go_wp2_with fail
    go_ret
    exact ⟨by first | rfl | (cases dev <;> rfl) | (simp [rightB]), HB.out⟩
  go_wp2_with fail
  refine (HI.out _).mono ?_
  rintro e w' ⟨rfl, hw⟩
  subst hw
  cases lz
  rotate_left
  · go_wp2_with fail
    go_ret
    exact ⟨by first | rfl | (cases dev <;> rfl) | (simp [rightB]), HB.out⟩
  go_wp2_with fail
  refine (W6.out _).mono ?_
  rintro e w' ⟨rfl, hw⟩
  subst hw
  cases b6
  · go_wp2_with fail
    go_ret
    exact ⟨by first | rfl | (cases dev <;> rfl) | (simp [rightB]), HB.out⟩
  go_wp2_with fail
  refine (W7.out _).mono ?_
  rintro e w' ⟨rfl, hw⟩
  subst hw
  cases b7
  · go_wp2_with fail
    go_ret
    exact ⟨by first | rfl | (cases dev <;> rfl) | (simp [rightB]), HB.out⟩
  cases c48
  all_goals cases dev
  all_goals cases z8
  all_goals cases z9
  all_goals
    go_wp2_with fail
    go_ret
    exact ⟨by first | rfl | (simp [rightB]), HB.out⟩

end Go.Proofs.YtipajekehbpghaaGreatDoor

namespace Go.Proofs.YtipajekehbpghaaGreatDoor
open Go.RowKit Go.Maps Tre

def encE (p : Pth.Bs × Nat) : Lit × Value := (.string p.1, .int .i64 (p.2 : Int))
theorem whole_perm {E : List (Pth.Bs × Nat)} (hE : Apart E) {ds : List (Lit × Value)} (h : Whole (namesF E) ds) : ds.Perm (E.map encE) := by
  obtain ⟨h1, h2, h3⟩ := h
  refine (List.perm_ext_iff_of_nodup ?_ ?_).2 fun p => ?_
  · rw [List.nodup_iff_pairwise_ne]
    exact h1.imp fun hne e => hne (by rw [e])
  · rw [List.nodup_iff_pairwise_ne, List.pairwise_map]
    exact hE.imp fun hne e => hne (by unfold encE at e; injection e with e _; injection e)
  · constructor
    · intro hp
      have h4 := h2 p hp
      obtain ⟨kl, v⟩ := p
      cases kl with
      | string x =>
        simp only at h4
        rw [namesF_at] at h4
        obtain ⟨k, hk, rfl⟩ := Option.map_eq_some_iff.1 h4
        exact List.mem_map.2 ⟨(x, k), look_mem hk, rfl⟩
      | _ => cases h4
    · intro hp
      obtain ⟨q, hq, rfl⟩ := List.mem_map.1 hp
      refine h3 (.string q.1) trivial _ ?_
      rw [namesF_at, look_of hE hq]; rfl
theorem names_key {E : List (Pth.Bs × Nat)} {key v : Value} {kl : Lit} (hk : keyOf Tryz.prog 9 key = some kl) (hv : namesF E kl = some v) :
    ∃ (x : ByteArray) (k : Nat), key = .string x ∧ kl = .string x.data.toList ∧ Tre.look E x.data.toList = some k ∧ v = .int .i64 (k : Int) := by
  obtain ⟨x, rfl, rfl, _⟩ := WideMaps.string_of_keyOf Tryz.underlying9 hk
  rw [namesF_at] at hv
  obtain ⟨k, h1, h2⟩ := Option.map_eq_some_iff.1 hv
  exact ⟨x, k, rfl, rfl, h1, h2.symm⟩
def likeB (t : T) (s : Pth.Bs) (p : Lit × Value) : Bool := match p.1 with | .string x => t.alike s x | _ => false
theorem count_links {t : T} (ht : Apart t.ents) (s : Pth.Bs) {ds : List (Lit × Value)} (h : Whole (namesF t.ents) ds) : (ds.filter (likeB t s)).length = t.links s := by
  rw [((whole_perm ht h).filter _).length_eq, List.filter_map, List.length_map]
  rfl
theorem count_snoc (t : T) (s x : Pth.Bs) (v : Value) (ds : List (Lit × Value)) : ((ds ++ [(Lit.string x, v)]).filter (likeB t s)).length = (ds.filter (likeB t s)).length + (if t.alike s x = true then 1 else 0) := by
  rw [List.filter_append, List.length_append]
  congr 1
  by_cases h : t.alike s x = true
  · rw [if_pos h, List.filter_cons_of_pos (by exact h)]; rfl
  · rw [if_neg h, List.filter_cons_of_neg (by exact h)]; rfl
set_option maxRecDepth 100000 in
set_option maxHeartbeats 2000000 in
theorem links_any {w : World} {g : Nat} {on of : Option Nat} {t : T} (h : TreeAt w g on of t) (ht : Std t) (s : ByteArray) (hs : s.size ≤ 1000000) :
    Calls Tryz.prog 91 #[.pointer (some ⟨g, 0, none⟩), .string s] w fun e w' => e = .returned (.int .i64 (t.links s.data.toList)) ∧ Below w.heap.size w w' := by
  have c0 := h.blk.cell 0
  have HT := Lib.hid h
  have HS := Lib.hid ht
  have hc60 := ht.cn
  clear h ht
  go_enter Tryz.func91, Tryz.ntmps91
  go_wp2_with fail
  refine (of_any g w HT.out.blk).mono ?_
  rintro e w' ⟨rfl, hw⟩
  subst w'
  go_wp2_with (first
    | (refine wpList_o_range rfl (.tmp 11) 68 rfl 3 strL Tryz.underlying68 HT.out.nm rfl ?_; intro w0 hr0 hb0 hs0; have HR0 := Lib.hid hr0; have HB0 := Lib.hid hb0; have HS0 := Lib.hid hs0; clear hr0 hb0 hs0))
  go_frame
  go_loopg [5] t.ents.length (fun gg s5 wr => ∃ ds, s5 = .int .i64 ((ds.filter (likeB t s.data.toList)).length : Nat) ∧ Hid (RangeO wr Tryz.prog 9 on w.heap.size (namesF t.ents) t.ents.length ds gg) ∧ Hid (Below w.heap.size w wr) ∧ ds.length + gg ≤ 60)
  case atStart => exact ⟨[], rfl, HR0, HB0, by simpa using hc60⟩
  case round =>
    obtain ⟨ds, rfl, HR, HB, hlen⟩ := hrel
    have hfl : (ds.filter (likeB t s.data.toList)).length ≤ ds.length := List.length_filter_le _ _
    obtain ⟨n5, hn5⟩ : ∃ n5, n5 = (ds.filter (likeB t s.data.toList)).length := ⟨_, rfl⟩
    rw [← hn5] at hfl ⊢
    have HN := Lib.hid hn5
    have hn6 : (n5 : Int) ≤ 60 := by omega
    clear hn5
    repeat' ((fail_if_success (with_reducible refine halt_at 3 ?_)); first | go_values | go_skip | go_guarded | go_step | go_upon | go_back | (simp only [Int.not_lt, Int.not_le] at *; go_simp) | (go_values <;> (try go_simp)) | (go_ite <;> go_prune <;> (try go_simp)) | (split <;> (first | (rename_i hx; exact (hx _ rfl).elim) | go_prune)))
    go_wp2_with (first
      | (refine wpList_o_next rfl (.tmp 12) rfl strL HR.out rfl (fun hc hwh => ?_) (fun key v kl w2 cnt2 hkey hfk hnin hrg hlt hgr hsz hen => ?_)))
    · go_ret
      have := count_links HS.out.nd s.data.toList hwh
      rw [HN.out, this]
      exact ⟨rfl, HB.out⟩
    · obtain ⟨x, k, rfl, rfl, hlk, rfl⟩ := names_key hkey hfk
      have AL := Lib.hid (alike_any (HT.out.below (HB.out.trans (below_of_only (Below.refl _ _) hgr HB.out.size (Nat.le_refl _)))) s x hs (by
        have := (HS.out.short hlk).1; rw [list_size] at this; omega))
      have HB2 := Lib.hid (HB.out.trans (below_of_only (Below.refl _ _) hgr HB.out.size (Nat.le_refl _)))
      have HR2 := Lib.hid hrg
      have HLT := Lib.hid hlt
      have SN := Lib.hid (count_snoc t s.data.toList x.data.toList (.int .i64 k) ds)
      obtain ⟨q, hq⟩ : ∃ q, q = t.alike s.data.toList x.data.toList := ⟨_, rfl⟩
      rw [← hq] at AL SN
      clear hlk hnin hrg hlt hgr hsz hq hkey hfk
      go_wp2_with fail
      refine AL.out.mono ?_
      rintro e w3 ⟨rfl, hw⟩
      subst w3
      cases q
      · go_wp2_with fail
        go_roundg cnt2
        case measure => exact HLT.out
        case rel => exact ⟨_, by rw [SN.out, ← HN.out]; rfl, HR2, HB2, by have := HLT.out; simp; omega⟩
      · go_wp2_with fail
        go_roundg cnt2
        case measure => exact HLT.out
        case rel => exact ⟨_, by rw [SN.out, ← HN.out]; go_num, HR2, HB2, by have := HLT.out; simp; omega⟩

end Go.Proofs.YtipajekehbpghaaGreatDoor

namespace Go.Proofs.YtipajekehbpghaaGreatDoor
open Go.RowKit Go.Maps Tre Go.Sort

/-- Names that are short enough. -/
abbrev Nm := { x : Pth.Bs // x.length ≤ 1000 }
instance : Inhabited Nm := ⟨⟨[], Nat.zero_le _⟩⟩
def cfN (x y : Nm) : Int := Pth.cmp (Pth.parts x.1) (Pth.parts y.1)
def encN (x : Nm) : Value := .string (bs x.1)
theorem ltN (x y : Nm) : ltOf cfN x y = decide (Pth.cmp (Pth.parts x.1) (Pth.parts y.1) < 0) := rfl
theorem swoN : SWO (ltOf cfN) := by
  refine ⟨fun x => ?_, fun x y z h1 h2 => ?_, fun x y z h1 h2 => ?_⟩
  · rw [ltN]; exact decide_eq_false (by rw [(Pth.cmp_zero _ _).2 rfl]; omega)
  · rw [ltN] at *
    exact decide_eq_true (Pth.cmp_trans _ _ _ (of_decide_eq_true h1) (of_decide_eq_true h2))
  · rw [ltN] at *
    have a := of_decide_eq_false h1
    have b := of_decide_eq_false h2
    have a' : Pth.cmp (Pth.parts y.1) (Pth.parts x.1) ≤ 0 := by
      rcases Int.lt_or_le 0 (Pth.cmp (Pth.parts y.1) (Pth.parts x.1)) with h | h
      · exact absurd ((Pth.cmp_anti _ _).2 h) a
      · exact h
    have b' : Pth.cmp (Pth.parts z.1) (Pth.parts y.1) ≤ 0 := by
      rcases Int.lt_or_le 0 (Pth.cmp (Pth.parts z.1) (Pth.parts y.1)) with h | h
      · exact absurd ((Pth.cmp_anti _ _).2 h) b
      · exact h
    have c := cmp_le_trans _ _ _ b' a'
    exact decide_eq_false fun h => by have := (Pth.cmp_anti _ _).1 h; omega

theorem heap_sorted1 {α : Type} [Inhabited α] {enc : α → Value} {w : World} {g n : Nat} {os : Array Obj} {cur : Array Value} {e : TypeId} {fr : Nat × Nat} (d : Array α) (hb : w.heap[g]? = some (.cells cur e fr)) :
    (grow (putRow enc (Sort.ahead w n) g 0 d) os).heap[g]? = some (.cells (putCells enc 0 d cur) e fr) := by
  have hg : g < w.heap.size := (Array.getElem?_eq_some_iff.1 hb).1
  rw [heap_grow_old _ _ (by simpa using hg)]
  simp [putRow, mapBlock, Sort.ahead, Array.getElem?_modify, hb, onCells]
theorem grownBy_sorted1 {α : Type} [Inhabited α] {enc : α → Value} {w : World} {g n : Nat} {os : Array Obj} (d : Array α) : w.grownBy (grow (putRow enc (Sort.ahead w n) g 0 d) os) (some g) := by
  refine ⟨rfl, rfl, rfl, by simp, fun k hk hne => ?_⟩
  rw [heap_grow_old _ _ (by simpa using hk)]
  have : g ≠ k := fun e => hne (by rw [e])
  simp [putRow, mapBlock, Sort.ahead, Array.getElem?_modify, this]
theorem take_putCells1 {α : Type} [Inhabited α] (enc : α → Value) (cur : Array Value) (d : Array α) (h : d.size ≤ cur.size) : (putCells enc 0 d cur).toList.take d.size = d.toList.map enc := by
  apply List.ext_getElem?
  intro j
  by_cases hj : j < d.size
  · rw [List.getElem?_take_of_lt hj, Array.getElem?_toList, List.getElem?_map, Array.getElem?_toList]
    simp [putCells, hj, show j < cur.size by omega]
  · rw [List.getElem?_take_eq_none (by omega), List.getElem?_eq_none (by simp; omega)]

theorem ML.kept {w w' : World} (h : ML w) (e : w'.heap[1]? = w.heap[1]?) : ML w' := by
  obtain ⟨m, h⟩ := h
  exact ⟨m, (World.cell?_of_block (a := ⟨1, 0, none⟩) e).trans h⟩

/-- slices.SortFunc at names of the call's own. -/
theorem sort_texts {w : World} {B : Nat} {v : Value} {l : List Pth.Bs} (h : HasT w B v l) (hl : l.length ≤ 100000) (hs : ∀ x ∈ l, x.length ≤ 1000) (hm : ML w) (hB : 1 < B) :
    Calls Tryz.prog 54 #[v, .func (.func 39) #[] #[]] w fun e w' => e = .returned (.tuple #[]) ∧ ∃ M : List Pth.Bs, M.Perm l ∧ (M.Pairwise fun a b => Pth.cmp (Pth.parts a) (Pth.parts b) ≤ 0) ∧ HasT w' B v M ∧ w.grownBy w' v.ownBlock := by
  rcases h.ways with ⟨rfl, rfl⟩ | ⟨g, cap, cur, rfl, hBg, hg, hc, hblk, hcs, hcm, hrow⟩
  · exact (Tryz.slices_SortFunc_none (α := Nm) none 0 _ w).mono fun e w' ⟨he, hw⟩ => ⟨he, [], List.Perm.refl _, List.Pairwise.nil, (by subst hw; exact h), by subst hw; exact only_refl _ _⟩
  · obtain ⟨d, hd⟩ : ∃ d : List Nm, d.map (·.1) = l := ⟨l.attach.map fun x => ⟨x.1, hs x.1 x.2⟩, by rw [List.map_map]; exact (List.attach_map_val (f := id)).trans (List.map_id l)⟩
    have hdl : d.length = l.length := by rw [← hd, List.length_map]
    have hH : Holds encN w g 0 d.toArray := by
      intro j hj
      have hj' : j < d.length := by simpa using hj
      refine ⟨?_, hblk.frozen _⟩
      rw [hrow j (by omega)]
      rw [getElem!_pos d.toArray j hj]
      simp only [List.getElem_toArray, encN]
      congr 2
      simp only [← hd, List.getElem_map]
    have hcmp : CmpLays1 Tryz.prog 39 #[] encN cfN g 0 d.toArray.size w := fun m os dk _ x y => by
      have hm' : ML (sortWorld encN w g 0 m dk os) := hm.kept ((grownBy_sorted1 (enc := encN) (n := m) (os := os) (g := g) dk).block 1 hm.lt (by intro e; injection e with e; omega))
      refine (order_drawn (bs x.1) (bs y.1) _ (by rw [bs_size]; have := x.2; omega) (by rw [bs_size]; have := y.2; omega) hm').mono fun e w' ⟨he, hb, hd⟩ => ⟨he, below_grow hb hd⟩
    have hh := Tryz.slices_SortFunc encN (fun _ => rfl) cfN swoN 39 #[] g 0 cap d.toArray w (enters_of Tryz.func39 (by kernel_rfl) rfl) hcmp hH hg (by simp; omega)
    have hz : d.toArray.size = l.length := by simp [hdl]
    rw [hz] at hh
    refine hh.mono fun e w' ⟨he, d', n, os, hp, hso, hw⟩ => ⟨he, d'.toList.map (·.1), ?_, ?_, ?_, ?_⟩
    · have := hp.2.2
      have hd2 : d'.size = l.length := by rw [hp.1]; simp [hdl]
      rw [show d'.extract 0 l.length = d' from by rw [← hd2]; simp, show d.toArray.extract 0 l.length = d.toArray from by rw [← hdl]; simp] at this
      rw [← hd]
      have h2 : d'.toList.Perm d := by simpa using this
      exact h2.map _
    · rw [List.pairwise_map, List.pairwise_iff_getElem]
      intro i j hi hj hij
      have hd2 : d'.size = l.length := by rw [hp.1]; simp [hdl]
      have hi' : i < d'.size := by simpa using hi
      have hj' : j < d'.size := by simpa using hj
      have := hso i j (Nat.zero_le _) hij (by omega)
      rw [getElem!_pos d' j hj', getElem!_pos d' i hi', ltN] at this
      have h3 := of_decide_eq_false this
      simp only [Array.getElem_toList]
      rcases Int.lt_or_le 0 (Pth.cmp (Pth.parts d'[i].1) (Pth.parts d'[j].1)) with h4 | h4
      · exact absurd ((Pth.cmp_anti _ _).2 h4) h3
      · exact h4
    · have hd2 : d'.size = l.length := by rw [hp.1]; simp [hdl]
      rw [hw]
      have hlen : (d'.toList.map (·.1)).length = l.length := by simp [hd2]
      unfold HasT
      rw [hlen]
      have htx : txCells (d'.toList.map (·.1)) = d'.toList.map encN := by unfold txCells; rw [List.map_map]; rfl
      refine ⟨by rw [htx]; simp [hd2], .inr ⟨g, cap, putCells encN 0 d' cur, rfl, hBg, heap_sorted1 d' hblk, hc, hcm, by simp [putCells, hcs], ?_⟩⟩
      rw [htx, Nat.mul_one, ← hd2]
      exact take_putCells1 encN cur d' (by rw [hd2, hcs]; exact hc)
    · rw [hw]
      exact grownBy_sorted1 _

theorem HasT.kept {w w' : World} {B r : Nat} {v : Value} {l : List (List UInt8)} (h : HasT w B v l) (hg : w.grownBy w' (some r)) (hne : ∀ q, v.ownBlock = some q → q ≠ r) : HasT w' B v l :=
  World.ownsRow.kept h hg (.inr fun e => hne r e rfl)
theorem RangeO.grown {P : Program} {K : TypeId} {w w' : World} {o : Option Nat} {r n cnt : Nat} {f : Lit → Option Value} {ds : List (Lit × Value)} {row : Option Nat} (h : RangeO w P K o r f n ds cnt) (hg : w.grownBy w' row) (hr : row ≠ some r) (ho : ∀ b, o = some b → row ≠ some b) : RangeO w' P K o r f n ds cnt :=
  h.kept hg.size ⟨hg.os, hg.tape, hg.output⟩ fun b e => by
    rcases e with e | rfl
    · exact hg.block b (h.mapO.lt b e) (Ne.symm (ho b e))
    · exact hg.block b h.lt (Ne.symm hr)
def keyS (p : Lit × Value) : Pth.Bs := match p.1 with | .string x => x | _ => []
theorem keys_names {t : T} (ht : Apart t.ents) {ds : List (Lit × Value)} (h : Whole (namesF t.ents) ds) : (ds.map keyS).Perm (t.ents.map (·.1)) := by
  have := (whole_perm ht h).map keyS
  rw [List.map_map] at this
  exact this

set_option maxRecDepth 100000 in
set_option maxHeartbeats 2000000 in
theorem names_any {w : World} {g : Nat} {on of : Option Nat} {t : T} (h : TreeAt w g on of t) (ht : Std t) (hm : ML w) :
    Calls Tryz.prog 17 #[.pointer (some ⟨g, 0, none⟩)] w fun e w' => ∃ v, e = .returned v ∧ HasT w' w.heap.size v t.names ∧ Below w.heap.size w w' := by
  obtain ⟨i0, i1, i2, i3, i4⟩ := info_parts infoTx
  have c0 := h.blk.cell 0
  have HT := Lib.hid h
  have HS := Lib.hid ht
  have HM := Lib.hid hm
  have hc60 := ht.cn
  clear h ht hm
  go_enter Tryz.func17, Tryz.ntmps17
  go_wp2_with fail
  refine (of_any g w HT.out.blk).mono ?_
  rintro e w' ⟨rfl, hw⟩
  subst w'
  go_wp2_with (first
    | (refine wpList_o_range rfl (.tmp 9) 68 rfl 3 strL Tryz.underlying68 HT.out.nm rfl ?_; intro w0 hr0 hb0 hs0; have HR0 := Lib.hid hr0; have HB0 := Lib.hid hb0; have HS0 := Lib.hid hs0; clear hr0 hb0 hs0))
  go_frame
  go_loopg [3] t.ents.length (fun gg s3 wr => ∃ ds, Hid (HasT wr (w.heap.size + 1) s3 (ds.map keyS)) ∧ Hid (RangeO wr Tryz.prog 9 on w.heap.size (namesF t.ents) t.ents.length ds gg) ∧ Hid (Below w.heap.size w wr) ∧ ds.length + gg ≤ 60 ∧ w.heap.size + 1 ≤ wr.heap.size ∧ ∀ x ∈ ds.map keyS, x.length ≤ 120)
  case atStart => exact ⟨[], Lib.hid (World.ownsRow_nil _ _ _ _), HR0, HB0, by simpa using hc60, by have := HS0.out; omega, by simp⟩
  case round =>
    obtain ⟨ds, HO, HR, HB, hlen, hsz0, hshort⟩ := hrel
    obtain ⟨X, cap, rfl, _⟩ := HO.out.form
    have hlk : (ds.map keyS).length = ds.length := List.length_map _
    rw [hlk] at HO ⊢
    have HSH := Lib.hid hshort
    have HLK := Lib.hid hlk
    clear hshort hlk
    repeat' ((fail_if_success (with_reducible refine halt_at 3 ?_)); first | go_values | go_skip | go_guarded | go_step | go_upon | go_back | (simp only [Int.not_lt, Int.not_le] at *; go_simp) | (go_values <;> (try go_simp)) | (go_ite <;> go_prune <;> (try go_simp)) | (split <;> (first | (rename_i hx; exact (hx _ rfl).elim) | go_prune)))
    repeat' ((fail_if_success (with_reducible refine halt_at 5 ?_)); first
      | (refine wpList_o_next rfl (.tmp 10) rfl strL HR.out rfl (fun hc hwh => ?_) (fun key v kl w2 cnt2 hkey hfk hnin hrg hlt hgr hsz hen => ?_))
      | go_values | go_skip | go_guarded | go_step | go_upon | go_back | (simp only [Int.not_lt, Int.not_le] at *; go_simp) | (go_values <;> (try go_simp)) | (go_ite <;> go_prune <;> (try go_simp)) | (split <;> (first | (rename_i hx; exact (hx _ rfl).elim) | go_prune)))
    · have hp := keys_names HS.out.nd hwh
      have ST := Lib.hid (sort_texts HO.out (by rw [HLK.out]; omega) (fun x hx => Nat.le_trans (HSH.out x hx) (by omega)) (HM.out.below HB.out) (Nat.lt_succ_of_lt HM.out.lt))
      have HP := Lib.hid hp
      clear hp hwh hc
      refine ST.out.mono ?_
      rintro e w3 ⟨rfl, M, hM1, hM2, hM3, hM4⟩
      have e1 := eq_names HS.out (hM1.trans HP.out) hM2
      subst e1
      have H3 := Lib.hid hM3
      have H4 := Lib.hid hM4
      clear hM1 hM2 hM3 hM4
      go_wp2_with fail
      go_ret
      exact ⟨_, rfl, H3.out.mono (Nat.le_succ _), HB.out.grown H4.out (Nat.le_trans (Nat.le_succ _) hsz0) (fun q hq => Nat.le_of_succ_le (World.ownsRow.lt (show wr.ownsRow (w.heap.size + 1) 9 1 _ _ _ from HO.out) q hq).1)⟩
    · obtain ⟨x, k, rfl, rfl, hlk, rfl⟩ := names_key hkey hfk
      have hx := (HS.out.short hlk).1
      have HO2 := Lib.hid (HasT.kept HO.out hgr (fun q hq e => by have := (World.ownsRow.lt (show wr.ownsRow (w.heap.size + 1) 9 1 _ _ _ from HO.out) q hq).1; omega))
      have HR2 := Lib.hid hrg
      have HB2 := Lib.hid (HB.out.trans (below_of_only (Below.refl _ _) hgr HB.out.size (Nat.le_refl _)))
      have HLT := Lib.hid hlt
      have hz2 : w.heap.size + 1 ≤ w2.heap.size := by omega
      have hdl : ds.length ≤ 60 := by omega
      clear hlk hnin hrg hlt hgr hsz hkey hfk hen
      go_wp2_with (first
        | (at_builtin; refine wpList_append_own _ rfl (.tmp 15) (.tmp 17) 28 rfl (w.heap.size + 1) 9 i0 _ 1 16 Tryz.underlying28 i1 i2 i3 i4 rfl (by decide) (.slice X ds.length cap) ds.length (txCells (ds.map keyS)) rfl ((show w2.ownsRow (w.heap.size + 1) 9 1 (.slice X ds.length cap) ds.length (txCells (ds.map keyS)) from by have h := HO2.out; unfold HasT at h; rw [HLK.out] at h; exact h).alloc _) ⟨w2.heap.size, 0, none⟩ 1 1 [.string x] rfl rfl (new_text rfl _ _) (by intro u hu; simp at hu; subst hu; rfl) (by unfold maxLen; omega) (by omega) (by simp; omega) ?_; intro v' w7 hown' hgrow _))
      have hl2 := World.ownsRow.lt (show w2.ownsRow (w.heap.size + 1) 9 1 (.slice X ds.length cap) _ _ from HO2.out)
      have HR7 := Lib.hid ((HR2.out.below ((Below.refl _ _).alloc (Nat.le_refl _) (.cells #[.string x] 9))).grown hgrow (fun e => by have := (hl2 _ e).1; omega) (fun b hb e => by have := (hl2 _ e).1; have := HT.out.nm.lt b hb; omega))
      have HB7 := Lib.hid ((HB2.out.alloc HB2.out.size (.cells #[.string x] 9)).grown hgrow (by have := HB2.out.size; simp; omega) (fun q hq => by have := (hl2 _ hq).1; omega))
      have HO7 : HasT w7 (w.heap.size + 1) v' (ds.map keyS ++ [x.data.toList]) := HasT.pushed (by rw [HLK.out, bs_of]; exact hown')
      have HO8 := Lib.hid HO7
      have hz7 := hgrow.size
      simp at hz7
      have HX := Lib.hid hx
      clear hl2 HO7 hown' hgrow hx
      go_roundg cnt2
      case measure => exact HLT.out
      case rel =>
        refine ⟨ds ++ [(.string x.data.toList, .int .i64 k)], ?_, HR7, HB7, by have := HLT.out; simp; omega, by omega, ?_⟩
        · rw [List.map_append]; exact HO8
        · intro y hy
          rw [List.map_append] at hy
          rcases List.mem_append.1 hy with hy | hy
          · exact HSH.out y hy
          · obtain rfl : y = x.data.toList := by simpa [keyS] using hy
            exact HX.out

end Go.Proofs.YtipajekehbpghaaGreatDoor

namespace Go.Proofs.YtipajekehbpghaaGreatDoor
open Go.RowKit Go.Maps Tre Go.Sort Go.Shelf

theorem insideC_any (x s : ByteArray) (p : Nat) (w : World) (hs : s.size ≤ 1000000) (hc : w.cell? ⟨p, 0, none⟩ = some (.string s)) :
    Calls Tryz.prog 145 #[.string x, .pointer (some ⟨p, 0, none⟩)] w fun e w' => e = .returned (.bool (!Pth.inn x.data.toList s.data.toList)) ∧ w' = w := by
  have H := Lib.hid (fun w => in_same x s w hs)
  go_enter Tryz.func145, Tryz.ntmps145
  go_wp2_with fail
  refine (H.out _).mono ?_
  rintro e w1 ⟨rfl, hw⟩
  subst w1
  go_wp2_with fail
  go_ret
  exact ⟨rfl, rfl⟩

theorem filter_map_bs (l : List Pth.Bs) (q : Pth.Bs → Bool) : ((l.map bs).filter fun x => q x.data.toList) = (l.filter q).map bs := by
  rw [List.filter_map]; rfl
/-- slices.DeleteFunc at names of the call's own, by a closure that asks path.In. -/
theorem delete_in {w : World} {B : Nat} {v : Value} {l : List Pth.Bs} (h : HasT w B v l) (h0 : l ≠ []) (hl : l.length ≤ 100000) (s : ByteArray) (p : Nat) (hs : s.size ≤ 1000000) (hc : w.cell? ⟨p, 0, none⟩ = some (.string s)) (hp : p < B) :
    Calls Tryz.prog 82 #[v, .func (.func 145) #[] #[.pointer (some ⟨p, 0, none⟩)]] w fun e w' => ∃ g cap, e = .returned (.slice (some ⟨g, 0, none⟩) (l.filter fun x => Pth.inn x s.data.toList).length cap) ∧ (l.filter fun x => Pth.inn x s.data.toList).length ≤ cap ∧ B ≤ g ∧ g < w'.heap.size ∧ RowS w' g 0 (l.filter fun x => Pth.inn x s.data.toList) ∧ Below B w w' := by
  rcases h.ways with ⟨_, h1⟩ | ⟨g, cap, cur, rfl, hBg, hg, hcap, hblk, hcs, hcm, hrow⟩
  · exact absurd h1 h0
  · have hH : Holds Value.string w g 0 (l.map bs).toArray := by
      intro j hj
      have hj' : j < l.length := by simpa using hj
      refine ⟨?_, hblk.frozen _⟩
      rw [hrow j hj', getElem!_pos (l.map bs).toArray j hj]
      simp
    have hh := Tryz.slices_DeleteFunc Value.string (fun _ => rfl) (fun x => !Pth.inn x.data.toList s.data.toList) 145 #[.pointer (some ⟨p, 0, none⟩)] (enters_of Tryz.func145 (by kernel_rfl) rfl) ByteArray.empty Tryz.zeroValue9
      g 0 cap (l.map bs).toArray w (fun W x hb => (insideC_any x s p W hs ((hb.cell (p := ⟨p, 0, none⟩) (World.block_lt_of_cell? w ⟨p, 0, none⟩ hc)).trans hc)).mono fun e w' ⟨he, hw⟩ => ⟨he, 0, hw⟩)
      (fun n os dk x _ => (insideC_any x s p _ hs ((World.cell?_of_block (a := ⟨p, 0, none⟩) ((grownBy_sorted1 (enc := Value.string) (n := n) (os := os) (g := g) dk).block p (World.block_lt_of_cell? w ⟨p, 0, none⟩ hc) (by intro e; injection e with e; omega))).trans hc)).mono fun e w' ⟨he, hw⟩ => ⟨he, 0, hw⟩) hH (by simp; omega) (by simpa using hcap)
    have hsx : (l.map bs).toArray.size = l.length := by simp
    have hxs : (l.map bs).toArray.toList = l.map bs := by simp
    have hnot : (fun x : ByteArray => !!Pth.inn x.data.toList s.data.toList) = fun x => Pth.inn x.data.toList s.data.toList := by funext x; simp
    rw [hsx, hnot, hxs, filter_map_bs l (fun x => Pth.inn x s.data.toList)] at hh
    obtain ⟨ys, hys⟩ : ∃ ys, ys = l.filter fun x => Pth.inn x s.data.toList := ⟨_, rfl⟩
    have hyl : ys.length ≤ l.length := by rw [hys]; exact List.length_filter_le _ _
    rw [← hys] at hh ⊢
    refine hh.mono fun e w' ⟨he, q, hw⟩ => ?_
    rw [List.length_map] at he hw
    subst he
    obtain ⟨D, hD⟩ : ∃ D, D = (ys.map bs ++ List.replicate (l.length - ys.length) ByteArray.empty).toArray := ⟨_, rfl⟩
    rw [← hD] at hw
    have hDs : D.size = (l.map bs).toArray.size := by rw [hD]; simp; omega
    have hDk : ∀ j (hj : j < ys.length), D[j]! = bs ys[j] := fun j hj => by
      rw [getElem!_pos D j (by rw [hDs]; simp; omega)]
      simp only [hD, List.getElem_toArray]
      rw [List.getElem_append_left (by simpa using hj), List.getElem_map]
    refine ⟨g, cap, rfl, by omega, hBg, ?_, fun j hj => ?_, ?_⟩
    · rw [hw, size_putRow]; exact hg
    · rw [hw, cell?_putRow Value.string (Sort.ahead w q) g 0 (l.map bs).toArray D hH hDs j (by rw [hDs]; simp; omega), hDk j hj]
    · have := grownBy_sorted1 (enc := Value.string) (w := w) (n := q) (os := #[]) (g := g) D
      rw [grow_empty, ← hw] at this
      exact ⟨this.os, this.tape, this.output, this.size, fun i hi => this.block i (by omega) (by intro e; injection e with e; omega)⟩

set_option maxRecDepth 100000 in
/-- The names inside a name. -/
theorem inside_any {w : World} {g : Nat} {on of : Option Nat} {t : T} (h : TreeAt w g on of t) (ht : Std t) (hm : ML w) (s : ByteArray) (hs : s.size ≤ 1000000) (hh : t.has s.data.toList = true) :
    Calls Tryz.prog 119 #[.pointer (some ⟨g, 0, none⟩), .string s] w fun e w' => ∃ v, e = .returned v ∧ HasS w' w.heap.size v (t.inside s.data.toList) ∧ Below w.heap.size w w' := by
  have hb0 : Below w.heap.size w (w.alloc (.cells #[.string s] 9)) := (Below.refl _ _).alloc (Nat.le_refl _) _
  have NM := Lib.hid (names_any (h.alloc (.cells #[.string s] 9)) ht (hm.below hb0))
  have h0 : t.names ≠ [] := fun e => by
    have := names_mem.2 hh
    rw [e] at this; cases this
  have hl : t.names.length ≤ 60 := by rw [names_len]; exact ht.cn
  have e : t.inside s.data.toList = t.names.filter fun x => Pth.inn x s.data.toList := rfl
  rw [e]
  obtain ⟨L, hL⟩ : ∃ L, L = t.names := ⟨_, rfl⟩
  rw [← hL] at NM h0 hl ⊢
  clear e hL hh h ht hm hb0
  go_enter Tryz.func119, Tryz.ntmps119
  go_wp2_with fail
  refine NM.out.mono ?_
  rintro e w1 ⟨v, rfl, hv, h1⟩
  have c0 : w1.cell? ⟨w.heap.size, 0, none⟩ = some (.string s) := (h1.cell (p := ⟨w.heap.size, 0, none⟩) (by simp)).trans ((Blk.new w 9 #[.string s]).cell 0)
  have DL := Lib.hid (delete_in hv h0 (by omega) s w.heap.size hs c0 (by simp))
  have B1 := Lib.hid (thenB ((Below.refl _ _).alloc (Nat.le_refl _) _) h1)
  have Z1 := Lib.hid h1.size
  clear hv h1 c0 h0
  go_wp2_with fail
  refine DL.out.mono ?_
  rintro e w2 ⟨g2, cap, rfl, k1, k2, k3, k4, k5⟩
  have K1 := Lib.hid k1
  have K2 := Lib.hid k2
  have K3 := Lib.hid k3
  have K4 := Lib.hid k4
  have K5 := Lib.hid (B1.out.trans (k5.mono (by simp)))
  clear k1 k2 k3 k4 k5
  go_wp2_with fail
  go_ret
  exact ⟨_, rfl, HasS.row (by have := K2.out; simp at this; omega) K3.out K1.out K4.out, K5.out⟩

end Go.Proofs.YtipajekehbpghaaGreatDoor

namespace Go.Proofs.YtipajekehbpghaaGreatDoor
open Go.RowKit Go.Maps Tre

theorem last_ok' {A : List Pth.Bs} (hA : Pth.Cl A) (h0 : A ≠ []) : Pth.Ok (A.getLast h0) := (hA _ (List.getLast_mem h0)).1
theorem up_parts {A : List Pth.Bs} (hA : Pth.Cl A) (h0 : A ≠ []) (hl : (Pth.join A).length ≤ 1000) (w : World) :
    Calls Tryz.prog 95 #[.string (bs (Pth.join A))] w fun e w' => e = .returned (.tuple #[.string (bs (Pth.join A.dropLast)), .string (bs (A.getLast h0))]) ∧ Below w.heap.size w w' := by
  have hj := Pth.join_last h0
  by_cases h : A.dropLast = []
  · rw [if_pos h] at hj
    have := up_none (bs (Pth.join A)) w (by rw [bs_size]; omega) (by rw [bs_list, hj]; exact (last_ok' hA h0).2.2)
    rw [h]
    rw [hj] at this ⊢
    exact this
  · rw [if_neg h] at hj
    have hl2 := congrArg List.length hj
    simp at hl2
    have := up_some (Pth.join A.dropLast) (A.getLast h0) w (by omega) (last_ok' hA h0).2.2
    rw [← hj] at this
    exact this
theorem pre_length (P : List Pth.Bs) (i : Nat) : (pre P i).length ≤ (Pth.join P).length := by
  by_cases h1 : P.take i = []
  · unfold pre; rw [h1]; exact Nat.zero_le _
  · by_cases h2 : P.drop i = []
    · unfold pre
      have : P.take i = P := by
        have := List.take_append_drop i P
        rw [h2, List.append_nil] at this; exact this
      rw [this]; exact Nat.le_refl _
    · have := Pth.join_app h1 h2
      rw [List.take_append_drop] at this
      unfold pre
      rw [this]; simp
theorem up_pre {P : List Pth.Bs} (hP : Pth.Cl P) (hl : (Pth.join P).length ≤ 1000) (j : Nat) (hj : j + 1 ≤ P.length) (w : World) :
    Calls Tryz.prog 95 #[.string (bs (pre P (j + 1)))] w fun e w' => ∃ x, e = .returned (.tuple #[.string (bs (pre P j)), .string x]) ∧ Below w.heap.size w w' := by
  have hlen : (P.take (j + 1)).length = j + 1 := by rw [List.length_take]; omega
  have h0 : P.take (j + 1) ≠ [] := List.ne_nil_of_length_pos (by omega)
  have hd : (P.take (j + 1)).dropLast = P.take j := by
    rw [List.dropLast_eq_take, hlen, List.take_take, Nat.min_eq_left (by omega)]; rfl
  have := up_parts (cl_take hP (j + 1)) h0 (Nat.le_trans (pre_length P (j + 1)) hl) w
  rw [hd] at this
  exact this.mono fun e w' ⟨he, hb⟩ => ⟨_, he, hb⟩
theorem pre_zero (P : List Pth.Bs) : pre P 0 = [] := rfl

set_option maxRecDepth 100000 in
set_option maxHeartbeats 2000000 in
theorem room_any {w : World} {g : Nat} {on of : Option Nat} {t : T} (h : TreeAt w g on of t) (ht : Std t) (hx : t.nx ≤ 1000000) (hm : ML w) (s : ByteArray) (hs : s.size ≤ 100000) :
    Calls Tryz.prog 120 #[.pointer (some ⟨g, 0, none⟩), .string s] w fun e w' => e = .returned (errV (room t s.data.toList)) ∧ Below w.heap.size w w' := by
  have RT := Lib.hid (right_any s w (by omega) hm)
  have HT := Lib.hid h
  have HS := Lib.hid ht
  have HX := Lib.hid hx
  clear h ht hx hm
  cases hr : Pth.right s.data.toList with
  | false =>
    have e : room t s.data.toList = 5 := by unfold room; rw [if_pos hr]
    rw [e]
    rw [hr] at RT
    clear e hr
    go_enter Tryz.func120, Tryz.ntmps120
    go_wp2_with fail
    refine RT.out.mono ?_
    rintro e w1 ⟨rfl, h1⟩
    have B1 := Lib.hid h1
    clear h1
    go_wp2_with fail
    go_ret
    exact ⟨rfl, B1.out⟩
  | true =>
    have HA := Lib.hid (fun w' (hb : Below w.heap.size w w') => thas_any (HT.out.below hb) s (by omega))
    rw [hr] at RT
    cases hh : t.has s.data.toList with
    | true =>
      have e : room t s.data.toList = 9 := by unfold room; rw [if_neg (by simp [hr]), if_pos hh]
      rw [e]
      rw [hh] at HA
      clear e hr hh
      go_enter Tryz.func120, Tryz.ntmps120
      go_wp2_with fail
      refine RT.out.mono ?_
      rintro e w1 ⟨rfl, h1⟩
      have B1 := Lib.hid h1
      clear h1
      go_wp2_with fail
      refine (HA.out _ B1.out).mono ?_
      rintro e w' ⟨rfl, hw⟩
      subst w'
      go_wp2_with fail
      go_ret
      exact ⟨rfl, B1.out⟩
    | false =>
      rw [hh] at HA
      obtain ⟨hc, hn0⟩ := right_cl hr
      have hj := right_join hr
      have hl := (right_len hr).1
      have e : room t s.data.toList = if Tre.blocked t (Pth.parts s.data.toList) = true then 6 else if 2 ≤ (Pth.parts s.data.toList).length ∧ t.has (pre (Pth.parts s.data.toList) ((Pth.parts s.data.toList).length - 1)) = false then 7 else 0 := by
        unfold room; rw [if_neg (by simp [hr]), if_neg (by simp [hh])]
      rw [e]
      obtain ⟨P, hP⟩ : ∃ P, P = Pth.parts s.data.toList := ⟨_, rfl⟩
      rw [← hP] at hc hn0 hj ⊢
      have hlen : (Pth.join P).length ≤ 120 := by rw [hj]; exact hl
      obtain ⟨n, hn⟩ : ∃ n, P.length = n + 1 := ⟨P.length - 1, by have := List.length_pos_iff.2 hn0; omega⟩
      have es : s = bs (pre P (n + 1)) := by rw [← hn, pre_len, hj, bs_of]
      have UPS := Lib.hid (fun w j (hj : j + 1 ≤ P.length) => up_pre hc (by omega) j hj w)
      have UP0 := Lib.hid (fun w => by
        have := UPS.out w n (by omega)
        rw [← es] at this
        exact this)
      have PL := Lib.hid (fun i => Nat.le_trans (pre_length P i) hlen)
      have HAS := Lib.hid (fun w' (hb : Below w.heap.size w w') i => thas_any (HT.out.below hb) (bs (pre P i)) (by rw [bs_size]; have := PL.out i; omega))
      have ISD := Lib.hid (fun w' (hb : Below w.heap.size w w') i => isDir_any (HT.out.below hb) (bs (pre P i)) (fun k hk => Nat.le_trans (HS.out.short hk).2 HX.out) (by rw [bs_size]; have := PL.out i; omega))
      have HPN := Lib.hid (fun j (h1 : 1 ≤ j) (h2 : j ≤ n) => pre_ne hc h1 (by omega : j ≤ P.length))
      have HN := Lib.hid hn
      rw [hn, Nat.add_sub_cancel]
      obtain ⟨R, hR⟩ : ∃ R, R = errV (if Tre.blocked t P = true then 6 else if 2 ≤ n + 1 ∧ t.has (pre P n) = false then 7 else 0) := ⟨_, rfl⟩
      rw [← hR]
      have HR := Lib.hid hR
      clear hR
      clear e hr hh hP hc hn0 hj hl hlen es hn
      go_enter Tryz.func120, Tryz.ntmps120
      go_wp2_with fail
      refine RT.out.mono ?_
      rintro e w1 ⟨rfl, h1⟩
      have B1 := Lib.hid h1
      clear h1
      go_wp2_with fail
      refine (HA.out _ B1.out).mono ?_
      rintro e w' ⟨rfl, hw⟩
      subst w'
      go_wp2_with fail
      refine (UP0.out _).mono ?_
      rintro e w2 ⟨x, rfl, h2⟩
      have B2 := Lib.hid (thenB B1.out h2)
      clear h2 hs
      go_wp2_with fail
      go_loopg [7] n (fun gg s7 wr => ∃ j : Nat, gg = j ∧ j ≤ n ∧ s7 = .string (bs (pre P j)) ∧ Hid (Below w.heap.size w wr) ∧ Hid (∀ i, j < i → i ≤ n → t.has (pre P i) = true → t.isDir (pre P i) = true))
      case atStart => exact ⟨n, rfl, Nat.le_refl _, rfl, B2, Lib.hid (fun i h1 h2 => by omega)⟩
      case round =>
        obtain ⟨j, hgj, hjn, rfl, HB, HI⟩ := hrel
        subst gk
        cases j with
        | zero =>
          have hbl : Tre.blocked t P = false := by
            unfold Tre.blocked
            rw [List.any_eq_false]
            intro i hi
            have hi2 := List.mem_range.1 hi
            have hn := HN.out
            by_cases h0 : 1 ≤ i
            · cases hb : t.has (pre P i)
              · simp
              · have := HI.out i (by omega) (by omega) hb
                simp [this]
            · simp [h0]
          have hR := HR.out
          rw [hbl, if_neg (by simp)] at hR
          have e0 : bs (pre P 0) = ⟨#[]⟩ := rfl
          rw [e0]
          clear hbl e0
          cases n with
          | zero =>
            have e0 : bs (pre P 0) = ⟨#[]⟩ := rfl
            rw [e0]
            rw [if_neg (by omega)] at hR
            have HR1 := Lib.hid hR
            clear e0 hR
            go_wp2_with fail
            go_ret
            exact ⟨by rw [HR1.out]; rfl, HB.out⟩
          | succ m =>
            obtain ⟨S, hS⟩ : ∃ S, S = bs (pre P (m + 1)) := ⟨_, rfl⟩
            have h1 : S.toList.isEmpty = false := by
              rw [hS, show (bs (pre P (m + 1))).toList = pre P (m + 1) from Lib.toList_data _]
              have := HPN.out (m + 1) (by omega) (by omega)
              simpa using this
            have h2 : ¬ S.toList = [] := by simpa using h1
            have HS2 := Lib.hid (HAS.out _ HB.out (m + 1))
            rw [← hS] at HS2 ⊢
            obtain ⟨q, hq⟩ : ∃ q, q = t.has (pre P (m + 1)) := ⟨_, rfl⟩
            have hq2 : S.data.toList = pre P (m + 1) := by rw [hS]; rfl
            rw [hq2, ← hq] at HS2
            rw [← hq] at hR
            clear hS hq hq2
            cases q
            · rw [if_pos ⟨by omega, rfl⟩] at hR
              have HR1 := Lib.hid hR
              clear hR
              go_wp2_with fail
              refine HS2.out.mono ?_
              rintro e w' ⟨rfl, hw⟩
              subst w'
              go_wp2_with fail
              go_ret
              exact ⟨by rw [HR1.out]; rfl, HB.out⟩
            · rw [if_neg (by simp)] at hR
              have HR1 := Lib.hid hR
              clear hR
              go_wp2_with fail
              refine HS2.out.mono ?_
              rintro e w' ⟨rfl, hw⟩
              subst w'
              go_wp2_with fail
              go_ret
              exact ⟨by rw [HR1.out]; rfl, HB.out⟩
        | succ m =>
          obtain ⟨S, hS⟩ : ∃ S, S = bs (pre P (m + 1)) := ⟨_, rfl⟩
          have h1 : S.toList.isEmpty = false := by
            rw [hS, show (bs (pre P (m + 1))).toList = pre P (m + 1) from Lib.toList_data _]
            have := HPN.out (m + 1) (by omega) (by omega)
            simpa using this
          have h2 : ¬ S.toList = [] := by simpa using h1
          have HS2 := Lib.hid (HAS.out _ HB.out (m + 1))
          have ID2 := Lib.hid (ISD.out _ HB.out (m + 1))
          have UP2 := Lib.hid (fun w => UPS.out w m (by have := HN.out; omega))
          rw [← hS] at HS2 ID2 UP2 ⊢
          have e1 : t.has (bs (pre P (m + 1))).data.toList = t.has (pre P (m + 1)) := rfl
          have e2 : t.isDir (bs (pre P (m + 1))).data.toList = t.isDir (pre P (m + 1)) := rfl
          have e3 : S.data.toList = pre P (m + 1) := by rw [hS]; rfl
          rw [e3] at HS2 ID2
          cases hq : t.has (pre P (m + 1))
          · rw [hq] at HS2
            have HI2 : Hid (∀ i, m < i → i ≤ n → t.has (pre P i) = true → t.isDir (pre P i) = true) := Lib.hid (fun i h3 h4 h5 => by
              by_cases e : i = m + 1
              · subst e; rw [hq] at h5; cases h5
              · exact HI.out i (by omega) h4 h5)
            clear hS e1 e2 e3 hq
            go_wp2_with fail
            refine HS2.out.mono ?_
            rintro e w' ⟨rfl, hw⟩
            subst w'
            go_wp2_with fail
            refine (UP2.out _).mono ?_
            rintro e w3 ⟨y, rfl, h3⟩
            have B3 := Lib.hid (thenB HB.out h3)
            clear h3
            go_wp2_with fail
            go_roundg m
            case measure => omega
            case rel => exact ⟨m, rfl, by omega, rfl, B3, HI2⟩
          · rw [hq] at HS2
            cases hd : t.isDir (pre P (m + 1))
            · rw [hd] at ID2
              have hbl : Tre.blocked t P = true := by
                unfold Tre.blocked
                rw [List.any_eq_true]
                exact ⟨m + 1, List.mem_range.2 (by have := HN.out; omega), by simp [hq, hd]⟩
              have hR := HR.out
              rw [hbl, if_pos rfl] at hR
              have HR1 := Lib.hid hR
              clear hS e1 e2 e3 hq hd hbl hR
              go_wp2_with fail
              refine HS2.out.mono ?_
              rintro e w' ⟨rfl, hw⟩
              subst w'
              go_wp2_with fail
              refine ID2.out.mono ?_
              rintro e w3 ⟨rfl, h3⟩
              have B3 := Lib.hid (thenB HB.out h3)
              clear h3
              go_wp2_with fail
              go_ret
              exact ⟨by rw [HR1.out]; rfl, B3.out⟩
            · rw [hd] at ID2
              have HI2 : Hid (∀ i, m < i → i ≤ n → t.has (pre P i) = true → t.isDir (pre P i) = true) := Lib.hid (fun i h3 h4 h5 => by
                by_cases e : i = m + 1
                · subst e; exact hd
                · exact HI.out i (by omega) h4 h5)
              clear hS e1 e2 e3 hq hd
              go_wp2_with fail
              refine HS2.out.mono ?_
              rintro e w' ⟨rfl, hw⟩
              subst w'
              go_wp2_with fail
              refine ID2.out.mono ?_
              rintro e w3 ⟨rfl, h3⟩
              have B3 := Lib.hid (thenB HB.out h3)
              clear h3
              go_wp2_with fail
              refine (UP2.out _).mono ?_
              rintro e w4 ⟨y, rfl, h4⟩
              have B4 := Lib.hid (thenB B3.out h4)
              clear h4
              go_wp2_with fail
              go_roundg m
              case measure => omega
              case rel => exact ⟨m, rfl, by omega, rfl, B4, HI2⟩

set_option maxRecDepth 100000 in
theorem space_any {w : World} {g : Nat} {on of : Option Nat} {t : T} (h : TreeAt w g on of t) (ht : Std t) (hx : t.nx ≤ 1000000) (hm : ML w) (s : ByteArray) (hs : s.size ≤ 100000) :
    Calls Tryz.prog 117 #[.pointer (some ⟨g, 0, none⟩), .string s] w fun e w' => e = .returned (errV (space t s.data.toList)) ∧ Below w.heap.size w w' := by
  have RM := Lib.hid (room_any h ht hx hm s hs)
  have hg := h.blk.lt
  have HT := Lib.hid h
  have hc := ht.cn
  have e : space t s.data.toList = if room t s.data.toList ≠ 0 then room t s.data.toList else if 60 ≤ t.ents.length then 12 else 0 := rfl
  rw [e]
  obtain ⟨r, hr⟩ : ∃ r, r = room t s.data.toList := ⟨_, rfl⟩
  rw [← hr] at RM ⊢
  clear e hr h ht hx hm
  by_cases h0 : r = 0
  · subst h0
    rw [if_neg (by simp)]
    have e1 : errV 0 = .nilIface := rfl
    rw [e1] at RM
    by_cases h60 : 60 ≤ t.ents.length
    · rw [if_pos h60]
      have e60 : (60 : Int) ≤ t.ents.length := by omega
      clear e1
      go_enter Tryz.func117, Tryz.ntmps117
      go_wp2_with fail
      refine RM.out.mono ?_
      rintro e w1 ⟨rfl, h1⟩
      have T1 := Lib.hid (HT.out.below h1)
      have c0 := (HT.out.below h1).blk.cell 0
      have hlen := (HT.out.below h1).nm.len Tryz.underlying68 3
      have B1 := Lib.hid h1
      clear h1
      go_wp2_with fail
      go_ret
      exact ⟨rfl, B1.out⟩
    · rw [if_neg h60]
      have e60 : ¬ (60 : Int) ≤ t.ents.length := by omega
      clear e1
      go_enter Tryz.func117, Tryz.ntmps117
      go_wp2_with fail
      refine RM.out.mono ?_
      rintro e w1 ⟨rfl, h1⟩
      have T1 := Lib.hid (HT.out.below h1)
      have c0 := (HT.out.below h1).blk.cell 0
      have hlen := (HT.out.below h1).nm.len Tryz.underlying68 3
      have B1 := Lib.hid h1
      clear h1
      go_wp2_with fail
      go_ret
      exact ⟨rfl, B1.out⟩
  · rw [if_pos h0]
    have e1 : errV r = .iface 89 (.int .i64 r) := if_neg h0
    rw [e1] at RM ⊢
    clear e1 hc
    go_enter Tryz.func117, Tryz.ntmps117
    go_wp2_with fail
    refine RM.out.mono ?_
    rintro e w1 ⟨rfl, h1⟩
    have B1 := Lib.hid h1
    clear h1
    go_wp2_with fail
    go_ret
    exact ⟨rfl, B1.out⟩

end Go.Proofs.YtipajekehbpghaaGreatDoor
