/-
  (*Tree).again, remove.
-/
import Derived.Test.YtehooifcgfkngaaDoorTreeG
namespace Go.Proofs.YtehooifcgfkngaaDoor
open Go.RowKit Go.Maps Tre

theorem TreeAt.made {w : World} {g : Nat} {on of : Option Nat} {t : T} (h : TreeAt w g on of t) {s : Pth.Bs} {k : Nat} (hk : Tre.look t.ents s = some k) :
    ∃ bn bf, on = some bn ∧ of = some bf := by
  cases on with
  | none =>
    have := h.nm.2 (.string s) trivial
    rw [namesF_at, hk] at this
    cases this
  | some bn =>
    cases of with
    | none => exact absurd (h.both.2 rfl) (by simp)
    | some bf => exact ⟨bn, bf, rfl, rfl⟩
theorem namesF_del (E : List (Pth.Bs × Nat)) (s : Pth.Bs) : delF (namesF E) (.string s) = namesF (E.filter fun p => !(p.1 == s)) := by
  unfold namesF
  rw [strF_del]
  congr 1
  funext x
  by_cases e : x = s
  · subst e; rw [if_pos rfl, look_filter_self]; rfl
  · rw [if_neg e, look_filter _ _ _ e]
theorem filesF_del (fl : Nat → Option Nd) (k : Nat) : delF (filesF fl) (.int .i64 (k : Int)) = filesF (upd fl k none) := by
  unfold filesF
  rw [intF_del]
  congr 1
  funext x
  unfold upd
  by_cases e : x = (k : Int)
  · subst e
    rw [if_pos rfl, if_pos (by omega), if_pos (by omega)]; rfl
  · rw [if_neg e]
    by_cases e2 : 0 ≤ x
    · rw [if_pos e2, if_pos e2, if_neg (by omega)]
    · rw [if_neg e2, if_neg e2]
theorem filter_len {E : List (Pth.Bs × Nat)} (h : Apart E) {s : Pth.Bs} {k : Nat} (hk : (s, k) ∈ E) : (E.filter fun p => !(p.1 == s)).length = E.length - 1 := by
  induction E with
  | nil => cases hk
  | cons p E ih =>
    obtain ⟨h1, h2⟩ := List.pairwise_cons.1 h
    by_cases e : p.1 = s
    · rw [List.filter_cons_of_neg (by simp [e])]
      have : E.filter (fun p => !(p.1 == s)) = E := List.filter_eq_self.2 fun q hq => by
        have := h1 q hq
        rw [e] at this
        simp [Ne.symm this]
      rw [this]; simp
    · rcases List.mem_cons.1 hk with e2 | hk
      · exact absurd (by rw [← e2]) e
      · rw [List.filter_cons_of_pos (by simp [e]), List.length_cons, List.length_cons, ih h2 hk]
        have := List.length_pos_of_mem hk
        omega

set_option maxRecDepth 100000 in
set_option maxHeartbeats 4000000 in
theorem again_tree {w : World} {g : Nat} {on of : Option Nat} {t : T} (h : TreeAt w g on of t) (ht : Std t) (hx : t.nx ≤ 100000) (hm : ML w) (x : Deed) (i : Nat) (hi : Tre.look t.ents x.name = some i) (h1 : x.to.length ≤ 10000) :
    Calls Tryd.prog 31 #[.pointer (some ⟨g, 0, none⟩), dv x] w fun e w' => e = .returned (errV (again t x i).2) ∧ Turned w g on of (again t x i).1 w' := by
  have hg := h.blk.lt
  have hb0 : Below w.heap.size w (w.alloc (.cells (dvc x) 43)) := (Below.refl _ _).alloc (Nat.le_refl _) _
  obtain ⟨bn, bf, rfl, rfl⟩ := h.made hi
  have HT := Lib.hid h
  have HS := Lib.hid ht
  have hsh := ht.short hi
  have HI := Lib.hid hi
  have DR := Lib.hid (isDir_any (h.below hb0) (bs x.name) (fun k hk => by have := (ht.short hk).2; omega) (by rw [bs_size]; omega))
  have SPC := Lib.hid (fun w' (hb : Below w.heap.size w w') => space_any (HT.out.below hb) ht (by omega) (hm.below hb) (bs x.to) (by rw [bs_size]; omega))
  have e : again t x i = if t.isDir x.name = true then (t, 6) else if space t x.to ≠ 0 then (t, space t x.to) else (⟨t.ents ++ [(x.to, i)], t.fl, t.nx⟩, 0) := rfl
  rw [e]
  clear e h ht hm hi
  obtain ⟨r, hr⟩ : ∃ r, r = t.isDir x.name := ⟨_, rfl⟩
  rw [bs_list] at DR
  rw [← hr] at DR ⊢
  obtain ⟨c, hc⟩ : ∃ c, c = space t x.to := ⟨_, rfl⟩
  have SPC2 : Hid (∀ w', Below w.heap.size w w' → Calls Tryd.prog 50 #[.pointer (some ⟨g, 0, none⟩), .string (bs x.to)] w' fun e w'' => e = .returned (errV c) ∧ Below w'.heap.size w' w'') := by
    rw [hc]; exact SPC
  rw [← hc]
  have HC := Lib.hid hc
  unfold dv dvc
  unfold dvc at DR hb0
  obtain ⟨what, name, dest, n, node⟩ := x
  obtain ⟨n0, n1, n2, n3, n4, n5, n6, n7, n8, n9⟩ := node
  simp only at *
  clear SPC hc hr
  cases r with
  | true =>
    rw [if_pos rfl]
    go_enter Tryd.func31, Tryd.ntmps31
    go_wp2_with fail
    refine DR.out.mono ?_
    rintro e w1 ⟨rfl, k1⟩
    have B1 := Lib.hid (thenB ((Below.refl _ _).alloc (Nat.le_refl _) _) k1)
    clear k1
    go_wp2_with fail
    go_ret
    exact ⟨rfl, Turned.still HT.out B1.out⟩
  | false =>
    rw [if_neg (by simp)]
    by_cases h0 : c = 0
    · subst h0
      rw [if_neg (by simp)]
      have e1 : errV 0 = .nilIface := rfl
      rw [e1] at SPC2
      clear e1
      go_enter Tryd.func31, Tryd.ntmps31
      go_wp2_with fail
      refine DR.out.mono ?_
      rintro e w1 ⟨rfl, k1⟩
      have B1 := Lib.hid (thenB ((Below.refl _ _).alloc (Nat.le_refl _) _) k1)
      have bb := ((Blk.new w 43 (dvc ⟨what, name, dest, n, ⟨n0, n1, n2, n3, n4, n5, n6, n7, n8, n9⟩⟩)).below k1 (by simp))
      have z2 : w1.cell? ⟨w.heap.size, 2, none⟩ = some (.string (bs dest)) := bb.cell 2
      have BB := Lib.hid bb
      clear k1 bb
      go_wp2_with fail
      refine (SPC2.out _ B1.out).mono ?_
      rintro e w2 ⟨rfl, k2⟩
      have B2 := Lib.hid (thenB B1.out k2)
      have bb2 := BB.out.below k2 BB.out.lt
      have T2 := HT.out.below B2.out
      clear k2 z2 BB DR SPC2
      repeat' ((fail_if_success (with_reducible refine halt_at 6 ?_)); first | go_values | go_skip | go_guarded | go_step | go_upon | go_back | (simp only [Int.not_lt, Int.not_le] at *; go_simp) | (go_values <;> (try go_simp)) | (go_ite <;> go_prune <;> (try go_simp)) | (split <;> (first | (rename_i hx; exact (hx _ rfl).elim) | go_prune)))
      have y2 : w2.cell? ⟨w.heap.size, 2, none⟩ = some (.string (bs dest)) := bb2.cell 2
      have y1 : w2.cell? ⟨w.heap.size, 1, none⟩ = some (.string (bs name)) := bb2.cell 1
      have g0 : w2.cell? ⟨g, 0, none⟩ = some (.map (some bn)) := T2.blk.cell 0
      have nm := T2.nm
      obtain ⟨nf, hf, hnf⟩ := T2.fl
      have hroom := space_zero HC.out.symm
      have hno : Tre.look t.ents dest = none := by
        have := (room_zero hroom.1).2.1
        unfold T.has at this; simpa using this
      have hno1 : namesF t.ents (.string (bs dest).data.toList) = none := by rw [bs_list, namesF_at, hno]; rfl
      have hlk1 : namesF t.ents (.string (bs name).data.toList) = some (.int .i64 i) := by rw [bs_list, namesF_at, HI.out]; rfl
      have nm2 : MapF w2.drew Tryd.prog 9 bn (namesF t.ents) t.ents.length := MapF.drew nm
      have hlook := nm2.look strL Tryd.underlying55 intZero (strK (bs name) (by rw [bs_size]; unfold maxLen; omega)) hlk1
      obtain ⟨wA, hA, mA, gA, sA⟩ := nm2.store strL Tryd.underlying55 (by unfold maxLen; omega) (strK (bs dest) (by rw [bs_size]; unfold maxLen; omega)) (.int .i64 (i : Int))
      have hgn : g ≠ bn := blk_map_ne T2.blk nm
      have eA := T2.blk.drew.grown gA (by intro e; injection e with e; exact hgn e)
      have fA := (MapF.drew hf).kept gA (by intro e; exact T2.ne bn rfl e)
      have kA := (Kept.of_below B2.out).drew.grown gA (.inl (by simp [own]) : bn ∈ own g (some bn) (some bf) ∨ _)
      have FIN : Turned w g (some bn) (some bf) ⟨t.ents ++ [(dest, i)], t.fl, t.nx⟩ wA := by
        refine ⟨some bn, some bf, ⟨eA, ?_, ⟨nf, fA, hnf⟩, by simp, T2.ne⟩, fun b hb => .inl hb, kA⟩
        show MapF wA Tryd.prog 9 bn (namesF (t.ents ++ [(dest, i)])) (t.ents ++ [(dest, i)]).length
        rw [List.length_append]
        rw [bs_list, namesF_snoc hno, namesF_at, hno] at mA
        exact mA
      have FN := Lib.hid FIN
      simp only [Option.getD_some] at hlook
      clear FIN nm nm2 hf hnf hroom hno hno1 hlk1 mA gA sA hgn eA fA kA T2 bb2 HI
      go_region
      all_goals go_wp2_with fail
      all_goals go_ret
      all_goals exact ⟨rfl, FN.out⟩
    · rw [if_pos h0]
      have e1 : errV c = .iface 67 (.int .i64 c) := if_neg h0
      rw [e1] at SPC2 ⊢
      clear e1
      go_enter Tryd.func31, Tryd.ntmps31
      go_wp2_with fail
      refine DR.out.mono ?_
      rintro e w1 ⟨rfl, k1⟩
      have B1 := Lib.hid (thenB ((Below.refl _ _).alloc (Nat.le_refl _) _) k1)
      have z2 : w1.cell? ⟨w.heap.size, 2, none⟩ = some (.string (bs dest)) := ((Blk.new w 43 (dvc ⟨what, name, dest, n, ⟨n0, n1, n2, n3, n4, n5, n6, n7, n8, n9⟩⟩)).below k1 (by simp)).cell 2
      clear k1
      go_wp2_with fail
      refine (SPC2.out _ B1.out).mono ?_
      rintro e w2 ⟨rfl, k2⟩
      have B2 := Lib.hid (thenB B1.out k2)
      clear k2
      go_wp2_with fail
      go_ret
      exact ⟨rfl, Turned.still HT.out B2.out⟩

end Go.Proofs.YtehooifcgfkngaaDoor
