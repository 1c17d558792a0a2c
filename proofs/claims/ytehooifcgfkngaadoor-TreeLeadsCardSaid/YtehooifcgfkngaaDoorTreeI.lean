/-
  (*Tree).remove.
-/
import Derived.Test.YtehooifcgfkngaaDoorTreeH
namespace Go.Proofs.YtehooifcgfkngaaDoor
open Go.RowKit Go.Maps Tre

theorem mem_pos {E : List (Pth.Bs × Nat)} {p : Pth.Bs × Nat} (h : p ∈ E) : 0 < E.length := List.length_pos_of_mem h

set_option maxRecDepth 100000 in
set_option maxHeartbeats 4000000 in
theorem remove_tree {w : World} {g : Nat} {on of : Option Nat} {t : T} (h : TreeAt w g on of t) (ht : Std t) (hx : t.nx ≤ 100000) (hm : ML w) (x : Deed) (i : Nat) (hi : Tre.look t.ents x.name = some i) :
    Calls Tryd.prog 32 #[.pointer (some ⟨g, 0, none⟩), dv x] w fun e w' => e = .returned (errV (remove t x i).2) ∧ Turned w g on of (remove t x i).1 w' := by
  have hg := h.blk.lt
  have hb0 : Below w.heap.size w (w.alloc (.cells (dvc x) 43)) := (Below.refl _ _).alloc (Nat.le_refl _) _
  obtain ⟨bn, bf, rfl, rfl⟩ := h.made hi
  have HT := Lib.hid h
  have HS := Lib.hid ht
  have hsh := ht.short hi
  have hin : i ≤ 100000 := by omega
  have HI := Lib.hid hi
  have hh : t.has x.name = true := has_iff.2 ⟨i, look_mem hi⟩
  have IS := Lib.hid (inside_any (h.below hb0) ht (hm.below hb0) (bs x.name) (by rw [bs_size]; omega) hh)
  have LK := Lib.hid (fun w' (hb : Below w.heap.size w w') => links_any (HT.out.below hb) ht (bs x.name) (by rw [bs_size]; omega))
  have hlb : (t.inside x.name).length ≤ 60 := by
    unfold T.inside
    have := List.length_filter_le (fun y => Pth.inn y x.name) t.names
    rw [names_len] at this
    have := ht.cn
    omega
  have hlc : t.links x.name ≤ 60 := by
    unfold T.links
    have := List.length_filter_le (fun p : Pth.Bs × Nat => t.alike x.name p.1) t.ents
    have := ht.cn
    omega
  have e : remove t x i = if 1 < (t.inside x.name).length then (t, 6) else (⟨t.ents.filter fun p => !(p.1 == x.name), if t.links x.name = 1 then upd t.fl i none else t.fl, t.nx⟩, 0) := rfl
  rw [e]
  rw [bs_list] at IS
  have LK2 : Hid (∀ w', Below w.heap.size w w' → Calls Tryd.prog 12 #[.pointer (some ⟨g, 0, none⟩), .string (bs x.name)] w' fun e w'' => e = .returned (.int .i64 (t.links x.name)) ∧ Below w'.heap.size w' w'') := LK
  clear e h ht hm hi hh LK
  obtain ⟨L, hL⟩ : ∃ L, L = t.inside x.name := ⟨_, rfl⟩
  rw [← hL] at IS hlb ⊢
  obtain ⟨c, hc⟩ : ∃ c, c = t.links x.name := ⟨_, rfl⟩
  rw [← hc] at LK2 hlc ⊢
  unfold dv dvc
  unfold dvc at IS hb0
  obtain ⟨what, name, dest, n, node⟩ := x
  obtain ⟨n0, n1, n2, n3, n4, n5, n6, n7, n8, n9⟩ := node
  simp only at *
  clear hL hc
  by_cases h6 : 1 < L.length
  · rw [if_pos h6]
    have h6i : (1 : Int) < L.length := by omega
    go_enter Tryd.func32, Tryd.ntmps32
    go_wp2_with fail
    refine IS.out.mono ?_
    rintro e w1 ⟨v, rfl, hv, k1⟩
    obtain ⟨X, cap, rfl, _⟩ := hv
    have B1 := Lib.hid (thenB ((Below.refl _ _).alloc (Nat.le_refl _) _) k1)
    clear k1
    go_wp2_with fail
    go_ret
    exact ⟨rfl, Turned.still HT.out B1.out⟩
  · rw [if_neg h6]
    obtain ⟨F, hF⟩ : ∃ F, F = if c = 1 then upd t.fl i none else t.fl := ⟨_, rfl⟩
    rw [← hF]
    have HF := Lib.hid hF
    clear hF
    have h6i : ¬ (1 : Int) < L.length := by omega
    go_enter Tryd.func32, Tryd.ntmps32
    go_wp2_with fail
    refine IS.out.mono ?_
    rintro e w1 ⟨v, rfl, hv, k1⟩
    obtain ⟨X, cap, rfl, _⟩ := hv
    have B1 := Lib.hid (thenB ((Below.refl _ _).alloc (Nat.le_refl _) _) k1)
    have bb := (Blk.new w 43 (dvc ⟨what, name, dest, n, ⟨n0, n1, n2, n3, n4, n5, n6, n7, n8, n9⟩⟩)).below k1 (by simp)
    have z1 : w1.cell? ⟨w.heap.size, 1, none⟩ = some (.string (bs name)) := bb.cell 1
    have BB := Lib.hid bb
    clear k1 bb
    go_wp2_with fail
    refine (LK2.out _ B1.out).mono ?_
    rintro e w2 ⟨rfl, k2⟩
    have B2 := Lib.hid (thenB B1.out k2)
    have bb2 := BB.out.below k2 BB.out.lt
    have T2 := HT.out.below B2.out
    clear k2 z1 BB IS LK2 B1
    repeat' ((fail_if_success (with_reducible refine halt_at 4 ?_)); first | go_values | go_skip | go_guarded | go_step | go_upon | go_back | (simp only [Int.not_lt, Int.not_le] at *; go_simp) | (go_values <;> (try go_simp)) | (go_ite <;> go_prune <;> (try go_simp)) | (split <;> (first | (rename_i hx; exact (hx _ rfl).elim) | go_prune)))
    have y1 : w2.cell? ⟨w.heap.size, 1, none⟩ = some (.string (bs name)) := bb2.cell 1
    have g0 : w2.cell? ⟨g, 0, none⟩ = some (.map (some bn)) := T2.blk.cell 0
    have nm := T2.nm
    have hlk1 : namesF t.ents (.string (bs name).data.toList) = some (.int .i64 i) := by rw [bs_list, namesF_at, HI.out]; rfl
    have nm2 : MapF w2.drew Tryd.prog 9 bn (namesF t.ents) t.ents.length := MapF.drew nm
    have hlook := nm2.look strL Tryd.underlying55 intZero (strK (bs name) (by rw [bs_size]; unfold maxLen; omega)) hlk1
    simp only [Option.getD_some] at hlook
    have NM2 := Lib.hid nm2
    have HLK := Lib.hid hlk1
    have BB2 := Lib.hid bb2
    have T2' := Lib.hid T2
    clear nm nm2 hlk1 bb2 T2
    go_region
    obtain ⟨w3, hw3⟩ : ∃ w3, w3 = w2.drew := ⟨_, rfl⟩
    rw [← hw3] at NM2 ⊢
    have T3 : TreeAt w3 g (some bn) (some bf) t := by rw [hw3]; exact T2'.out.drew
    have bb3 := BB2.out.drew
    rw [← hw3] at bb3
    have k3 : Kept (own g (some bn) (some bf)) w w3 := by rw [hw3]; exact (Kept.of_below B2.out).drew
    clear hlook y1 g0 hw3 T2' BB2 B2
    repeat' ((fail_if_success (with_reducible refine halt_at 5 ?_)); first | go_values | go_skip | go_guarded | go_step | go_upon | go_back | (simp only [Int.not_lt, Int.not_le] at *; go_simp) | (go_values <;> (try go_simp)) | (go_ite <;> go_prune <;> (try go_simp)) | (split <;> (first | (rename_i hx; exact (hx _ rfl).elim) | go_prune)))
    have y1 : w3.cell? ⟨w.heap.size, 1, none⟩ = some (.string (bs name)) := bb3.cell 1
    have g0 : w3.cell? ⟨g, 0, none⟩ = some (.map (some bn)) := T3.blk.cell 0
    obtain ⟨wA, hA, mA, gA, sA⟩ := NM2.out.drew.drop strL Tryd.underlying55 (strK (bs name) (by rw [bs_size]; unfold maxLen; omega)) 0
    rw [HLK.out] at mA
    have hgn : g ≠ bn := blk_map_ne T3.blk NM2.out
    have hgf : g ≠ bf := by
      obtain ⟨nf, hf, _⟩ := T3.fl
      exact blk_map_ne T3.blk hf
    have eA := T3.blk.drew.grown gA (by intro e; injection e with e; exact hgn e)
    obtain ⟨nf, hf, hnf⟩ := T3.fl
    have fA : MapF wA Tryd.prog 3 bf (filesF t.fl) nf := (MapF.drew hf).kept gA (by intro e; exact T3.ne bn rfl e)
    have kA := k3.drew.grown gA (.inl (by simp [own]) : bn ∈ own g (some bn) (some bf) ∨ _)
    have hne := T3.ne
    have hlen : (t.ents.filter fun p => !(p.1 == name)).length = t.ents.length - 1 := filter_len HS.out.nd (look_mem HI.out)
    have mA2 : MapF wA Tryd.prog 9 bn (namesF (t.ents.filter fun p => !(p.1 == name))) (t.ents.filter fun p => !(p.1 == name)).length := by
      rw [hlen]
      rw [bs_list, namesF_del] at mA
      simpa using mA
    have EA := Lib.hid eA
    have FA := Lib.hid fA
    have KA := Lib.hid kA
    have MA := Lib.hid mA2
    have HNE := Lib.hid hne
    have HNF := Lib.hid hnf
    clear mA gA sA eA fA kA hne hnf hlen mA2 hf T3 NM2 HLK k3 bb3 hgn
    go_region
    have q1 : wA.cell? ⟨g, 1, none⟩ = some (.map (some bf)) := EA.out.cell 1
    clear y1 g0 hA
    by_cases h1 : c = 1
    · subst h1
      have hF := HF.out
      rw [if_pos rfl] at hF
      subst hF
      obtain ⟨wB, hB, mB, gB, sB⟩ := FA.out.drop intL Tryd.underlying56 (natK i (by omega)) 0
      rw [filesF_del] at mB
      have FIN : Turned w g (some bn) (some bf) ⟨t.ents.filter fun p => !(p.1 == name), upd t.fl i none, t.nx⟩ wB := by
        refine ⟨some bn, some bf, ⟨EA.out.grown gB (by intro e; injection e with e; exact hgf e), MA.out.kept gB (by intro e; injection e with e; exact HNE.out bn rfl (by rw [e])), ⟨_, mB, Nat.le_trans (Nat.sub_le _ _) HNF.out⟩, by simp, HNE.out⟩, fun b hb => .inl hb, KA.out.grown gB (.inl (by simp [own]))⟩
      have FN := Lib.hid FIN
      clear FIN mB gB sB
      go_wp2_with fail
      go_ret
      exact ⟨rfl, FN.out⟩
    · have hF := HF.out
      rw [if_neg h1] at hF
      subst hF
      have h1i : ((c : Int) == 1) = false := beq_eq_false_iff_ne.2 (by omega)
      have FIN : Turned w g (some bn) (some bf) ⟨t.ents.filter fun p => !(p.1 == name), t.fl, t.nx⟩ wA :=
        ⟨some bn, some bf, ⟨EA.out, MA.out, ⟨_, FA.out, HNF.out⟩, by simp, HNE.out⟩, fun b hb => .inl hb, KA.out⟩
      have FN := Lib.hid FIN
      clear FIN
      go_wp2_with fail
      go_ret
      exact ⟨rfl, FN.out⟩

end Go.Proofs.YtehooifcgfkngaaDoor
