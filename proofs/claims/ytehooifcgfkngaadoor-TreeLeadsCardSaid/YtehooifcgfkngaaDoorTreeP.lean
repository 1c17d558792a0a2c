/-
  planted: a tree by actions.
-/
import Derived.Test.YtehooifcgfkngaaDoorTreeO
namespace Tre
theorem plant_nx (l : List Deed) : (plant l).nx ≤ l.length := by
  have : ∀ (l : List Deed) (t : T), (l.foldl (fun t x => (act t x).1) t).nx ≤ t.nx + l.length := fun l => by
    induction l with
    | nil => intro t; simp
    | cons x l ih =>
      intro t
      have h1 := ih (act t x).1
      have h2 := (act_nx t x).1
      simp only [List.foldl_cons, List.length_cons]
      omega
  have h := this l none_
  unfold plant
  simpa [none_] using h
theorem plant_std (l : List Deed) : Std (plant l) := Std.plant l Std.none_
theorem plant_snoc (l : List Deed) (x : Deed) : plant (l ++ [x]) = (act (plant l) x).1 := by unfold plant; rw [List.foldl_append]; rfl
end Tre
namespace Go.Proofs.YtehooifcgfkngaaDoor
open Go.RowKit Go.Maps Tre

theorem index_none (X : Option Addr) (c : Nat) (fv : Value) (w : World) : Calls Tryd.prog 46 #[.slice X 0 c, fv] w fun e w' => e = .returned (.int .i64 (-1)) ∧ Below w.heap.size w w' := by
  go_enter Tryd.func46, Tryd.ntmps46
  go_wp2_with fail
  refine wp_loop_rounds 1 ?_
  rw [rounds_succ]
  go_wp2_with fail
  go_ret
  exact ⟨rfl, Below.refl _ _⟩
theorem contains_deeds {w : World} {v : Value} {l : List Deed} (h : DeedsIn w v l) (hl : l.length ≤ 1000000) :
    Calls Tryd.prog 24 #[v, .func (.func 25) #[] #[]] w fun e w' => e = .returned (.bool (l.any bigD)) ∧ Below w.heap.size w w' := by
  obtain ⟨X, cap, rfl, hc, _, hf, h4⟩ := h
  have hi : Calls Tryd.prog 46 #[.slice X l.length cap, .func (.func 25) #[] #[]] w fun e w' => ∃ i : Int, e = .returned (.int .i64 i) ∧ decide (0 ≤ i) = l.any bigD ∧ Below w.heap.size w w' := by
    rcases h4 with rfl | ⟨b, off, rfl, hb, hr⟩
    · exact (index_none X cap _ w).mono fun e w' ⟨he, hb⟩ => ⟨-1, he, rfl, hb⟩
    · exact index_deeds l b off cap w hb hr hl hf
  have HI := Lib.hid hi
  obtain ⟨r, hr⟩ : ∃ r, r = l.any bigD := ⟨_, rfl⟩
  rw [← hr] at HI ⊢
  clear hi hr h4 hf
  go_enter Tryd.func24, Tryd.ntmps24
  go_wp2_with fail
  refine HI.out.mono ?_
  rintro e w1 ⟨i, rfl, hd, h1⟩
  have B1 := Lib.hid h1
  clear h1
  go_wp2_with fail
  go_ret
  exact ⟨rfl, B1.out⟩

theorem namesF_nil (k : Lit) : namesF [] k = none := by cases k <;> rfl
theorem filesF_nil (k : Lit) : filesF (fun _ => none) k = none := by
  unfold filesF intF
  split
  · simp
  · rfl
theorem empty_tree (w : World) : TreeAt (w.alloc (.cells #[.map none, .map none, .int .i64 0] 58)) w.heap.size none none none_ :=
  ⟨Blk.new w _ _, ⟨rfl, fun k _ => namesF_nil k⟩, ⟨0, ⟨rfl, fun k _ => filesF_nil k⟩, Nat.le_refl _⟩, Iff.rfl, fun b hb => by cases hb⟩
/-- What planted returns. -/
def Planted (w : World) (l : List Deed) (e : Ending) (w' : World) : Prop :=
  Below w.heap.size w w' ∧ ((bigL l = true ∧ e = .returned (.pointer none)) ∨
    (bigL l = false ∧ ∃ g on of, e = .returned (.pointer (some ⟨g, 0, none⟩)) ∧ TreeAt w' g on of (plant l) ∧ ∀ b ∈ own g on of, w.heap.size ≤ b))
theorem bigL_len {l : List Deed} (h : bigL l = false) : l.length ≤ 60 := by
  unfold bigL at h
  simp at h
  exact h.1
theorem bigD_len {x : Deed} (h : bigD x = false) : x.name.length + x.to.length + x.node.link.length ≤ 600 ∧ x.node.data.length ≤ 1500 := by
  unfold bigD at h
  simpa using h

set_option maxRecDepth 100000 in
set_option maxHeartbeats 4000000 in
theorem planted_any {w : World} {v : Value} {l : List Deed} (h : DeedsIn w v l) (hm : ML w) : Calls Tryd.prog 10 #[v] w (Planted w l) := by
  obtain ⟨X, cap, rfl, hc, hbig, hf, h4⟩ := id h
  have hli : (l.length : Int) ≤ 1000000000000 := by omega
  by_cases h60 : 60 < l.length
  · have e : bigL l = true := by unfold bigL; simp [h60]
    have HE := Lib.hid e
    have h60i : (60 : Int) < l.length := by omega
    clear e hc hbig hf h4 h hm
    go_enter Tryd.func10, Tryd.ntmps10
    go_wp2_with fail
    go_ret
    exact ⟨Below.refl _ _, .inl ⟨HE.out, rfl⟩⟩
  · have h60i : ¬ (60 : Int) < l.length := by omega
    have CT := Lib.hid (contains_deeds h (by omega))
    have e : bigL l = l.any bigD := by unfold bigL; simp [h60]
    cases hq : l.any bigD with
    | true =>
      rw [hq] at e CT
      have HE := Lib.hid e
      clear e hc hbig hf h4 h hm hq
      go_enter Tryd.func10, Tryd.ntmps10
      go_wp2_with fail
      refine CT.out.mono ?_
      rintro e w1 ⟨rfl, h1⟩
      have B1 := Lib.hid h1
      clear h1
      go_wp2_with fail
      go_ret
      exact ⟨B1.out, .inl ⟨HE.out, rfl⟩⟩
    | false =>
      rw [hq] at e CT
      have HE := Lib.hid e
      have HF := Lib.hid hf
      have HM := Lib.hid hm
      have H4 := Lib.hid h4
      have HQ := Lib.hid (fun x (hx : x ∈ l) => bigD_len (by have := List.any_eq_false.1 hq x hx; simpa using this : bigD x = false))
      clear e hbig hf h4 h hm hq
      go_enter Tryd.func10, Tryd.ntmps10
      go_wp2_with fail
      refine CT.out.mono ?_
      rintro e w1 ⟨rfl, h1⟩
      have B1 := Lib.hid h1
      clear h1
      go_wp2_with fail
      have T0 : TreeAt _ w1.heap.size none none (plant []) := empty_tree w1
      have T00 := Lib.hid T0
      have B0 := Lib.hid (B1.out.alloc B1.out.size (.cells #[.map none, .map none, .int .i64 0] 58))
      have Z1 := Lib.hid B1.out.size
      clear T0 CT
      go_loopg [4] l.length (fun gg s4 wr => ∃ (i : Nat) (on of : Option Nat), s4 = .int .i64 i ∧ i + gg = l.length ∧ Hid (TreeAt wr w1.heap.size on of (plant (l.take i))) ∧ Hid (Below w.heap.size w wr) ∧ Hid (∀ b ∈ own w1.heap.size on of, w.heap.size ≤ b))
      case atStart => exact ⟨0, none, none, rfl, by omega, T00, B0, Lib.hid (by intro b hb; simp [own] at hb; subst hb; exact Z1.out)⟩
      case round =>
        obtain ⟨i, on, of, rfl, hg, HT, HW, HO⟩ := hrel
        have HG := Lib.hid hg
        clear hg
        by_cases hil : i < l.length
        · have hii : (i : Int) < l.length := by omega
          rcases H4.out with h0 | ⟨b, off, rfl, hb, hr⟩
          · rw [h0] at hil; cases hil
          have rw_ := hr.below HW.out hb
          have hcell := rw_ i hil
          have hts : l.take (i + 1) = l.take i ++ [l[i]] := List.take_succ_eq_append_getElem hil
          have hmem : l[i] ∈ l := List.getElem_mem hil
          obtain ⟨x, hx⟩ : ∃ x, x = l[i] := ⟨_, rfl⟩
          rw [← hx] at hcell hts hmem
          obtain ⟨q1, q2⟩ := HQ.out x hmem
          have hnx : (plant (l.take i)).nx ≤ 60 := by
            have := plant_nx (l.take i)
            rw [List.length_take] at this
            omega
          have DD := Lib.hid (do_tree HT.out (plant_std _) (by omega) (HM.out.below HW.out) x (HF.out x hmem).1 (by omega) (by omega) (by omega) (by omega))
          rw [← plant_snoc, ← hts] at DD
          have d0 : wr.cell? ⟨b, off + i * 14, none⟩ = some (.int .i64 x.what) := hcell 0 (by omega)
          have d1 : wr.cell? ⟨b, off + i * 14 + 1, none⟩ = some (.string (bs x.name)) := hcell 1 (by omega)
          have d2 : wr.cell? ⟨b, off + i * 14 + 2, none⟩ = some (.string (bs x.to)) := hcell 2 (by omega)
          have d3 : wr.cell? ⟨b, off + i * 14 + 3, none⟩ = some (.int .i64 x.n) := hcell 3 (by omega)
          have d4 : wr.cell? ⟨b, off + i * 14 + 4, none⟩ = some (.int .u8 x.node.kind) := hcell 4 (by omega)
          have d5 : wr.cell? ⟨b, off + i * 14 + 5, none⟩ = some (.int .i64 x.node.mode) := hcell 5 (by omega)
          have d6 : wr.cell? ⟨b, off + i * 14 + 6, none⟩ = some (.int .i64 x.node.uid) := hcell 6 (by omega)
          have d7 : wr.cell? ⟨b, off + i * 14 + 7, none⟩ = some (.int .i64 x.node.gid) := hcell 7 (by omega)
          have d8 : wr.cell? ⟨b, off + i * 14 + 8, none⟩ = some (.int .i64 x.node.sec) := hcell 8 (by omega)
          have d9 : wr.cell? ⟨b, off + i * 14 + 9, none⟩ = some (.int .i64 x.node.nano) := hcell 9 (by omega)
          have d10 : wr.cell? ⟨b, off + i * 14 + 10, none⟩ = some (.string (bs x.node.data)) := hcell 10 (by omega)
          have d11 : wr.cell? ⟨b, off + i * 14 + 11, none⟩ = some (.string (bs x.node.link)) := hcell 11 (by omega)
          have d12 : wr.cell? ⟨b, off + i * 14 + 12, none⟩ = some (.int .i64 x.node.major) := hcell 12 (by omega)
          have d13 : wr.cell? ⟨b, off + i * 14 + 13, none⟩ = some (.int .i64 x.node.minor) := hcell 13 (by omega)
          obtain ⟨c, hcc⟩ : ∃ c, c = errV (act (plant (l.take i)) x).2 := ⟨_, rfl⟩
          rw [← hcc] at DD
          obtain ⟨t', ht'⟩ : ∃ t', t' = plant (l.take (i + 1)) := ⟨_, rfl⟩
          rw [← ht'] at DD
          have HT' := Lib.hid ht'
          unfold dv dvc at DD
          clear rw_ hcell hx hts hmem q1 q2 hnx hr hcc ht'
          go_wp2_with fail
          refine DD.out.mono ?_
          rintro e w2 ⟨rfl, on', of', k1, k2, k3⟩
          have K1 := Lib.hid k1
          have KO := Lib.hid (show ∀ b ∈ own w1.heap.size on' of', w.heap.size ≤ b from fun b hb => by
            rcases k2 b hb with h | h
            · exact HO.out b h
            · exact Nat.le_trans HW.out.size h)
          have KB := Lib.hid (HW.out.trans (k3.down HO.out HW.out.size))
          clear k1 k2 k3
          go_wp2_with fail
          go_roundg (l.length - (i + 1))
          case measure => have := HG.out; omega
          case rel => exact ⟨i + 1, on', of', by go_num, by omega, by rw [← HT'.out]; exact K1, KB, KO⟩
        · have hii : (l.length : Int) ≤ i := by omega
          have ht := HT.out
          rw [List.take_of_length_le (by omega)] at ht
          have TT := Lib.hid ht
          clear ht
          go_wp2_with fail
          go_ret
          exact ⟨HW.out, .inr ⟨HE.out, _, on, of, rfl, TT.out, HO.out⟩⟩

end Go.Proofs.YtehooifcgfkngaaDoor
