/-
  Headers: what is written is read.
-/
import Derived.Test.YtdhnjbiigpiecaaDoorHeadPlain
namespace Go.Proofs.YtdhnjbiigpiecaaDoor
open Go

def allFds (r : HRaw) (d : Nat) (ls : List (List UInt8)) : List Fd := tFds r ++ (nFds ls ++ kFds r d)
theorem body_eq (r : HRaw) (d : Nat) (ls : List (List UInt8)) : body r d ls = lay blank (allFds r d ls) := by
  unfold body allFds; rw [lay_append, lay_append]
theorem magic_len (d : Nat) : (magicD d).length ≤ 8 := by unfold magicD; split; · simp
                                                          split <;> simp
theorem fds_ok {d : Nat} {r : HRaw} {ls : List (List UInt8)} (hn : NumsOk d r ls) (ht : r.tOk) : ∀ f ∈ allFds r d ls, f.ok := by
  intro f hf
  unfold allFds at hf
  rcases List.mem_append.1 hf with hf | hf
  · obtain ⟨h1, h2, h3, h4, h5⟩ := ht
    simp only [tFds, List.mem_cons, List.not_mem_nil, or_false] at hf
    rcases hf with rfl | rfl | rfl | rfl | rfl
    · exact ⟨h1.1, by simp⟩
    · exact ⟨h2.1, by simp⟩
    · exact ⟨h3.1, by simp⟩
    · exact ⟨h4.1, by simp⟩
    · exact ⟨h5.1, by simp⟩
  · rcases List.mem_append.1 hf with hf | hf
    · obtain ⟨i, hi, _, hj, rfl, hl⟩ := nFds_len hn f hf
      have : ∀ i, (hj : i < nSpots.length) → nSpots[i].1 + nSpots[i].2 ≤ 512 := by decide
      exact ⟨by show (ls[i]).length ≤ _; rw [hl]; exact Nat.le_refl _, this i hj⟩
    · simp only [kFds, List.mem_cons, List.not_mem_nil, or_false] at hf
      rcases hf with rfl | rfl
      · exact ⟨by simp, by simp⟩
      · exact ⟨magic_len d, by simp⟩
theorem list5 {α : Type} (l : List α) (h : l.length = 5) : ∃ a b c d e, l = [a, b, c, d, e] := by
  match l, h with
  | [a, b, c, d, e], _ => exact ⟨a, b, c, d, e, rfl⟩
theorem list7 {α : Type} (l : List α) (h : l.length = 7) : ∃ a b c d e f g, l = [a, b, c, d, e, f, g] := by
  match l, h with
  | [a, b, c, d, e, f, g], _ => exact ⟨a, b, c, d, e, f, g, rfl⟩
theorem fds_apart {d : Nat} {r : HRaw} {ls : List (List UInt8)} (hn : NumsOk d r ls) : (allFds r d ls).Pairwise Fd.apart := by
  have h1 := hn.1
  unfold manyD at h1
  split at h1
  · obtain ⟨a, b, c, x, e, rfl⟩ := list5 ls h1
    simp [allFds, tFds, nFds, nSpots, kFds, Fd.apart]
  · obtain ⟨a, b, c, x, e, f, g, rfl⟩ := list7 ls h1
    simp [allFds, tFds, nFds, nSpots, kFds, Fd.apart]
theorem body_fld {d : Nat} {r : HRaw} {ls : List (List UInt8)} (hn : NumsOk d r ls) (ht : r.tOk) : ∀ f ∈ allFds r d ls, fld (body r d ls) f.at_ f.long = f.txt ++ List.replicate (f.long - f.txt.length) 0 := by
  rw [body_eq]
  exact lay_at _ blank blank_len (fds_ok hn ht) (fds_apart hn) (fun f hf => blank_fld _ _ (fds_ok hn ht f hf).2)
theorem body_len {d : Nat} {r : HRaw} {ls : List (List UInt8)} (hn : NumsOk d r ls) (ht : r.tOk) : (body r d ls).length = 512 := by
  rw [body_eq]; exact lay_len _ blank blank_len (fds_ok hn ht)

def wantD (d : Nat) : Nat := if d = 4 then 2 else d

theorem num_get {d : Nat} {r : HRaw} {ls : List (List UInt8)} (hn : NumsOk d r ls) (ht : r.tOk) (hw : r.wf) (i : Nat) (hi : i < manyD d) :
    rd (fld (body r d ls) (nSpots[i]?.getD (0, 0)).1 (nSpots[i]?.getD (0, 0)).2) = some (r.nums[i]?.getD 0) := by
  have hi7 : i < 7 := by unfold manyD at hi; split at hi <;> omega
  have hil : i < ls.length := by rw [hn.1]; exact hi
  have hj : i < nSpots.length := hi7
  have h2 := hn.2 i hil
  have hlen : (ls[i]).length = nSpots[i].2 := by
    rw [List.getElem?_eq_getElem hj] at h2
    exact numW_len h2
  have hm : (⟨nSpots[i].1, nSpots[i].2, ls[i]⟩ : Fd) ∈ allFds r d ls := by
    unfold allFds nFds
    refine List.mem_append_right _ (List.mem_append_left _ (List.mem_map.2 ⟨(nSpots[i], ls[i]), ?_, rfl⟩))
    refine List.mem_iff_getElem.2 ⟨i, by rw [List.length_zip]; omega, ?_⟩
    rw [List.getElem_zip]
  have hf := body_fld hn ht _ hm
  rw [List.getElem?_eq_getElem hj] at h2 ⊢
  simp only [Option.getD_some] at h2 ⊢ hf
  rw [hf, hlen, Nat.sub_self]
  simp only [List.replicate_zero, List.append_nil]
  have hb : ∀ i, (hj : i < nSpots.length) → 2 ≤ nSpots[i].2 ∧ nSpots[i].2 ≤ 20 := by decide
  have hnum : i64 (r.nums[i]?.getD 0) := by
    obtain ⟨w1, w2, w3, w4, w5, w6, w7⟩ := hw
    match i, hi7 with
    | 0, _ => exact w1
    | 1, _ => exact w2
    | 2, _ => exact w3
    | 3, _ => exact w4
    | 4, _ => exact w5
    | 5, _ => exact w6
    | 6, _ => exact w7
  exact numW_rd (hb i hj).1 (hb i hj).2 hnum.1 hnum.2 h2

theorem txt_get {d : Nat} {r : HRaw} {ls : List (List UInt8)} (hn : NumsOk d r ls) (ht : r.tOk) (a n : Nat) (l : List UInt8) (hl : tFit n l) (hm : (⟨a, n, l⟩ : Fd) ∈ tFds r) : upTo0 (fld (body r d ls) a n) = l := by
  have := body_fld hn ht ⟨a, n, l⟩ (List.mem_append_left _ hm)
  simp only at this
  rw [this]
  exact upTo0_of l hl.2 _

theorem dialect_get {d : Nat} {r : HRaw} {ls : List (List UInt8)} (hd1 : 1 ≤ d) (hd4 : d ≤ 4) (hn : NumsOk d r ls) (ht : r.tOk) (l : List UInt8) (hl : fld l 257 8 = fld (body r d ls) 257 8) : dialectL l = wantD d := by
  have := body_fld hn ht ⟨257, 8, magicD d⟩ (List.mem_append_right _ (List.mem_append_right _ (by simp [kFds])))
  simp only at this
  unfold dialectL
  rw [hl, this]
  obtain rfl | rfl | rfl | rfl : d = 1 ∨ d = 2 ∨ d = 3 ∨ d = 4 := by omega
  all_goals decide

/-- What is written is read. -/
theorem write_read {d : Nat} {r : HRaw} {l : List UInt8} (hd1 : 1 ≤ d) (hd4 : d ≤ 4) (hw : r.wf) (h : HWrite d r l) : HRead l r (wantD d) := by
  obtain ⟨hk, ⟨hv, hg⟩, ht, ls, hn, rfl⟩ := h
  have hb := body_len hn ht
  have hs := fld_sld _ hb
  have hD := dialect_get hd1 hd4 hn ht (Bk.sld (body r d ls)) (hs 257 8 (by omega))
  obtain ⟨t1, t2, t3, t4, t5⟩ := ht
  have ht : r.tOk := ⟨t1, t2, t3, t4, t5⟩
  have hk1 : fld (body r d ls) 156 1 = [r.kind] := by
    have := body_fld hn ht ⟨156, 1, [r.kind]⟩ (List.mem_append_right _ (List.mem_append_right _ (by simp [kFds])))
    simpa using this
  refine ⟨hD.symm, ?_, ?_, ?_, ?_, ?_, ?_, ?_, ?_⟩
  · rw [hs 156 1 (by omega), hk1]
    simp [hk]
  · intro i hi
    have hmw : manyD (wantD d) = manyD d := by unfold manyD wantD; split <;> simp_all
    rw [hmw] at hi
    have hi7 : i < 7 := by unfold manyD at hi; split at hi <;> omega
    rw [hs _ _ (by match i, hi7 with
      | 0, _ => decide
      | 1, _ => decide
      | 2, _ => decide
      | 3, _ => decide
      | 4, _ => decide
      | 5, _ => decide
      | 6, _ => decide)]
    exact num_get hn ht hw i hi
  · intro h1
    have : d = 1 := by unfold wantD at h1; split at h1 <;> omega
    exact ⟨(hv this).2.2.2.1, (hv this).2.2.2.2⟩
  · rw [hs _ _ (by omega)]; exact (txt_get hn ht 0 100 r.name t1 (by simp [tFds])).symm
  · rw [hs _ _ (by omega)]; exact (txt_get hn ht 157 100 r.link t2 (by simp [tFds])).symm
  · by_cases h1 : d = 1
    · rw [if_pos (by rw [h1]; rfl)]; exact (hv h1).1
    · rw [if_neg (by unfold wantD; split <;> omega), hs _ _ (by omega)]; exact (txt_get hn ht 265 32 r.user t3 (by simp [tFds])).symm
  · by_cases h1 : d = 1
    · rw [if_pos (by rw [h1]; rfl)]; exact (hv h1).2.1
    · rw [if_neg (by unfold wantD; split <;> omega), hs _ _ (by omega)]; exact (txt_get hn ht 297 32 r.group t4 (by simp [tFds])).symm
  · have hf := (txt_get hn ht 345 155 r.front t5 (by simp [tFds])).symm
    obtain rfl | rfl | rfl | rfl : d = 1 ∨ d = 2 ∨ d = 3 ∨ d = 4 := by omega
    · rw [if_neg (by decide)]; exact (hv rfl).2.2.1
    · rw [if_pos (by decide), hs _ _ (by omega)]; exact hf
    · rw [if_neg (by decide)]; exact hg rfl
    · rw [if_pos (by decide), hs _ _ (by omega)]; exact hf

theorem hraw_ext {r q : HRaw} (h : r.name = q.name ∧ r.link = q.link ∧ r.user = q.user ∧ r.group = q.group ∧ r.front = q.front ∧ r.kind = q.kind ∧ r.nums = q.nums) : r = q := by
  obtain ⟨h1, h2, h3, h4, h5, h6, h7⟩ := h
  cases r; cases q
  simp only [HRaw.nums, List.cons.injEq] at h7
  simp_all
/-- A block tells one header. -/
theorem read_one {l : List UInt8} {r q : HRaw} {d : Nat} (hr : HRead l r d) (hq : HRead l q d) (hd : d = 1 ∨ d ≠ 1) : r = q := by
  obtain ⟨_, a1, a2, a3, a4, a5, a6, a7, a8⟩ := hr
  obtain ⟨_, b1, b2, b3, b4, b5, b6, b7, b8⟩ := hq
  refine hraw_ext ⟨by rw [a4, b4], by rw [a5, b5], by rw [a6, b6], by rw [a7, b7], by rw [a8, b8], by rw [a1, b1], ?_⟩
  have hn : ∀ i, i < manyD d → r.nums[i]?.getD 0 = q.nums[i]?.getD 0 := fun i hi => by
    have h1 := a2 i hi
    rw [b2 i hi] at h1
    exact (Option.some.inj h1).symm
  have h5 : ∀ i, i < 5 → r.nums[i]?.getD 0 = q.nums[i]?.getD 0 := fun i hi => hn i (by unfold manyD; split <;> omega)
  have g0 := h5 0 (by omega)
  have g1 := h5 1 (by omega)
  have g2 := h5 2 (by omega)
  have g3 := h5 3 (by omega)
  have g4 := h5 4 (by omega)
  have g56 : r.major = q.major ∧ r.minor = q.minor := by
    rcases hd with rfl | h
    · exact ⟨by rw [(a3 rfl).1, (b3 rfl).1], by rw [(a3 rfl).2, (b3 rfl).2]⟩
    · have e5 := hn 5 (by unfold manyD; rw [if_neg h]; omega)
      have e6 := hn 6 (by unfold manyD; rw [if_neg h]; omega)
      exact ⟨e5, e6⟩
  simp only [HRaw.nums, List.cons.injEq]
  exact ⟨g0, g1, g2, g3, g4, g56.1, g56.2, trivial⟩
/-- The numbers' texts are what the numbers are. -/
theorem nums_one {d : Nat} {r : HRaw} {ls ms : List (List UInt8)} (h : NumsOk d r ls) (h' : NumsOk d r ms) : ls = ms := by
  refine List.ext_getElem (by rw [h.1, h'.1]) fun i h1 h2 => ?_
  have e1 := h.2 i h1
  rw [h'.2 i h2] at e1
  exact (Option.some.inj e1).symm
theorem write_one {d : Nat} {r : HRaw} {l m : List UInt8} (h : HWrite d r l) (h' : HWrite d r m) : l = m := by
  obtain ⟨_, _, _, ls, hn, rfl⟩ := h
  obtain ⟨_, _, _, ms, hm, rfl⟩ := h'
  rw [nums_one hn hm]
theorem write_len {d : Nat} {r : HRaw} {l : List UInt8} (h : HWrite d r l) : l.length = 512 := by
  obtain ⟨_, _, ht, ls, hn, rfl⟩ := h
  exact Bk.seal_len _ (body_len hn ht)
theorem write_right {d : Nat} {r : HRaw} {l : List UInt8} (h : HWrite d r l) : rightL l = true := by
  obtain ⟨_, _, ht, ls, hn, rfl⟩ := h
  exact right_seal _ (body_len hn ht)

end Go.Proofs.YtdhnjbiigpiecaaDoor
