/-
  A map's entry made ahead of its value ('m[k], .. = v, ..').
-/
import Derived.Test.YtehooifcgfkngaaDoorMapO
namespace Go.Proofs.YtehooifcgfkngaaDoor
open Go.RowKit Go.Maps

theorem MapF.entry {P : Program} {K t e : TypeId} {w : World} {b n : Nat} {f : Lit → Option Value} (h : MapF w P K b f n) (L : Keyed P K) (ht : P.underlying t = some (.map K e)) {z : Value} (hz : ∀ w, (zeroValue e).run P w = .ok z w) (hn : n < maxLen)
    {key : Value} {kl : Lit} (hkey : keyOf P K key = some kl) (hnone : f kl = none) (v : Value) :
    ∃ (st : Int) (w1 w2 : World), (Instr.mapEntry t (.map (some b)) key).run P w = .ok (.tuple #[z, .int .i64 st]) w1 ∧ (Instr.entryStore t (.map (some b)) (.int .i64 st) v).run P w1 = .ok () w2 ∧ MapF w2 P K b (setF f kl v) (n + 1) ∧
      w.grownBy w1 (some b) ∧ w1.grownBy w2 (some b) ∧ w1.heap.size = w.heap.size ∧ w2.heap.size = w.heap.size := by
  have hlk := h.look_ok L ht hz hkey hnone
  obtain ⟨w', hup, hm', hg', hs'⟩ := h.store L ht hn hkey v
  obtain ⟨D, ⟨es, clock, hb, F, hs, hD⟩, _, _⟩ := h
  have hlt : b < w.heap.size := (Array.getElem?_eq_some_iff.1 hb).1
  rcases L.find w hkey es.toList F.keys with ⟨h1, h2⟩ | ⟨j, e0, h1, h2, h3⟩
  · have hb1 : ({ w with heap := w.heap.setIfInBounds b (.map (es.push ⟨key, z, clock⟩) (clock + 1)) } : World).heap[b]? = some (.map (es.push ⟨key, z, clock⟩) (clock + 1)) := by
      simp [hlt]
    have hup2 : (Instr.mapUpdate t (.map (some b)) key v).run P w = .ok () { w with heap := w.heap.setIfInBounds b (.map (es.push ⟨key, v, clock⟩) (clock + 1)) } := by
      simp [Instr.mapUpdate, run_underlying ht, MapKept.run_getObj_map hb, L.check w false hkey, h1, MapKept.run_setObj_map _ hb, Result.andThen]
    rw [hup2] at hup
    injection hup with _ hw
    have hfi : (es.push ⟨key, z, clock⟩).findIdx? (fun e => (e.born : Int) == (clock : Int)) = some es.size := by
      rw [Array.findIdx?_push]
      have hno : es.findIdx? (fun e => (e.born : Int) == (clock : Int)) = none := by
        rw [Array.findIdx?_eq_none_iff]
        intro x hx
        have := F.stamped.1 x (by simpa using hx)
        exact beq_eq_false_iff_ne.2 (by omega)
      rw [hno]
      simp
    have hmod : (es.push ⟨key, z, clock⟩).modify es.size (fun e => { e with val := v }) = es.push ⟨key, v, clock⟩ := by
      apply Array.ext_getElem?
      intro i
      rw [Array.getElem?_modify]
      by_cases hi : es.size = i
      · subst hi; simp
      · rw [if_neg hi, Array.getElem?_push, Array.getElem?_push, if_neg (fun e => hi e.symm), if_neg (fun e => hi e.symm)]
    refine ⟨clock, { w with heap := w.heap.setIfInBounds b (.map (es.push ⟨key, z, clock⟩) (clock + 1)) }, { w with heap := (w.heap.setIfInBounds b (.map (es.push ⟨key, z, clock⟩) (clock + 1))).setIfInBounds b (.map (es.push ⟨key, v, clock⟩) (clock + 1)) }, ?_, ?_, ?_, ?_, ?_, ?_, ?_⟩
    rotate_left 1
    · simp only [Instr.entryStore]
      simp [MapKept.run_getObj_map hb1, asInt, asIntOf, hfi, hmod, MapKept.run_setObj_map _ hb1, Result.andThen]
    · rw [hnone] at hm'
      refine hm'.same_block ?_
      rw [← hw]
      simp [hlt]
    rotate_left 4
    · simp [Instr.mapEntry, run_underlying ht, MapKept.run_getObj_map hb, L.check w false hkey, h1, hz, MapKept.run_setObj_map _ hb, Result.andThen, goInt]
    · refine ⟨rfl, rfl, rfl, by simp, fun k hk hne => ?_⟩
      have : b ≠ k := fun e => hne (by rw [e])
      simp [Array.getElem?_setIfInBounds, this]
    · refine ⟨rfl, rfl, rfl, by simp, fun k hk hne => ?_⟩
      have : b ≠ k := fun e => hne (by rw [e])
      simp [Array.getElem?_setIfInBounds, this]
    · simp
    · simp
  · exfalso
    have : (Instr.lookup t (.map (some b)) key true).run P w = .ok (.tuple #[e0.val, .bool true]) w := by
      simp [Instr.lookup, run_underlying ht, MapKept.run_getObj_map hb, L.check w _ hkey, h1, Result.andThen]
    rw [hlk] at this
    simp at this

end Go.Proofs.YtehooifcgfkngaaDoor
