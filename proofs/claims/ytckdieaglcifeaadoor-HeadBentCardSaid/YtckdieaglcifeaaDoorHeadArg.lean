/-
  A header as an argument.
-/
import Derived.Test.YtckdieaglcifeaaDoorHeadE
import Derived.Deep.Fields
import Derived.ChangeSame
import Derived.ChangeArms
import Derived.WideShapes
import Derived.SizedLaws
import Derived.DataShut
import Derived.OpenShut
namespace Go.Proofs.YtckdieaglcifeaaDoor
open Go.ChangeShapes Go.WideShapes Go.RowKit Go.Deep

theorem raw_fields : Tryd.prog.underlying 23 = some (.struct (Tryd.prog.fieldsOf 23)) := by kernel_rfl
theorem raw_types : (Tryd.prog.fieldsOf 23).toList.map (·.type) = [9, 9, 9, 9, 9, 5, 3, 3, 3, 3, 3, 3, 3] := by kernel_rfl
theorem raw_one : oneCellFields Tryd.prog (Tryd.prog.fieldsOf 23) = true := by kernel_rfl
theorem raw_cells : Tryd.prog.cellsOf 23 = 13 := by kernel_rfl
theorem raw_size : (Tryd.prog.fieldsOf 23).size = 13 := by kernel_rfl

/-- what bounds a header's texts -/
def HRaw.fitsIn (r : HRaw) (B : Nat) : Prop := r.name.length ≤ B ∧ r.link.length ≤ B ∧ r.user.length ≤ B ∧ r.group.length ≤ B ∧ r.front.length ≤ B

set_option maxRecDepth 100000 in
theorem raw_open {H : Type} {enc : TypeId × Value → H} {W : World} {v : Value} {d : DataW H} {ps : List MemPlace} {base : Nat} (hok : Value.okWide Tryd.prog W .any base 23 v)
    (h : DataW.Trod enc Tryd.prog W 0 (fun _ => true) true 23 v d ps) (hz : ∀ n ∈ d.weights Tryd.prog 23, n ≤ reachBytes) :
    ∃ r : HRaw, v = rv r ∧ r.wf ∧ r.fitsIn reachBytes := by
  obtain ⟨cs, rfl, hsz⟩ := okWide_struct raw_fields hok
  rw [raw_cells] at hsz
  obtain ⟨fuel, hf⟩ := h
  obtain ⟨xs, n, _, hx, _, hlen, hg⟩ := DataW.trod_struct raw_fields hf
  rw [raw_size] at hlen
  have hft : ∀ (j : Nat) (t : TypeId), ((Tryd.prog.fieldsOf 23).toList.map (·.type))[j]? = some t → ∃ f, (Tryd.prog.fieldsOf 23)[j]? = some f ∧ f.type = t := by
    intro j t hj
    rw [List.getElem?_map] at hj
    obtain ⟨f, hf, e⟩ := Option.map_eq_some_iff.1 hj
    exact ⟨f, by simpa using hf, e⟩
  rw [raw_types] at hft
  have hcell : ∀ (j : Nat) (t : TypeId) (c : Value), [9, 9, 9, 9, 9, 5, 3, 3, 3, 3, 3, 3, 3][j]? = some t → cs[j]? = some c →
      DataW.trod enc Tryd.prog W 0 (fun _ => true) true n t [c] = xs[j]? := by
    intro j t c hj hc
    obtain ⟨f, hfj, rfl⟩ := hft j t hj
    obtain ⟨o, kk⟩ := hone_of raw_one j f hfj
    have := hg j f hfj
    rw [o, kk] at this
    rw [← this]
    congr 1
    obtain ⟨hlt, e⟩ := Array.getElem?_eq_some_iff.1 hc
    simp only [Value.cells]
    rw [List.drop_eq_getElem_cons (by simpa using hlt)]
    simp [e]
  obtain ⟨l⟩ := cs
  have hsz' : l.length = 13 := hsz
  match l, hsz', xs, hlen with
  | [c0, c1, c2, c3, c4, c5, c6, c7, c8, c9, c10, c11, c12], _, [y0, y1, y2, y3, y4, y5, y6, y7, y8, y9, y10, y11, y12], _ =>
    simp only [Prod.mk.injEq] at hx
    obtain ⟨hxd, _⟩ := hx
    obtain ⟨n, e0, x0, _⟩ := DataW.trod_string Tryd.underlying9 (hcell 0 9 c0 rfl rfl)
    obtain rfl : c0 = .string n := by simpa using e0
    obtain ⟨l, e1, x1, _⟩ := DataW.trod_string Tryd.underlying9 (hcell 1 9 c1 rfl rfl)
    obtain rfl : c1 = .string l := by simpa using e1
    obtain ⟨u, e2, x2, _⟩ := DataW.trod_string Tryd.underlying9 (hcell 2 9 c2 rfl rfl)
    obtain rfl : c2 = .string u := by simpa using e2
    obtain ⟨g, e3, x3, _⟩ := DataW.trod_string Tryd.underlying9 (hcell 3 9 c3 rfl rfl)
    obtain rfl : c3 = .string g := by simpa using e3
    obtain ⟨f, e4, x4, _⟩ := DataW.trod_string Tryd.underlying9 (hcell 4 9 c4 rfl rfl)
    obtain rfl : c4 = .string f := by simpa using e4
    obtain ⟨k, e5, x5, w5⟩ := DataW.trod_int Tryd.underlying5 (hcell 5 5 c5 rfl rfl)
    obtain rfl : c5 = .int .u8 k := by simpa using e5
    obtain ⟨m6, e6, x6, w6⟩ := DataW.trod_int Tryd.underlying3 (hcell 6 3 c6 rfl rfl)
    obtain rfl : c6 = .int .i64 m6 := by simpa using e6
    obtain ⟨m7, e7, x7, w7⟩ := DataW.trod_int Tryd.underlying3 (hcell 7 3 c7 rfl rfl)
    obtain rfl : c7 = .int .i64 m7 := by simpa using e7
    obtain ⟨m8, e8, x8, w8⟩ := DataW.trod_int Tryd.underlying3 (hcell 8 3 c8 rfl rfl)
    obtain rfl : c8 = .int .i64 m8 := by simpa using e8
    obtain ⟨m9, e9, x9, w9⟩ := DataW.trod_int Tryd.underlying3 (hcell 9 3 c9 rfl rfl)
    obtain rfl : c9 = .int .i64 m9 := by simpa using e9
    obtain ⟨m10, e10, x10, w10⟩ := DataW.trod_int Tryd.underlying3 (hcell 10 3 c10 rfl rfl)
    obtain rfl : c10 = .int .i64 m10 := by simpa using e10
    obtain ⟨m11, e11, x11, w11⟩ := DataW.trod_int Tryd.underlying3 (hcell 11 3 c11 rfl rfl)
    obtain rfl : c11 = .int .i64 m11 := by simpa using e11
    obtain ⟨m12, e12, x12, w12⟩ := DataW.trod_int Tryd.underlying3 (hcell 12 3 c12 rfl rfl)
    obtain rfl : c12 = .int .i64 m12 := by simpa using e12
    have hb := bounds_u8 w5
    have hk : k = ((UInt8.ofNat k.toNat).toNat : Int) := by simp [UInt8.toNat_ofNat']; omega
    have hz' : ∀ n ∈ DataW.weightsEach Tryd.prog [9, 9, 9, 9, 9, 5, 3, 3, 3, 3, 3, 3, 3] ([y0, y1, y2, y3, y4, y5, y6, y7, y8, y9, y10, y11, y12].map (·.1)), n ≤ reachBytes := by
      intro n hn
      refine hz n ?_
      rw [hxd]
      simp only [DataW.weights, raw_fields, raw_types]
      exact hn
    have hb' : ∀ (j : Nat) (s : ByteArray), [9, 9, 9, 9, 9, 5, 3, 3, 3, 3, 3, 3, 3][j]? = some 9 → ([y0, y1, y2, y3, y4, y5, y6, y7, y8, y9, y10, y11, y12].map (·.1))[j]? = some (.lit (.string s.data.toList)) → s.data.toList.length ≤ reachBytes := by
      intro j s h1 h2
      exact hz' _ (DataW.weights_mem_each h1 h2 _ (by simp [DataW.weights]))
    refine ⟨⟨n.data.toList, l.data.toList, u.data.toList, g.data.toList, f.data.toList, UInt8.ofNat k.toNat, m6, m7, m8, m9, m10, m11, m12⟩, ?_, ⟨bounds_i64 w6, bounds_i64 w7, bounds_i64 w8, bounds_i64 w9, bounds_i64 w10, bounds_i64 w11, bounds_i64 w12⟩, ?_⟩
    · simp only [rv, bs_of, ← hk]
    · exact ⟨hb' 0 n rfl (by rw [x0]; rfl), hb' 1 l rfl (by rw [x1]; rfl), hb' 2 u rfl (by rw [x2]; rfl), hb' 3 g rfl (by rw [x3]; rfl), hb' 4 f rfl (by rw [x4]; rfl)⟩

end Go.Proofs.YtckdieaglcifeaaDoor
