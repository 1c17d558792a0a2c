/-
  head: Full.
-/
import Derived.Test.YtkhkjacnoiopcaaGreatDoorZat
import Derived.Test.YtkhkjacnoiopcaaGreatDoorZah
import Derived.Deep.LoopGhost
import Derived.Laws.CopyRow
import Derived.Laws.Cells
import Derived.Shelf.SlGeneric
import Derived.Shelf.SlLaysYS
import Derived.Ground.GgmProg
import Derived.Shelf.SlLaysF0
import Derived.Ground.SlsfProg
import Derived.Test.YtkhkjacnoiopcaaGreatDoorProg
import Derived.Test.YtkhkjacnoiopcaaGreatDoorZag
import Derived.Shelf.SlSortCmp.NoneTotal
set_option linter.unusedVariables false
set_option linter.unusedSimpArgs false

set_option linter.unusedVariables false
set_option linter.unusedSimpArgs false
namespace Go.Proofs.YtkhkjacnoiopcaaGreatDoor
open Go.RowKit

theorem full_any (n l u g f : ByteArray) (k m1 m2 m3 m4 m5 m6 m7 : Int) (w : World) (hn : n.size ≤ 1000000) (hf : f.size ≤ 1000000) (L : ByteArray) (hL : (f.toList = [] ∧ L = n) ∨ (f.toList ≠ [] ∧ f ++ ⟨#[47]⟩ ++ n = L)) :
    Calls Tryz.prog 89 #[.agg #[.string n, .string l, .string u, .string g, .string f, .int .u8 k, .int .i64 m1, .int .i64 m2, .int .i64 m3, .int .i64 m4, .int .i64 m5, .int .i64 m6, .int .i64 m7]] w fun e w' => e = .returned (.string L) ∧ Below w.heap.size w w' := by
  rcases hL with ⟨h1, rfl⟩ | ⟨h1, h2⟩
  · have h1' : (f.toList == []) = true := by rw [h1]; rfl
    have h1'' : f.toList.isEmpty = true := by rw [h1]; rfl
    clear h1
    go_enter Tryz.func89, Tryz.ntmps89
    go_wp2_with fail
    go_ret
    exact ⟨rfl, (Below.refl _ _).alloc (Nat.le_refl _) _⟩
  · have h1' : (f.toList == []) = false := by simpa using h1
    have h1'' : f.toList.isEmpty = false := by simpa using h1
    have c1 := fun w => run_string_add_sum (P := Tryz.prog) w f ⟨#[47]⟩ (by show _ + 1 ≤ _; omega)
    have c2 := fun w => run_string_add_sum (P := Tryz.prog) w (f ++ ⟨#[47]⟩) n (by rw [ByteArray.size_append]; show _ + 1 + _ ≤ _; omega)
    clear h1
    go_enter Tryz.func89, Tryz.ntmps89
    go_wp2_with fail
    go_ret
    exact ⟨rfl, (Below.refl _ _).alloc (Nat.le_refl _) _⟩

end Go.Proofs.YtkhkjacnoiopcaaGreatDoor

set_option linter.unusedVariables false
set_option linter.unusedSimpArgs false
namespace Go.Proofs.YtkhkjacnoiopcaaGreatDoor
open Go.RowKit

end Go.Proofs.YtkhkjacnoiopcaaGreatDoor

set_option linter.unusedVariables false
set_option linter.unusedSimpArgs false
namespace Go.Proofs.YtkhkjacnoiopcaaGreatDoor
open Go.RowKit

/-- What the row holds on the way. -/
structure DInv (p : Px.Rec → Bool) (l : List Px.Rec) (cr : Array Value) (n j : Nat) : Prop where
  size : cr.size = n
  fits : l.length * 2 ≤ n
  low : ∀ (m : Nat) (hm : m < ((l.take j).filter fun r => !p r).length), cr[m * 2]? = some (.string (bs (((l.take j).filter fun r => !p r)[m]).1)) ∧ cr[m * 2 + 1]? = some (.string (bs (((l.take j).filter fun r => !p r)[m]).2))
  high : ∀ (m : Nat) (hm : m < l.length), j ≤ m → cr[m * 2]? = some (.string (bs l[m].1)) ∧ cr[m * 2 + 1]? = some (.string (bs l[m].2))
theorem kept_snoc (p : Px.Rec → Bool) (l : List Px.Rec) (j : Nat) (hj : j < l.length) : (l.take (j + 1)).filter (fun r => !p r) = (l.take j).filter (fun r => !p r) ++ (if p l[j] then [] else [l[j]]) := by
  rw [List.take_succ_eq_append_getElem hj, List.filter_append]
  congr 1
  cases h : p l[j] <;> simp [List.filter_cons, h]
theorem kept_le (p : Px.Rec → Bool) (l : List Px.Rec) (j : Nat) : ((l.take j).filter fun r => !p r).length ≤ j := by
  have := List.length_filter_le (fun r => !p r) (l.take j)
  rw [List.length_take] at this
  omega
theorem DInv.skip {p : Px.Rec → Bool} {l : List Px.Rec} {cr : Array Value} {n j : Nat} (h : DInv p l cr n j) (hj : j < l.length) (hp : p l[j] = true) : DInv p l cr n (j + 1) := by
  have e : (l.take (j + 1)).filter (fun r => !p r) = (l.take j).filter (fun r => !p r) := by rw [kept_snoc p l j hj, hp]; simp
  refine ⟨h.size, h.fits, ?_, fun m hm h2 => h.high m hm (by omega)⟩
  rw [e]
  exact h.low
theorem DInv.keep {p : Px.Rec → Bool} {l : List Px.Rec} {cr : Array Value} {n j : Nat} (h : DInv p l cr n j) (hj : j < l.length) (hp : p l[j] = false) {i : Nat} (hi : i = ((l.take j).filter fun r => !p r).length) :
    DInv p l ((cr.setIfInBounds (i * 2) (.string (bs l[j].1))).setIfInBounds (i * 2 + 1) (.string (bs l[j].2))) n (j + 1) := by
  have hle := kept_le p l j
  have hs := h.size
  have hf := h.fits
  have e : (l.take (j + 1)).filter (fun r => !p r) = (l.take j).filter (fun r => !p r) ++ [l[j]] := by rw [kept_snoc p l j hj, hp]; simp
  refine ⟨by simpa using h.size, h.fits, ?_, fun m hm h2 => ?_⟩
  · rw [e]
    intro m hm
    rw [List.length_append, List.length_singleton] at hm
    by_cases hmi : m < i
    · have hm2 : m < ((l.take j).filter fun r => !p r).length := by omega
      obtain ⟨a, b⟩ := h.low m hm2
      rw [List.getElem_append_left hm2]
      rw [← a, ← b]
      simp only [Array.getElem?_setIfInBounds]
      constructor
      · rw [if_neg (by omega), if_neg (by omega)]
      · rw [if_neg (by omega), if_neg (by omega)]
    · obtain rfl : m = i := by omega
      have e2 : ((l.take j).filter (fun r => !p r) ++ [l[j]])[m]'(by rw [List.length_append, List.length_singleton]; omega) = l[j] := by
        rw [List.getElem_append_right (by omega)]; simp
      rw [e2]
      simp only [Array.getElem?_setIfInBounds, Array.size_setIfInBounds]
      constructor
      · rw [if_neg (by omega), if_pos trivial, if_pos (by omega)]
      · rw [if_pos trivial, if_pos (by omega)]
  · obtain ⟨a, b⟩ := h.high m hm (by omega)
    rw [← a, ← b]
    simp only [Array.getElem?_setIfInBounds]
    constructor
    · rw [if_neg (by omega), if_neg (by omega)]
    · rw [if_neg (by omega), if_neg (by omega)]
theorem DInv.done {p : Px.Rec → Bool} {l : List Px.Rec} {cr cr' : Array Value} {n j : Nat} (h : DInv p l cr n j) (hj : l.length ≤ j) (hcr : ∀ i, i < (l.filter fun r => !p r).length * 2 → cr'[i]? = cr[i]?) :
    ∀ (m : Nat) (hm : m < (l.filter fun r => !p r).length), cr'[m * 2]? = some (.string (bs ((l.filter fun r => !p r)[m]).1)) ∧ cr'[m * 2 + 1]? = some (.string (bs ((l.filter fun r => !p r)[m]).2)) := by
  have e : l.take j = l := List.take_of_length_le hj
  have hl := h.low
  rw [e] at hl
  intro m hm
  rw [hcr _ (by omega), hcr _ (by omega)]
  exact hl m hm
theorem DInv.start {p : Px.Rec → Bool} {l : List Px.Rec} {cr : Array Value} {i : Nat} (hc : ∀ (m : Nat) (hm : m < l.length), cr[m * 2]? = some (.string (bs l[m].1)) ∧ cr[m * 2 + 1]? = some (.string (bs l[m].2))) (hf : l.length * 2 ≤ cr.size)
    (hi : i < l.length) (hp : p l[i] = true) (ha : ∀ x ∈ l.take i, p x = false) : DInv p l cr cr.size (i + 1) ∧ ((l.take (i + 1)).filter fun r => !p r).length = i := by
  have e0 : (l.take i).filter (fun r => !p r) = l.take i := List.filter_eq_self.2 fun x hx => by rw [ha x hx]; rfl
  have e : (l.take (i + 1)).filter (fun r => !p r) = l.take i := by rw [kept_snoc p l i hi, hp, e0]; simp
  refine ⟨⟨rfl, hf, ?_, fun m hm _ => hc m hm⟩, ?_⟩
  · rw [e]
    intro m hm
    rw [List.length_take] at hm
    rw [List.getElem_take]
    exact hc m (by omega)
  · rw [e, List.length_take]; omega

end Go.Proofs.YtkhkjacnoiopcaaGreatDoor

namespace Go.Proofs
open Go.Shelf
def Tryz.allM_ren : Go.Shelf.Ren := ⟨fun | 6 => 137 | 8 => 166 | n => n, fun | 23 => 201 | 27 => 9 | 3 => 9 | 30 => 203 | 0 => 0 | 29 => 202 | 34 => 45 | 4 => 4 | n => n, fun | n => n⟩
theorem Tryz.allM : Go.Proofs.SlLaysYS.n6 Tryz.prog Tryz.allM_ren := {
  mixed := by kernel_rfl
  f6 := ⟨Tryz.f137.name, by decide, Tryz.func137.trans (congrArg some (by kernel_rfl))⟩
  f8 := ⟨Tryz.f166.name, by decide, Tryz.func166.trans (congrArg some (by kernel_rfl))⟩
  t0 := Tryz.underlying0
  a0 := Tryz.isAgg0
  z0 := Tryz.sizeOf0
  v0 := Tryz.zeroValue0
  t3 := Tryz.underlying9
  a3 := Tryz.isAgg9
  z3 := Tryz.sizeOf9
  v3 := Tryz.zeroValue9
  t4 := Tryz.underlying4
  a4 := Tryz.isAgg4
  z4 := Tryz.sizeOf4
  v4 := Tryz.zeroValue4
  t23 := Tryz.underlying201
  a23 := Tryz.isAgg201
  z23 := Tryz.sizeOf201
  v23 := Tryz.zeroValue201
  t27 := Tryz.underlying9
  a27 := Tryz.isAgg9
  z27 := Tryz.sizeOf9
  v27 := Tryz.zeroValue9
  t29 := Tryz.underlying202
  a29 := Tryz.isAgg202
  z29 := Tryz.sizeOf202
  v29 := Tryz.zeroValue202
  t30 := Tryz.underlying203
  a30 := Tryz.isAgg203
  z30 := Tryz.sizeOf203
  v30 := Tryz.zeroValue203
  t34 := Tryz.underlying45
  a34 := Tryz.isAgg45
  z34 := Tryz.sizeOf45
  v34 := Tryz.zeroValue45 }
def Tryz.allM1_ren : Go.Shelf.Ren := ⟨fun | 8 => 166 | n => n, fun | 34 => 45 | 23 => 201 | 0 => 0 | 4 => 4 | 27 => 9 | 3 => 9 | n => n, fun | n => n⟩
theorem Tryz.allM1 : Go.Proofs.SlLaysYS.n8 Tryz.prog Tryz.allM1_ren := {
  mixed := by kernel_rfl
  f8 := ⟨Tryz.f166.name, by decide, Tryz.func166.trans (congrArg some (by kernel_rfl))⟩
  t0 := Tryz.underlying0
  a0 := Tryz.isAgg0
  z0 := Tryz.sizeOf0
  v0 := Tryz.zeroValue0
  t3 := Tryz.underlying9
  a3 := Tryz.isAgg9
  z3 := Tryz.sizeOf9
  v3 := Tryz.zeroValue9
  t4 := Tryz.underlying4
  a4 := Tryz.isAgg4
  z4 := Tryz.sizeOf4
  v4 := Tryz.zeroValue4
  t23 := Tryz.underlying201
  a23 := Tryz.isAgg201
  z23 := Tryz.sizeOf201
  v23 := Tryz.zeroValue201
  t27 := Tryz.underlying9
  a27 := Tryz.isAgg9
  z27 := Tryz.sizeOf9
  v27 := Tryz.zeroValue9
  t34 := Tryz.underlying45
  a34 := Tryz.isAgg45
  z34 := Tryz.sizeOf45
  v34 := Tryz.zeroValue45 }
def Tryz.sortP_ren : Go.Shelf.Ren := ⟨fun | 6 => 138 | 15 => 168 | 14 => 167 | 28 => 191 | 29 => 192 | 20 => 183 | 21 => 184 | 22 => 185 | 23 => 186 | 24 => 187 | 25 => 188 | 26 => 189 | 27 => 190 | 46 => 205 | 47 => 206 | 48 => 207 | 49 => 208 | 50 => 209 | 57 => 217 | n => n, fun | 22 => 36 | 24 => 43 | 25 => 206 | 3 => 3 | 39 => 69 | 0 => 0 | 53 => 219 | 55 => 222 | 4 => 4 | 46 => 255 | 45 => 254 | 50 => 212 | 5 => 5 | 9 => 9 | 66 => 277 | 70 => 190 | 76 => 290 | 77 => 291 | n => n, fun | n => n⟩
theorem Tryz.sortP : Go.Proofs.SlLaysF0.n6 Tryz.prog Tryz.sortP_ren := {
  mixed := by kernel_rfl
  f6 := ⟨Tryz.f138.name, by decide, Tryz.func138.trans (congrArg some (by kernel_rfl))⟩
  f14 := ⟨Tryz.f167.name, by decide, Tryz.func167.trans (congrArg some (by kernel_rfl))⟩
  f15 := Tryz.func168.trans (congrArg some (by kernel_rfl))
  f20 := ⟨Tryz.f183.name, by decide, Tryz.func183.trans (congrArg some (by kernel_rfl))⟩
  f21 := ⟨Tryz.f184.name, by decide, Tryz.func184.trans (congrArg some (by kernel_rfl))⟩
  f22 := ⟨Tryz.f185.name, by decide, Tryz.func185.trans (congrArg some (by kernel_rfl))⟩
  f23 := ⟨Tryz.f186.name, by decide, Tryz.func186.trans (congrArg some (by kernel_rfl))⟩
  f24 := ⟨Tryz.f187.name, by decide, Tryz.func187.trans (congrArg some (by kernel_rfl))⟩
  f25 := ⟨Tryz.f188.name, by decide, Tryz.func188.trans (congrArg some (by kernel_rfl))⟩
  f26 := ⟨Tryz.f189.name, by decide, Tryz.func189.trans (congrArg some (by kernel_rfl))⟩
  f27 := ⟨Tryz.f190.name, by decide, Tryz.func190.trans (congrArg some (by kernel_rfl))⟩
  f28 := Tryz.func191.trans (congrArg some (by kernel_rfl))
  f29 := Tryz.func192.trans (congrArg some (by kernel_rfl))
  f46 := ⟨Tryz.f205.name, by decide, Tryz.func205.trans (congrArg some (by kernel_rfl))⟩
  f47 := Tryz.func206.trans (congrArg some (by kernel_rfl))
  f48 := Tryz.func207.trans (congrArg some (by kernel_rfl))
  f49 := ⟨Tryz.f208.name, by decide, Tryz.func208.trans (congrArg some (by kernel_rfl))⟩
  f50 := ⟨Tryz.f209.name, by decide, Tryz.func209.trans (congrArg some (by kernel_rfl))⟩
  f57 := ⟨Tryz.f217.name, by decide, Tryz.func217.trans (congrArg some (by kernel_rfl))⟩
  t0 := Tryz.underlying0
  a0 := Tryz.isAgg0
  z0 := Tryz.sizeOf0
  v0 := Tryz.zeroValue0
  t3 := Tryz.underlying3
  a3 := Tryz.isAgg3
  z3 := Tryz.sizeOf3
  v3 := Tryz.zeroValue3
  t4 := Tryz.underlying4
  a4 := Tryz.isAgg4
  z4 := Tryz.sizeOf4
  v4 := Tryz.zeroValue4
  t5 := Tryz.underlying5
  a5 := Tryz.isAgg5
  z5 := Tryz.sizeOf5
  v5 := Tryz.zeroValue5
  t9 := Tryz.underlying9
  a9 := Tryz.isAgg9
  z9 := Tryz.sizeOf9
  v9 := Tryz.zeroValue9
  t22 := Tryz.underlying36
  a22 := Tryz.isAgg36
  z22 := Tryz.sizeOf36
  v22 := Tryz.zeroValue36
  t25 := Tryz.underlying206
  a25 := Tryz.isAgg206
  z25 := Tryz.sizeOf206
  v25 := Tryz.zeroValue206
  t39 := Tryz.underlying69
  a39 := Tryz.isAgg69
  z39 := Tryz.sizeOf69
  v39 := Tryz.zeroValue69
  t45 := Tryz.underlying254
  a45 := Tryz.isAgg254
  z45 := Tryz.sizeOf254
  v45 := Tryz.zeroValue254
  t46 := Tryz.underlying255
  a46 := Tryz.isAgg255
  z46 := Tryz.sizeOf255
  v46 := Tryz.zeroValue255
  t50 := Tryz.underlying212
  a50 := Tryz.isAgg212
  z50 := Tryz.sizeOf212
  v50 := Tryz.zeroValue212
  t53 := Tryz.underlying219
  a53 := Tryz.isAgg219
  z53 := Tryz.sizeOf219
  v53 := Tryz.zeroValue219
  t55 := Tryz.underlying222
  a55 := Tryz.isAgg222
  z55 := Tryz.sizeOf222
  v55 := Tryz.zeroValue222
  t66 := Tryz.underlying277
  a66 := Tryz.isAgg277
  z66 := Tryz.sizeOf277
  v66 := Tryz.zeroValue277
  t70 := Tryz.underlying190
  a70 := Tryz.isAgg190
  z70 := Tryz.sizeOf190
  v70 := Tryz.zeroValue190
  t76 := Tryz.underlying290
  a76 := Tryz.isAgg290
  z76 := Tryz.sizeOf290
  v76 := Tryz.zeroValue290
  t77 := Tryz.underlying291
  a77 := Tryz.isAgg291
  z77 := Tryz.sizeOf291
  v77 := Tryz.zeroValue291 }
end Go.Proofs

set_option linter.unusedVariables false
set_option linter.unusedSimpArgs false
namespace Go.Proofs.YtkhkjacnoiopcaaGreatDoor
open Go.RowKit Go.Sort

theorem cmpb_lt : ∀ a b : List UInt8, Lib.compareBytes a b < 0 ↔ a < b
  | [], [] => by simp [Lib.compareBytes]
  | [], _ :: _ => by simp [Lib.compareBytes]
  | _ :: _, [] => by simp [Lib.compareBytes]
  | a :: p, b :: q => by
    have ih := cmpb_lt p q
    simp only [Lib.compareBytes]
    rw [List.cons_lt_cons_iff]
    by_cases h : a < b
    · simp [h]
    · by_cases h2 : b < a
      · have : a ≠ b := fun e => by subst e; exact h h2
        simp [h, h2, this]
      · have : a = b := by
          have h1 : ¬ a.toNat < b.toNat := fun x => h (UInt8.lt_iff_toNat_lt.2 x)
          have h3 : ¬ b.toNat < a.toNat := fun x => h2 (UInt8.lt_iff_toNat_lt.2 x)
          exact UInt8.toNat_inj.1 (by omega)
        subst this
        simp [h, ih]
/-- Records by their keys. -/
def cfR (x y : Px.Rec) : Int := Lib.compareBytes x.1 y.1
theorem ltR (x y : Px.Rec) : ltOf cfR x y = decide (x.1 < y.1) := by
  unfold ltOf cfR
  exact decide_eq_decide.2 (cmpb_lt _ _)
theorem swoR : SWO (ltOf cfR) := by
  refine ⟨fun x => ?_, fun x y z h1 h2 => ?_, fun x y z h1 h2 => ?_⟩
  · rw [ltR]; exact decide_eq_false (List.lt_irrefl _)
  · rw [ltR] at *
    exact decide_eq_true (List.lt_trans (of_decide_eq_true h1) (of_decide_eq_true h2))
  · rw [ltR] at *
    have a := of_decide_eq_false h1
    have b := of_decide_eq_false h2
    exact decide_eq_false fun h => b (by
      rcases List.le_total x.1 y.1 with h3 | h3
      · exact Decidable.byContradiction fun h4 => by
          have e1 := List.le_antisymm a h3
          have e2 : z.1 ≤ y.1 := h4
          have := List.le_trans e2 a
          exact this h
      · exact Decidable.byContradiction fun h4 => by
          have e2 : z.1 ≤ y.1 := h4
          have := List.le_trans e2 h3
          exact this h)

/-- A record's cells. -/
def rcEnc (r : Px.Rec) : List Value := [.string (bs r.1), .string (bs r.2)]
theorem flat_rc (l : List Px.Rec) : (flatK rcEnc 2 l.toArray).toList = rcCells l := by
  apply List.ext_getElem?
  intro i
  by_cases hi : i < l.length * 2
  · have hj : i / 2 < l.length := by omega
    obtain ⟨g1, g2⟩ := rcCells_get l (i / 2) hj
    have hs : i < (flatK rcEnc 2 l.toArray).size := by rw [size_flatK]; simpa using hi
    rw [Array.getElem?_toList, Array.getElem?_eq_getElem hs]
    have hg := get_flatK rcEnc 2 l.toArray i (by simpa using hi)
    rw [getElem!_pos (flatK rcEnc 2 l.toArray) i hs] at hg
    rw [hg, getElem!_pos l.toArray (i / 2) (by simpa using hj)]
    rcases (by omega : i % 2 = 0 ∧ i = i / 2 * 2 ∨ i % 2 = 1 ∧ i = i / 2 * 2 + 1) with ⟨e, e'⟩ | ⟨e, e'⟩
    · rw [e, show (rcCells l)[i]? = (rcCells l)[i / 2 * 2]? from by rw [← e'], g1]; rfl
    · rw [e, show (rcCells l)[i]? = (rcCells l)[i / 2 * 2 + 1]? from by rw [← e'], g2]; rfl
  · rw [List.getElem?_eq_none (by simp; omega), List.getElem?_eq_none (by rw [rcCells_len]; omega)]

theorem pxcmp_any (x y : Px.Rec) (w : World) : Calls Tryz.prog 139 #[.agg #[.string (bs x.1), .string (bs x.2)], .agg #[.string (bs y.1), .string (bs y.2)]] w fun e w' => e = .returned (.int .i64 (cfR x y)) ∧ w' = grow (w.drewN 0) #[.cells #[.string (bs x.1), .string (bs x.2)] 43, .cells #[.string (bs y.1), .string (bs y.2)] 43] := by
  have e1 : ∀ w : World, ∀ o1 o2 : Obj, (w.alloc o1).alloc o2 = grow (w.drewN 0) #[o1, o2] := fun w o1 o2 => by
    rw [alloc_eq_grow, alloc_eq_grow, grow_grow]; rfl
  have H := Lib.hid (fun w => Tryz.strings_Compare (bs x.1) (bs y.1) w)
  have E1 := Lib.hid e1
  clear e1
  go_enter Tryz.func139, Tryz.ntmps139
  go_wp2_with fail
  refine (H.out _).mono ?_
  rintro e w1 ⟨rfl, hw⟩
  subst hw
  go_wp2_with fail
  go_ret
  exact ⟨rfl, E1.out _ _ _⟩

theorem heap_sortedK {w : World} {g n : Nat} {os : Array Obj} {cur : Array Value} {e : TypeId} {fr : Nat × Nat} (F : Array Value) (hb : w.heap[g]? = some (.cells cur e fr)) :
    (grow (putRow id (Sort.ahead w n) g 0 F) os).heap[g]? = some (.cells (putCells id 0 F cur) e fr) := by
  have hg : g < w.heap.size := (Array.getElem?_eq_some_iff.1 hb).1
  rw [heap_grow_old _ _ (by simpa using hg)]
  simp [putRow, mapBlock, Sort.ahead, Array.getElem?_modify, hb, onCells]
theorem grownBy_sortedK {w : World} {g n : Nat} {os : Array Obj} (F : Array Value) : w.grownBy (grow (putRow id (Sort.ahead w n) g 0 F) os) (some g) := by
  refine ⟨rfl, rfl, rfl, by simp, fun k hk hne => ?_⟩
  rw [heap_grow_old _ _ (by simpa using hk)]
  have : g ≠ k := fun e => hne (by rw [e])
  simp [putRow, mapBlock, Sort.ahead, Array.getElem?_modify, this]
theorem take_putCellsK (cur F : Array Value) (h : F.size ≤ cur.size) : (putCells id 0 F cur).toList.take F.size = F.toList := by
  apply List.ext_getElem?
  intro j
  by_cases hj : j < F.size
  · rw [List.getElem?_take_of_lt hj, Array.getElem?_toList, Array.getElem?_toList]
    simp [putCells, hj, show j < cur.size by omega]
  · rw [List.getElem?_take_eq_none (by omega), List.getElem?_eq_none (by simp; omega)]

/-- slices.SortFunc at records of the call's own. -/
theorem sort_any {w : World} {B : Nat} {v : Value} {l : List Px.Rec} (h : HasR w B v l) (hl : l.length ≤ 1000000) :
    Calls Tryz.prog 138 #[v, .func (.func 139) #[] #[]] w fun e w' => e = .returned (.tuple #[]) ∧ ∃ M : List Px.Rec, M.Perm l ∧ (M.Pairwise fun p q => ¬ q.1 < p.1) ∧ HasR w' B v M ∧ w.grownBy w' v.ownBlock := by
  obtain ⟨h1, hw⟩ := h
  rcases hw with ⟨rfl, h0⟩ | ⟨g, cap, cur, rfl, hB, hg, hc, hcm, hcs, ht⟩
  · obtain rfl := List.length_eq_zero_iff.1 h0
    exact (AnyF.slices_SortFunc_none Tryz.sortP none 0 _ w).mono fun e w' ⟨he, hw⟩ => ⟨he, [], List.Perm.refl _, List.Pairwise.nil, (by subst hw; exact World.ownsRow_nil _ _ _ _), by subst hw; exact only_refl _ _⟩
  · have hgl : g < w.heap.size := (Array.getElem?_eq_some_iff.1 hg).1
    have hH : HoldsK rcEnc 2 w g 0 l.toArray := by
      intro j hj
      rw [size_flatK] at hj
      have hj' : j < l.length * 2 := by simpa using hj
      refine ⟨?_, by simp [World.frozen?, hg]⟩
      have hs : j < (flatK rcEnc 2 l.toArray).size := by rw [size_flatK]; exact hj
      have e1 : (cur.toList.take (l.length * 2))[j]? = (flatK rcEnc 2 l.toArray).toList[j]? := by rw [ht, flat_rc]
      rw [List.getElem?_take_of_lt hj', Array.getElem?_toList, Array.getElem?_toList, Array.getElem?_eq_getElem hs] at e1
      rw [cell_of_row w g _ cur _ (0, 0) hg, Nat.zero_add, e1, getElem!_pos (flatK rcEnc 2 l.toArray) j hs]
      rfl
    have hcmp : CmpLays Tryz.prog 139 #[] rcEnc 2 cfR g 0 l.toArray.size w := fun m os dk _ x y =>
      (pxcmp_any x y _).mono fun e w' ⟨he, hw⟩ => ⟨he, 0, _, hw⟩
    have hs := AnyQ.slices_SortFunc Tryz.sortP 2 Tryz.isAgg43 Tryz.sizeOf43 rcEnc (fun _ => rfl) (fun x u hu => by simp [rcEnc] at hu; rcases hu with rfl | rfl <;> rfl) cfR swoR 139 #[] g 0 cap l.toArray w (fun args w => by go_simp) hcmp hH hgl (by simp; omega)
    have hz : l.toArray.size = l.length := by simp
    rw [hz] at hs
    refine hs.mono fun e w' ⟨he, d', n, os, hp, hso, hw⟩ => ⟨he, d'.toList, ?_, ?_, ?_, ?_⟩
    · have := hp.2.2
      have hd : d'.size = l.length := by rw [hp.1]; simp
      rw [show d'.extract 0 l.length = d' from by rw [← hd]; simp, show l.toArray.extract 0 l.length = l.toArray from by simp] at this
      simpa using this
    · rw [List.pairwise_iff_getElem]
      intro i j hi hj hij
      have hd : d'.size = l.length := by rw [hp.1]; simp
      have hi' : i < d'.size := by simpa using hi
      have hj' : j < d'.size := by simpa using hj
      have := hso i j (Nat.zero_le _) hij (by omega)
      rw [getElem!_pos d' j hj', getElem!_pos d' i hi', ltR] at this
      simpa using of_decide_eq_false this
    · have hd : d'.size = l.length := by rw [hp.1]; simp
      have hdl : d'.toList.length = l.length := by simpa using hd
      have hfl : (flatK rcEnc 2 d').size = l.length * 2 := by rw [size_flatK, hd]
      have hfe : (flatK rcEnc 2 d').toList = rcCells d'.toList := by have := flat_rc d'.toList; simpa using this
      rw [hw]
      refine ⟨rcCells_len _, .inr ⟨g, cap, _, by rw [hdl], hB, heap_sortedK (flatK rcEnc 2 d') hg, by rw [hdl]; exact hc, hcm, by simp [putCells, hcs], ?_⟩⟩
      rw [hdl, ← hfl, ← hfe]
      exact take_putCellsK cur _ (by rw [hfl, hcs]; exact Nat.mul_le_mul_right 2 hc)
    · rw [hw]
      exact grownBy_sortedK _

end Go.Proofs.YtkhkjacnoiopcaaGreatDoor
