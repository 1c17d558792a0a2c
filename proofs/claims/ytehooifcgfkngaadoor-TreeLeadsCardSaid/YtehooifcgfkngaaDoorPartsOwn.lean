/-
  path.Parts gives a slice that the call owns; an append to such a slice, as one step of a region that draws its order.
-/
import Derived.Test.YtehooifcgfkngaaDoorStrRow
import Derived.Test.YtehooifcgfkngaaDoorPathE
import Derived.Deep.RegionLawGrows
namespace Go.Proofs.YtehooifcgfkngaaDoor
open Go.RowKit Go.Shelf Go.Lib Go.Sort

theorem delete_owned (xs : List ByteArray) (w : World) (hl : xs.length ≤ 1000000000) :
    Calls Tryd.prog 60 #[.slice (some ⟨w.heap.size, 0, none⟩) xs.length xs.length, .func (.func 62) #[] #[]] (w.alloc (.cells (xs.map Value.string).toArray 9))
      fun e w' => ∃ v, e = .returned v ∧ HasT w' w.heap.size v ((xs.map (·.data.toList)).filter Pth.keep) ∧ Below w.heap.size w w' := by
  obtain ⟨W, hW⟩ : ∃ W, W = w.alloc (.cells (xs.map Value.string).toArray 9) := ⟨_, rfl⟩
  have hB : W.heap[w.heap.size]? = some (.cells (xs.map Value.string).toArray 9 (0, 0)) := by rw [hW]; exact Blk.new w _ _
  have hH : Holds Value.string W w.heap.size 0 xs.toArray := fun j hj => by
    have hj' : j < xs.length := by simpa using hj
    rw [hW]
    constructor
    · rw [(Blk.new w _ _).cell]; simp [hj']
    · exact (Blk.new w _ _).frozen _
  have hBw : Below w.heap.size w W := by rw [hW]; exact (Below.refl _ _).alloc (Nat.le_refl _) _
  have h := Tryd.slices_DeleteFunc Value.string (fun _ => rfl) (fun x => !Pth.keep x.data.toList) 62 #[] (enters_of Tryd.func62 (by kernel_rfl) rfl) ByteArray.empty Tryd.zeroValue9
    w.heap.size 0 xs.length xs.toArray W (fun W' x _ => drop_any x W') (fun n os dk x _ => drop_any x _) hH (by simp; omega) (by simp)
  rw [← hW]
  have hsx : xs.toArray.size = xs.length := by simp
  rw [hsx] at h
  have hnot : (fun x : ByteArray => !!Pth.keep x.data.toList) = fun x => Pth.keep x.data.toList := by funext x; simp
  rw [hnot] at h
  obtain ⟨ys, hys⟩ : ∃ ys, ys = xs.filter (fun x => Pth.keep x.data.toList) := ⟨_, rfl⟩
  have hyl : ys.length ≤ xs.length := by rw [hys]; exact List.length_filter_le _ _
  have hym : ys.map (·.data.toList) = (xs.map (·.data.toList)).filter Pth.keep := by rw [hys, List.filter_map]; rfl
  rw [← hym]
  refine h.mono fun e w' ⟨he, q, hw⟩ => ?_
  subst he
  have hxs : xs.toArray.toList = xs := by simp
  rw [hxs, ← hys] at hw
  obtain ⟨D, hD⟩ : ∃ D, D = (ys ++ List.replicate (xs.length - ys.length) ByteArray.empty).toArray := ⟨_, rfl⟩
  rw [← hD] at hw
  have hDs : D.size = xs.length := by rw [hD]; simp; omega
  have hDk : ∀ j (hj : j < ys.length), D[j]! = ys[j] := fun j hj => by
    rw [getElem!_pos D j (by rw [hDs]; omega)]
    simp only [hD, List.getElem_toArray, List.getElem_append_left hj]
  have hbelow : Below w.heap.size w w' := by
    rw [hw]
    refine ⟨hBw.os, hBw.tape, hBw.output, ?_, fun i hi => ?_⟩
    · rw [size_putRow]; exact hBw.size
    · have : (putRow Value.string (Sort.ahead W q) w.heap.size 0 D).heap[i]? = (Sort.ahead W q).heap[i]? := by
        unfold putRow mapBlock
        rw [Array.getElem?_modify, if_neg (by omega)]
      rw [this]; exact hBw.block i hi
  have hB' : w'.heap[w.heap.size]? = some (.cells (putCells Value.string 0 D (xs.map Value.string).toArray) 9 (0, 0)) := by
    rw [hw]
    unfold putRow mapBlock
    rw [Array.getElem?_modify, if_pos rfl, show (Sort.ahead W q).heap = W.heap from rfl, hB]
    rfl
  have hlen : (xs.toArray.toList.filter (fun x => Pth.keep x.data.toList)).length = ys.length := by rw [hxs, ← hys]
  have hcs : (putCells Value.string 0 D (xs.map Value.string).toArray).size = xs.length := by unfold putCells; simp
  refine ⟨_, rfl, ⟨by simp [txCells], .inr ⟨w.heap.size, xs.length, _, ?_, Nat.le_refl _, hB', by simpa using hyl, by unfold maxLen; omega, by rw [hcs]; omega, ?_⟩⟩, hbelow⟩
  · rw [hlen, List.length_map]
  · apply List.ext_getElem?
    intro j
    rw [List.length_map, Nat.mul_one, List.getElem?_take]
    by_cases hj : j < ys.length
    · rw [if_pos hj, Array.getElem?_toList]
      unfold putCells txCells
      rw [Array.getElem?_mapIdx]
      have h1 : (xs.map Value.string).toArray[j]? = some (Value.string xs[j]) := by
        rw [List.getElem?_toArray, List.getElem?_map, List.getElem?_eq_getElem (by omega)]; rfl
      rw [h1, Option.map_some, if_pos ⟨Nat.zero_le _, by omega⟩, Nat.sub_zero, hDk j hj, List.map_map, List.getElem?_map, List.getElem?_eq_getElem hj]
      show some (Value.string ys[j]) = some (Value.string (bs ys[j].data.toList))
      rw [bs_of]
    · rw [if_neg hj, List.getElem?_eq_none (by simp [txCells]; omega)]

theorem parts_own (s : ByteArray) (w : World) (hs : s.size ≤ 4000000) (hm : ML w) :
    Calls Tryd.prog 41 #[.string s] w fun e w' => ∃ v, e = .returned v ∧ HasT w' w.heap.size v (Pth.parts s.data.toList) ∧ Below w.heap.size w w' := by
  obtain ⟨xs, hxs, hc⟩ := split_named s w hs hm
  have hl : xs.length ≤ 1000000000 := by
    have := Pth.split_len s.data.toList
    rw [← hxs, List.length_map, list_size] at this
    omega
  have hd := delete_owned xs w hl
  rw [hxs] at hd
  have HD := Lib.hid hd
  have HC := Lib.hid hc
  clear hd hc hxs hl hm
  go_enter Tryd.func41, Tryd.ntmps41
  go_wp2_with fail
  refine HC.out.mono ?_
  rintro e w1 ⟨rfl, rfl⟩
  go_wp2_with fail
  refine HD.out.mono ?_
  rintro e w2 ⟨v, rfl, h0, h1⟩
  have H0 := Lib.hid h0
  have H1 := Lib.hid h1
  clear h0 h1
  go_wp2_with fail
  go_ret
  exact ⟨_, rfl, H0.out, H1.out⟩

/-- append to a slice that the call owns, as one step of a region that draws. -/
theorem step_append_owned {P : Program} {ops : Array Oper} {o : Oper} {a : Act} {w : World} {K : Act → World → Prop} {Q : Exit → Act → World → Prop} {E : Prop}
    (hg : o.guard = none) (s x : Operand) (t : TypeId) (hop : o.op = Op.call { callee := Callee.builtin Builtin.append, args := #[s, x], argTypes := #[t, t] })
    (e : TypeId) (i : TypeInfo) (z : Value) (size bytes : Nat) (h1 : P.underlying t = some (.slice e)) (h2 : P.info? e = some i) (h3 : i.zero = some z) (h4 : i.size = size) (h5 : i.bytes = bytes) (h6 : z.cells.size = size) (h7 : 0 < size)
    (base : Nat) (v : Value) (n : Nat) (xs : List Value) (hs : a.eval s = v) (hown : w.ownsRow base e size v n xs)
    (ad : Addr) (m c : Nat) (news : List Value) (hx : a.eval x = .slice (some ad) m c) (hn : news.length = m * size) (hc : ∀ j u, news[j]? = some u → w.cell? (ad.add j) = some u) (h1c : ∀ u ∈ news, u.oneCell' = true)
    (b1 : n + m ≤ maxLen) (b2 : (n + m) * bytes ≤ 140737488355328) (hbase : base ≤ w.heap.size)
    (hK : ∀ v' w', w'.ownsRow base e size v' (n + m) (xs ++ news) → w.grownBy w' v.ownBlock → K (a.put o.dst v') w') :
    if Region.wanted o (yielded ops a.tmps) = true then Oper.wp P o a w K Q else E := by
  have hw : Region.wanted o (yielded ops a.tmps) = true := by simp [Region.wanted, hg]
  rw [if_pos hw]
  obtain ⟨v', w', hrun, r1, r2, _⟩ := run_append_own (P := P) w base t o.type e i z size bytes h1 h2 h3 h4 h5 h6 h7 v n xs hown ad m c news hn hc h1c b1 b2 hbase
  unfold Oper.wp
  simp [execOp, hop, resolve, invoke, builtin, hs, hx, hrun, Result.andThen]
  exact hK v' w' r1 r2

end Go.Proofs.YtehooifcgfkngaaDoor
