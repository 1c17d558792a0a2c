/-
  path.Parts.
-/
import Derived.Test.YtehooifcgfkngaaDoorPathPlain
import Derived.Test.YtehooifcgfkngaaDoorStrs
import Derived.Test.YtehooifcgfkngaaDoorShelf
import Derived.Lib.Strings
namespace Go.Proofs.YtehooifcgfkngaaDoor
open Go.RowKit Go.Shelf Go.Lib Go.Sort

/-- What strings.Index asks of the world: its table's bound is there. -/
def ML (w : World) : Prop := ∃ m, w.cell? ⟨0, 0, none⟩ = some (.int .i64 m)
theorem ML.lt {w : World} (h : ML w) : 0 < w.heap.size := by
  obtain ⟨m, h⟩ := h
  exact World.block_lt_of_cell? w ⟨0, 0, none⟩ h
theorem ML.below {w w' : World} (h : ML w) (hb : Below w.heap.size w w') : ML w' := by
  have hl := h.lt
  obtain ⟨m, h⟩ := h
  exact ⟨m, (hb.cell (p := ⟨0, 0, none⟩) hl).trans h⟩

theorem ml_of_shape {w : World} (h : w.ShapedOpen Tryd.prog) : ML w := Tryd.laysM146.s1_3 w h

theorem str_list (x : ByteArray) : x.toList = x.data.toList := toList_data x

theorem drop_any (x : ByteArray) (w : World) : FnGives Tryd.prog 62 #[] #[.string x] (.bool (!Pth.keep x.data.toList)) w := by
  show Calls Tryd.prog 62 #[.string x] w _
  go_enter Tryd.func62, Tryd.ntmps62
  go_wp2
  all_goals
    go_ret
    refine ⟨?_, 0, rfl⟩
    simp_all [Pth.keep, str_list]

theorem split_named (s : ByteArray) (w : World) (hs : s.size ≤ 4000000) (hm : ML w) :
    ∃ xs : List ByteArray, xs.map (·.data.toList) = Pth.split s.data.toList ∧
      Calls Tryd.prog 61 #[.string s, .string ⟨#[47]⟩] w fun e w' => e = .returned (.slice (some ⟨w.heap.size, 0, none⟩) xs.length xs.length) ∧ w' = w.alloc (.cells (xs.map Value.string).toArray 9) := by
  obtain ⟨m, hm⟩ := hm
  have h := Tryd.strings_Split s ⟨#[47]⟩ m w (by omega) hm (by decide)
  have h1 := splitB_data (⟨#[47]⟩ : ByteArray) 0 (countB s ⟨#[47]⟩) s
  have h2 := Pth.lib_split s.data.toList
  have h3 : (splitB (⟨#[47]⟩ : ByteArray) 0 (countB s ⟨#[47]⟩) s).length = countB s ⟨#[47]⟩ + 1 := splitB_all ⟨#[47]⟩ (by decide) 0 _ s rfl
  refine ⟨splitB (⟨#[47]⟩ : ByteArray) 0 (countB s ⟨#[47]⟩) s, h1.trans h2, ?_⟩
  rw [h3]
  exact h

theorem delete_named (xs : List ByteArray) (w : World) (hl : xs.length ≤ 9223372036854775807) :
    Calls Tryd.prog 60 #[.slice (some ⟨w.heap.size, 0, none⟩) xs.length xs.length, .func (.func 62) #[] #[]] (w.alloc (.cells (xs.map Value.string).toArray 9))
      fun e w' => ∃ cap, e = .returned (.slice (some ⟨w.heap.size, 0, none⟩) ((xs.map (·.data.toList)).filter Pth.keep).length cap) ∧ ((xs.map (·.data.toList)).filter Pth.keep).length ≤ cap ∧ w.heap.size < w'.heap.size ∧ RowS w' w.heap.size 0 ((xs.map (·.data.toList)).filter Pth.keep) ∧ Below w.heap.size w w' := by
  obtain ⟨W, hW⟩ : ∃ W, W = w.alloc (.cells (xs.map Value.string).toArray 9) := ⟨_, rfl⟩
  have hH : Holds Value.string W w.heap.size 0 xs.toArray := fun j hj => by
    have hj' : j < xs.length := by simpa using hj
    rw [hW]
    constructor
    · rw [(Blk.new w _ _).cell]; simp [hj']
    · exact (Blk.new w _ _).frozen _
  have hsz : W.heap.size = w.heap.size + 1 := by rw [hW]; simp
  have hBw : Below w.heap.size w W := by rw [hW]; exact (Below.refl _ _).alloc (Nat.le_refl _) _
  have h := Tryd.slices_DeleteFunc Value.string (fun _ => rfl) (fun x => !Pth.keep x.data.toList) 62 #[] (enters_of Tryd.func62 (by kernel_rfl) rfl) ByteArray.empty Tryd.zeroValue9
    w.heap.size 0 xs.length xs.toArray W (fun W' x _ => drop_any x W') (fun n os dk x _ => drop_any x _) hH (by simpa using hl) (by simp)
  rw [← hW]
  have hsx : xs.toArray.size = xs.length := by simp
  rw [hsx] at h
  have hnot : (fun x : ByteArray => !!Pth.keep x.data.toList) = fun x => Pth.keep x.data.toList := by funext x; simp
  rw [hnot] at h
  obtain ⟨ys, hys⟩ : ∃ ys, ys = xs.filter (fun x => Pth.keep x.data.toList) := ⟨_, rfl⟩
  have hyl : ys.length ≤ xs.length := by rw [hys]; exact List.length_filter_le _ _
  have hym : ys.map (·.data.toList) = (xs.map (·.data.toList)).filter Pth.keep := by rw [hys, List.filter_map]; rfl
  rw [← hym]
  refine h.mono fun e w' ⟨he, q, hw⟩ => ?_
  subst he
  have hxs : xs.toArray.toList = xs := by simp
  rw [hxs, ← hys] at hw
  obtain ⟨D, hD⟩ : ∃ D, D = (ys ++ List.replicate (xs.length - ys.length) ByteArray.empty).toArray := ⟨_, rfl⟩
  rw [← hD] at hw
  have hDs : D.size = xs.toArray.size := by rw [hD]; simp; omega
  have hH2 : Holds Value.string (Sort.ahead W q) w.heap.size 0 xs.toArray := hH
  have hDk : ∀ j (hj : j < ys.length), D[j]! = ys[j] := fun j hj => by
    rw [getElem!_pos D j (by rw [hDs]; simp; omega)]
    simp only [hD, List.getElem_toArray, List.getElem_append_left hj]
  have hbelow : Below w.heap.size w w' := by
    rw [hw]
    refine ⟨hBw.os, hBw.tape, hBw.output, ?_, fun i hi => ?_⟩
    · rw [size_putRow]; exact hBw.size
    · have : (putRow Value.string (Sort.ahead W q) w.heap.size 0 D).heap[i]? = (Sort.ahead W q).heap[i]? := by
        unfold putRow mapBlock
        rw [Array.getElem?_modify, if_neg (by omega)]
      rw [this]; exact hBw.block i hi
  have hlen : (xs.toArray.toList.filter (fun x => Pth.keep x.data.toList)).length = (ys.map (·.data.toList)).length := by rw [hxs, ← hys]; simp
  rw [hlen]
  refine ⟨_, rfl, by simpa using hyl, ?_, fun j hj => ?_, hbelow⟩
  · rw [hw, size_putRow]; show w.heap.size < W.heap.size; omega
  · have hj' : j < ys.length := by simpa using hj
    rw [hw, cell?_putRow Value.string (Sort.ahead W q) w.heap.size 0 xs.toArray D hH2 hDs j (by rw [hDs]; simp; omega), hDk j hj', List.getElem_map, bs_of]

theorem parts_row (s : ByteArray) (w : World) (hs : s.size ≤ 4000000) (hm : ML w) :
    Calls Tryd.prog 41 #[.string s] w fun e w' => ∃ b cap, e = .returned (.slice (some ⟨b, 0, none⟩) (Pth.parts s.data.toList).length cap) ∧ (Pth.parts s.data.toList).length ≤ cap ∧ w.heap.size ≤ b ∧ b < w'.heap.size ∧ RowS w' b 0 (Pth.parts s.data.toList) ∧ Below w.heap.size w w' := by
  obtain ⟨xs, hxs, hc⟩ := split_named s w hs hm
  have hl : xs.length ≤ 9223372036854775807 := by
    have := Pth.split_len s.data.toList
    rw [← hxs, List.length_map, list_size] at this
    omega
  have hd := delete_named xs w hl
  rw [hxs] at hd
  have HD := Lib.hid hd
  have HC := Lib.hid hc
  clear hd hc hxs hl hm
  go_enter Tryd.func41, Tryd.ntmps41
  go_wp2_with fail
  refine HC.out.mono ?_
  rintro e w1 ⟨rfl, rfl⟩
  go_wp2_with fail
  refine HD.out.mono ?_
  rintro e w2 ⟨cap, rfl, h0, h1, h2, h3⟩
  have H0 := Lib.hid h0
  have H1 := Lib.hid h1
  have H2 := Lib.hid h2
  have H3 := Lib.hid h3
  clear h0 h1 h2 h3
  go_wp2_with fail
  go_ret
  exact ⟨_, cap, rfl, H0.out, Nat.le_refl _, H1.out, H2.out, H3.out⟩
theorem parts_any (s : ByteArray) (w : World) (hs : s.size ≤ 4000000) (hm : ML w) :
    Calls Tryd.prog 41 #[.string s] w fun e w' => ∃ v, e = .returned v ∧ HasS w' w.heap.size v (Pth.parts s.data.toList) ∧ Below w.heap.size w w' :=
  (parts_row s w hs hm).mono fun _ _ ⟨_, _, he, h0, h1, h2, h3, h4⟩ => ⟨_, he, HasS.row h1 h2 h0 h3, h4⟩

end Go.Proofs.YtehooifcgfkngaaDoor
