/-
  pax.Read.
-/
import Derived.Test.YtjafjhhmjfpmoaaDoorPaxC
import Derived.Test.YtjafjhhmjfpmoaaDoorPaxR
import Derived.Deep.LoopGhost
namespace Go.Proofs.YtjafjhhmjfpmoaaDoor
open Go.RowKit

theorem new_two' {w : World} {g : Nat} (hg : g = w.heap.size) (t : TypeId) (x y : Value) : ∀ j u, ([x, y] : List Value)[j]? = some u → (w.alloc (.cells #[x, y] t)).cell? ((⟨g, 0, none⟩ : Addr).add j) = some u := by
  subst hg; exact new_two w t x y
theorem HasR.pushed {w : World} {B : Nat} {v : Value} {l : List Px.Rec} {a b : List UInt8} (h : w.ownsRow B 32 2 v (l.length + 1) (rcCells l ++ [.string (bs a), .string (bs b)])) : HasR w B v (l ++ [(a, b)]) := by
  unfold HasR
  rw [rcCells_app, List.length_append]
  exact h
/-- What Read comes to. -/
def ReadPost (w : World) (s : List UInt8) (e : Ending) (w' : World) : Prop :=
  match Px.read s with
  | some l => ∃ v, e = .returned (.tuple #[v, .nilIface]) ∧ HasR w' w.heap.size v l ∧ Below w.heap.size w w'
  | none => ∃ T N, e = .returned (.tuple #[.slice none 0 0, .iface T (.pointer (some ⟨N, 0, none⟩))]) ∧ Below w.heap.size w w'

set_option maxRecDepth 100000 in
set_option maxHeartbeats 2000000 in
theorem read_any (s : ByteArray) (hs : s.size ≤ 100000) (w : World) (hE : Env w) :
    Calls Tryd.prog 9 #[.string s] w (ReadPost w s.data.toList) := by
  have hsi : (s.size : Int) ≤ 100000 := by omega
  have HE := Lib.hid hE
  clear hE
  go_enter Tryd.func9, Tryd.ntmps9
  go_wp2_with fail
  go_loopg [4, 5] (s.size) (fun g ov av wr => ∃ (k : Nat) (l : List Px.Rec) (n : Nat), av = .int .i64 k ∧ k ≤ s.size ∧ g = s.size - k ∧ Below w.heap.size w wr ∧ HasR wr w.heap.size ov l ∧ l.length ≤ 20 ∧ s.size - k ≤ n ∧ Px.read s.data.toList = (Px.readF n l.length (s.data.toList.drop k)).map (l ++ ·))
  case atStart => exact ⟨0, [], s.size, rfl, by omega, by omega, Below.refl _ _, World.ownsRow_nil _ _ _ _, by simp, by omega, by simp [Px.read, list_size]⟩
  case round =>
    obtain ⟨k, l, n, rfl, hk, hg, hbw, hP, hl, hn, hR⟩ := hrel
    obtain ⟨X, cap, rfl⟩ := hP.form
    have HP := Lib.hid hP
    have HW := Lib.hid hbw
    have HG := Lib.hid hg
    have HR := Lib.hid hR
    have hli : (l.length : Int) ≤ 20 := by omega
    clear hg hbw hP hR
    by_cases hks : k < s.size
    · have hki : (k : Int) < s.size := by omega
      have hks2 : (k : Int) ≤ s.size := by omega
      have hxs := ext_size s k s.size (Nat.le_refl _)
      have hxl : (s.extract k s.size).data.toList = s.data.toList.drop k := ext_end s k
      have fr := first_any (s.extract k s.size) (by omega) wr (HE.out.below HW.out)
      rw [hxl] at fr
      have hlen : (s.data.toList.drop k).length = s.size - k := by rw [List.length_drop, list_size]
      obtain ⟨D, hD⟩ : ∃ D, D = s.data.toList.drop k := ⟨_, rfl⟩
      rw [← hD] at fr hlen
      have hR2 := HR.out
      rw [← hD] at hR2
      obtain ⟨c, D', hDc⟩ : ∃ c D', D = c :: D' := by
        cases D with
        | nil => simp at hlen; omega
        | cons c D' => exact ⟨c, D', rfl⟩
      obtain ⟨n', rfl⟩ : ∃ n', n = n' + 1 := ⟨n - 1, by omega⟩
      have hF : Px.readF (n' + 1) l.length D = match Px.first D with
        | none => none
        | some (r, k) => if l.length = 20 then none else (Px.readF n' (l.length + 1) (D.drop k)).map (r :: ·) := by
        rw [hDc]; rfl
      rw [hF] at hR2
      cases hfi : Px.first D with
      | none =>
        rw [hfi] at hR2
        have hn0 : Px.read s.data.toList = none := hR2
        have fr2 : Calls Tryd.prog 28 #[.string (s.extract k s.size)] wr fun e w' => e = .returned (.tuple #[.agg #[.string ⟨#[]⟩, .string ⟨#[]⟩], .int .i64 0, .bool false]) ∧ Below wr.heap.size wr w' := by
          refine fr.mono fun e w' h => ?_
          rw [firstV, hfi] at h
          exact h
        have FR := Lib.hid fr2
        have N0 := Lib.hid hn0
        clear fr fr2 hn0 hR2 hF hfi hDc hD hlen hxl hxs HR
        go_wp2_with fail
        refine FR.out.mono ?_
        rintro e w2 ⟨rfl, h2⟩
        have B2 := Lib.hid (thenB HW.out h2)
        clear h2
        go_wp2_with fail
        go_ret2
        unfold ReadPost
        rw [N0.out]
        exact ⟨_, _, rfl, (B2.out.alloc B2.out.size _).alloc (by have := B2.out.size; simp; omega) _⟩
      | some rn =>
        obtain ⟨⟨r1, r2⟩, m⟩ := rn
        rw [hfi] at hR2
        have hfis := Px.first_is hfi
        have fr2 : Calls Tryd.prog 28 #[.string (s.extract k s.size)] wr fun e w' => e = .returned (.tuple #[.agg #[.string (bs r1), .string (bs r2)], .int .i64 (m : Int), .bool true]) ∧ Below wr.heap.size wr w' := by
          refine fr.mono fun e w' h => ?_
          rw [firstV, hfi] at h
          exact h
        have FR := Lib.hid fr2
        have hm1 : 1 ≤ m := hfis.2.2.2.1
        have hm2 : m ≤ s.size - k := by rw [← hlen]; exact hfis.2.2.2.2
        by_cases h20 : l.length = 20
        · have hn0 : Px.read s.data.toList = none := by rw [hR2]; simp only [h20, if_true]; rfl
          have N0 := Lib.hid hn0
          have h20i : ((l.length : Int) == 20) = true := by simp; omega
          have h20j : (l.length : Int) = 20 := by omega
          clear fr fr2 hn0 hR2 hF hfi hDc hD hlen hxl hxs HR hfis h20
          go_wp2_with fail
          refine FR.out.mono ?_
          rintro e w2 ⟨rfl, h2⟩
          have B2 := Lib.hid (thenB HW.out h2)
          clear h2
          go_wp2_with fail
          go_ret2
          unfold ReadPost
          rw [N0.out]
          exact ⟨_, _, rfl, (B2.out.alloc B2.out.size _).alloc (by have := B2.out.size; simp; omega) _⟩
        · have hR3 : Px.read s.data.toList = (Px.readF n' (l ++ [(r1, r2)]).length (s.data.toList.drop (k + m))).map ((l ++ [(r1, r2)]) ++ ·) := by
            rw [hR2]
            simp only [h20, if_false]
            rw [hD, List.drop_drop, List.length_append, Option.map_map]
            congr 1
            funext x
            simp
          have R3 := Lib.hid hR3
          have h20i : ((l.length : Int) == 20) = false := by simp; omega
          obtain ⟨i0, i1, i2, i3, i4⟩ := info_parts infoRc
          have hz : ∀ w, (zeroValue 32).run Tryd.prog w = .ok (.agg #[.string ⟨#[]⟩, .string ⟨#[]⟩]) w := fun w => by kernel_rfl
          have hmi : (m : Int) ≤ 100000 := by omega
          have hkm : (k : Int) + m ≤ 100000 := by omega
          clear fr fr2 hR2 hF hfi hDc hD hlen hxl hxs HR hfis
          go_wp2_with fail
          refine FR.out.mono ?_
          rintro e w2 ⟨rfl, h2⟩
          have HP2 := Lib.hid (HP.out.later h2)
          have B2 := Lib.hid (thenB HW.out h2)
          clear h2
          have hb2 := B2.out.size
          have hcl : (Value.slice X l.length cap).cells.size = 1 := rfl
          go_wp2_with (first
            | (at_builtin; refine wpList_append_own _ rfl (.tmp 34) (.tmp 36) 23 rfl w.heap.size 32 i0 _ 2 32 Tryd.underlying23 i1 i2 i3 i4 rfl (by decide) (.slice X l.length cap) l.length (rcCells l) rfl (((show w2.ownsRow w.heap.size 32 2 (.slice X l.length cap) l.length (rcCells l) from HP2.out).alloc _).alloc _) ⟨w2.heap.size + 1, 0, none⟩ 1 1 [.string (bs r1), .string (bs r2)] rfl rfl (new_two' (by simp) _ _ _) (by intro u hu; simp at hu; rcases hu with rfl | rfl <;> rfl) (by unfold maxLen; omega) (by omega) (by simp; omega) ?_; intro v' w7 hown' hgrow _))
          have HP7 := Lib.hid (HasR.pushed hown')
          have B7 := Lib.hid (((B2.out.alloc hb2 (.cells #[.string (bs r1), .string (bs r2)] 32)).alloc (by simp; omega) (.cells #[.string (bs r1), .string (bs r2)] 32)).grown hgrow (by simp; omega) (fun q hq => (World.ownsRow.lt (show w2.ownsRow w.heap.size 32 2 (.slice X l.length cap) l.length (rcCells l) from HP2.out) q hq).1))
          clear hown' hgrow
          go_wp2_with fail
          go_roundg (s.size - (k + m))
          case measure => have := HG.out; omega
          case rel => exact ⟨k + m, l ++ [(r1, r2)], n', by go_num, by omega, rfl, B7.out, HP7.out, by simp; omega, by omega, R3.out⟩
    · have hki : (s.size : Int) ≤ k := by omega
      have hd : s.data.toList.drop k = [] := List.drop_of_length_le (by rw [list_size]; omega)
      have hres : Px.read s.data.toList = some l := by
        rw [HR.out, hd]
        cases n <;> simp [Px.readF]
      have RES := Lib.hid hres
      clear hres hd HR
      go_wp2_with fail
      go_ret2
      unfold ReadPost
      rw [RES.out]
      exact ⟨_, rfl, HP.out, HW.out⟩

end Go.Proofs.YtjafjhhmjfpmoaaDoor
